/-
  The walk of ZerosAny.
-/
import Derived.Test.YtfnmbfhlfblkhaaZerosBegun
import Derived.Test.YtfnmbfhlfblkhaaZerosRef
import Derived.Test.YtfnmbfhlfblkhaaShort
import Derived.OpenShut
set_option linter.unusedVariables false
set_option linter.unusedSimpArgs false
namespace Go.Proofs.Ytfnmbfhlfblkhaa
open Go.RowKit Go.ChangeShapes Go.WideShapes
set_option maxRecDepth 100000
set_option maxHeartbeats 2000000 in
theorem ZerosAny_walk (w : World) (v : Value) (n : Nat) (zs : List Int) (rd : Rd w 1 v n (zs.map (Value.int .i64))) (_wf : ∀ z ∈ zs, (Lit.int .i64 z).wf = true) (sz : n * 8 ≤ 140737488351232) (most : Int) (wf2 : (Lit.int .i64 most).wf = true) :
    Calls Try.prog 3 #[v, .int .i64 most] w fun e w' => e = .returned (.bool true) ∧ Below w.heap.size w w' := by
  have hlen := rd.len
  obtain ⟨ao, cap, rfl⟩ := rd.shape
  have hsm := rd.small
  have hcp := rd.cap.1
  have hcp2 := rd.cap.2
  have rd' : Rd w 1 (.slice ao n cap) n (iv zs) := rd
  simp only [List.length_map, Nat.mul_one] at hlen
  clear rd
  go_enter Try.func3, Try.ntmps3
  go_wp2_with fail
  refine (begun5 _).mono ?_
  rintro e w1 ⟨rfl, hb⟩
  have hS := (St.init w).mono hb
  have hrd := rd'.keep hb
  clear hb rd'
  go_upto_if 15 with (fail)
  go_cut [0] (fun s0 wc => w1 = wc ∧ ∃ l : List Int, Rd w1 1 s0 l.length (iv l) ∧ l.length ≤ 40)
  case first =>
    by_cases q : 40 < n
    · have q' : (40 : Int) < n := by omega
      have hcap : ao ≠ none := by
        rintro rfl
        have := hrd.none_iff
        omega
      obtain ⟨ad, rfl⟩ : ∃ ad, ao = some ad := by cases ao with | none => exact absurd rfl hcap | some ad => exact ⟨ad, rfl⟩
      clear hcap
      go_wp2_with fail
      go_meet
      case rel =>
        refine ⟨rfl, zs.take 40, ?_, by simp; omega⟩
        have := hrd.take 40 (by omega)
        rw [Nat.mul_one] at this
        rw [show (zs.take 40).length = 40 from by simp; omega]
        simpa [iv] using this
    · have q' : ¬ (40 : Int) < n := by omega
      go_wp2_with fail
      go_meet
      case rel => exact ⟨rfl, zs, by rw [hlen]; exact hrd, by omega⟩
  case rest =>
    obtain ⟨rfl, l, hl, hl40⟩ := hcut
    clear hrd hlen hsm hcp hcp2 sz
    go_upto_if 19 with (fail)
    go_cut [1] (fun s1 wc => w1 = wc ∧ ∃ m : Int, s1 = .int .i64 m ∧ m ≤ 5000 ∧ -9223372036854775808 ≤ m)
    case first =>
      by_cases q : 5000 < most
      · go_wp2_with fail
        go_meet
        case rel => exact ⟨rfl, 5000, rfl, by omega, by omega⟩
      · have hb := bounds_i64 wf2
        go_wp2_with fail
        go_meet
        case rel => exact ⟨rfl, most, rfl, by omega, hb.1⟩
    case rest =>
      obtain ⟨rfl, m, rfl, hm, hm2⟩ := hcut
      clear wf2
      go_wp2_with fail
      refine (decode_any _ l m _ hl (by omega) (by omega)).mono ?_
      rintro e w2 ⟨v2, rfl, c2, hr2, hs2⟩
      have hl2 := hl.keep hs2.below
      replace hS := hS.join hs2
      clear hs2 hl
      go_wp2_with fail
      refine (unzeros_nat _ l m m.toNat _ hl2 (by omega) (by omega) (by omega)).mono ?_
      rintro e w3 ⟨v3, rfl, c3, hr3, hs3⟩
      replace hS := hS.join hs3
      clear hs3 hl2
      generalize dec m.toNat l [] 1 = r at *
      have k2 := conv_str (hr2.rd hS 1 rfl)
      have k3 := conv_str (hr3.rd hS 0 rfl)
      go_wp2_with fail
      go_ret
      exact ⟨by simp, hS.below⟩
end Go.Proofs.Ytfnmbfhlfblkhaa

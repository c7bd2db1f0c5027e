/-
  The walk of CodesRead.
-/
import Derived.Test.YtdgpbgdpdmikaaaCodesBegun
import Derived.Test.YtdgpbgdpdmikaaaCodesRefR
set_option linter.unusedVariables false
set_option linter.unusedSimpArgs false
namespace Go.Proofs.Ytdgpbgdpdmikaaa
open Go.RowKit
set_option maxRecDepth 100000
theorem readP_err (l : List Int) (e most : Int) : ∀ m out at_ bits, (readP l e most m out at_ bits).1 = 0 ∨ (readP l e most m out at_ bits).1 = 2 ∨ (readP l e most m out at_ bits).1 = 6
  | 0, _, _, _ => .inr (.inr rfl)
  | m + 1, out, at_, bits => by
    rw [readP]
    split
    · exact .inr (.inl rfl)
    · split
      · exact .inr (.inr rfl)
      · split
        · exact .inl rfl
        · exact readP_err l e most m _ _ _
set_option maxHeartbeats 2000000 in
theorem CodesRead_walk (w : World) (v : Value) (bs0 : List UInt8) (rd0 : Rd w 1 v bs0.length (bv bs0)) (sz0 : bs0.length ≤ 140737488351232)
    (v1 : Value) (n1 : Nat) (zs : List Int) (rd : Rd w 1 v1 n1 (zs.map (Value.int .i64))) (_wf : ∀ z ∈ zs, (Lit.int .i64 z).wf = true) (sz : n1 * 8 ≤ 140737488351232)
    (ed : Int) (wf2 : (Lit.int .i64 ed).wf = true) (most : Int) (wf3 : (Lit.int .i64 most).wf = true) :
    Calls Try.prog 5 #[v, v1, .int .i64 ed, .int .i64 most] w fun e w' => e = .returned (.bool true) ∧ Below w.heap.size w w' := by
  have hlen := rd.len
  simp only [List.length_map, Nat.mul_one] at hlen
  subst hlen
  replace rd : Rd w 1 v1 zs.length (iv zs) := rd
  clear wf2 wf3 _wf sz sz0
  go_enter Try.func5, Try.ntmps5
  go_wp2_with fail
  refine (begun7 _).mono ?_
  rintro e w1 ⟨rfl, hb⟩
  have hS := (St.init w).mono hb
  clear hb
  go_wp2_with fail
  refine (short_gen v bs0 60 w1 (rd0.keep hS.below) (by omega)).mono ?_
  rintro e w2 ⟨vb, rfl, hB, rfl⟩
  replace hB := hB w rd0
  have hbl : (bs0.take 60).length ≤ 60 := by rw [List.length_take]; omega
  generalize bs0.take 60 = bs at *
  go_wp2_with fail
  refine (cut7_gen _ zs w1 (rd.keep hS.below)).mono ?_
  rintro e w2 ⟨v2, rfl, h, rfl⟩
  replace h := h w rd
  have hll : (zs.take 302).length ≤ 302 := by rw [List.length_take]; omega
  generalize zs.take 302 = l at *
  obtain ⟨ao, cap, rfl⟩ := h.shape
  obtain ⟨aob, capb, rfl⟩ := hB.shape
  clear rd rd0
  go_wp2_with fail
  refine (bread_any _ bs (hB.keep hS.below) (by omega)).mono ?_
  rintro e w3 ⟨p, c3, rfl, hrc, hS3⟩
  replace hS := hS.join hS3
  replace hS : St w.heap.size w w3 [c3] := hS
  clear hS3
  cases hok : okLens l with
  | false =>
    go_wp2_with fail
    refine (read_bad _ _ l ed most hS (h.st hS) (by omega) hok).mono ?_
    rintro e w4 ⟨rfl, hS⟩
    go_wp2_with fail
    refine (bits_any _ bs w4 (hB.st hS) (by omega)).mono ?_
    rintro e w5 ⟨v5, c5, rfl, hr5, hS5⟩
    replace hS := hS.join hS5
    go_wp2_with fail
    refine (refread_bad _ _ l ed most w5 (h.st hS) (by omega) hok).mono ?_
    rintro e w6 ⟨u6, c6, rfl, hr6, hS6⟩
    replace hS := hS.join hS6
    clear hS5 hS6 hr5 hok
    obtain ⟨ao6, cap6, rfl⟩ := hr6.shape
    go_wp2_with fail
    refine (ints_any _ _ [] [] w6 (Rd.nil _ _) (hr6.rd hS 0 rfl)).mono ?_
    rintro e w7 ⟨rfl, hd⟩
    replace hS := hS.Drew hd
    rw [show decide (([] : List Int) = []) = true from rfl]
    go_wp2_with fail
    go_ret
    exact ⟨rfl, hS.below⟩
  | true =>
    have hl3 := ((okLens_iff l).1 hok).1
    go_wp2_with fail
    refine (read_any p _ l bs 0 ed most hS hrc (h.st hS) hl3 (by omega) hok (fun w' c' hx => h.keep hx.below)).mono ?_
    rintro e w4 ⟨u4, c4, rfl, hr4, c5, n5, hrc5, hS4, hn5⟩
    rw [List.drop_zero, Nat.zero_add] at *
    clear hS hrc
    go_wp2_with fail
    refine (bits_any _ bs w4 (hB.st hS4) (by omega)).mono ?_
    rintro e w5 ⟨v5, c6, rfl, hr5, hS5⟩
    replace hS4 := hS4.join hS5
    have hbb := bitsB_length bs
    rw [← hbb] at hr5 hr4 hn5
    go_wp2_with fail
    refine (refread_any _ _ l (bitsB bs) ed most w5 (h.st hS4) (hr5.rd hS4 0 rfl) hl3 (by omega) hok).mono ?_
    rintro e w6 ⟨u6, c7, rfl, hr6, hS6⟩
    replace hS4 := hS4.join hS6
    rw [← hbb]
    have herr := readP_err l ed most ((bitsB bs).length + 1) [] 0 (bitsB bs)
    generalize readP l ed most ((bitsB bs).length + 1) [] 0 (bitsB bs) = r at *
    clear hS5 hS6 hok hbb
    obtain ⟨ao6, cap6, rfl⟩ := hr6.shape
    obtain ⟨ao4, cap4, rfl⟩ := hr4.shape
    have hS8 := hS4.pick [3, 0, 2] (by decide) [c5, c7, c4] rfl
    go_wp2_with fail
    refine (ints_any _ _ r.2.1 r.2.1 w6 (hr4.rd hS8 2 rfl) (hr6.rd hS8 1 rfl)).mono ?_
    rintro e w7 ⟨rfl, hd⟩
    replace hS8 := hS8.Drew hd
    rw [show decide (r.2.1 = r.2.1) = true from by simp]
    by_cases hr0 : r.1 = 0
    · have hnn := hn5 hr0
      have q : (r.1 != 0) = false := by simpa using hr0
      go_wp2_with fail
      refine (left_any p bs _ hS8 hrc5 (by omega)).mono ?_
      rintro e w8 ⟨rfl, hd2⟩
      replace hS8 := hS8.Drew hd2
      have hle := hrc5
      obtain ⟨_, _, _, _, hle⟩ := hle
      rw [hnn] at hle ⊢
      have hle2 : (r.2.2 : Int) ≤ 8 * (bs.length : Int) := by omega
      clear hnn hn5 hle
      go_wp2_with fail
      go_ret
      exact ⟨rfl, hS8.below⟩
    · have q : (r.1 != 0) = true := by simpa using hr0
      go_wp2_with fail
      go_ret
      exact ⟨rfl, hS8.below⟩
end Go.Proofs.Ytdgpbgdpdmikaaa

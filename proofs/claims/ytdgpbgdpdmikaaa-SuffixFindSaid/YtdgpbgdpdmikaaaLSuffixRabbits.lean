/-
  The walk of SuffixRabbits.
-/
import Derived.Test.YtdgpbgdpdmikaaaSufBegun
import Derived.Test.YtdgpbgdpdmikaaaBytesStr
import Derived.Laws.Cover1
set_option linter.unusedVariables false
set_option linter.unusedSimpArgs false
namespace Go.Proofs.Ytdgpbgdpdmikaaa
open Go.RowKit
set_option maxRecDepth 100000
theorem less_nb : ∀ a b : List UInt8, Op.bytesLess a b = lexlt (nb a) (nb b)
  | [], [] => rfl
  | _ :: _, [] => by simp [Op.bytesLess, nb, lexlt]
  | [], _ :: _ => by simp [Op.bytesLess, nb, lexlt]
  | x :: a, y :: b => by
    have ih := less_nb a b
    unfold nb at ih
    simp only [Op.bytesLess, nb, lexlt, List.map_cons, ih]
    congr 1
    congr 1
    rw [Bool.eq_iff_iff, beq_iff_eq, beq_iff_eq]
    exact UInt8.toNat_inj.symm
theorem sa_less {b : List UInt8} {T : List Nat} (h : IsSA (nb b) T) {i : Nat} (hi : i + 1 < T.length) : Op.bytesLess (b.drop (ch T i)) (b.drop (ch T (i + 1))) = true := by
  rw [less_nb]
  have := h.less (ch_some T i (by omega)) (ch_some T (i + 1) hi) (by omega)
  unfold nb at this ⊢
  rw [List.map_drop, List.map_drop]
  exact this
/-- The words that grow. -/
def rab (a b : List UInt8) : Nat → List UInt8 × List UInt8
  | 0 => (a, b)
  | k + 1 => ((rab a b k).2, (rab a b k).2 ++ (rab a b k).1)
def fibs : Nat → Nat × Nat
  | 0 => (1, 1)
  | k + 1 => ((fibs k).2, (fibs k).2 + (fibs k).1)
theorem rab_len (x y : UInt8) : ∀ k, (rab [x] [y] k).1.length = (fibs k).1 ∧ (rab [x] [y] k).2.length = (fibs k).2
  | 0 => ⟨rfl, rfl⟩
  | k + 1 => by
    have := rab_len x y k
    simp only [rab, fibs, List.length_append]
    omega
theorem fibs_le : ∀ k, k ≤ 13 → (fibs k).1 ≤ 1000 ∧ (fibs k).2 ≤ 1000 := by decide
set_option maxHeartbeats 2000000 in
theorem SuffixRabbits_walk (w : World) (n : Int) (wf : (Lit.int .i64 n).wf = true) (x : Int) (wx : (Lit.int .u8 x).wf = true) (y : Int) (wy : (Lit.int .u8 y).wf = true) :
    Calls Try.prog 14 #[.int .i64 n, .int .u8 x, .int .u8 y] w fun e w' => e = .returned (.bool true) ∧ Below w.heap.size w w' := by
  obtain ⟨i0, i0a, i0b, i0c, i0d⟩ := info_parts infoU8
  by_cases q1 : n < 0
  · go_enter Try.func14, Try.ntmps14
    go_wp2_with fail
    refine (begun8 _).mono ?_
    rintro e w1 ⟨rfl, hb⟩
    go_wp2_with fail
    go_ret
    exact ⟨rfl, hb⟩
  by_cases q2 : 13 < n
  · go_enter Try.func14, Try.ntmps14
    go_wp2_with fail
    refine (begun8 _).mono ?_
    rintro e w1 ⟨rfl, hb⟩
    go_wp2_with fail
    go_ret
    exact ⟨rfl, hb⟩
  obtain ⟨N, rfl⟩ := Int.eq_ofNat_of_zero_le (show 0 ≤ n by omega)
  have hN : N ≤ 13 := by omega
  have hNi : (N : Int) ≤ 13 := by omega
  have byte : ∀ z : Int, (Lit.int .u8 z).wf = true → ∃ b : UInt8, z = (b.toNat : Int) := by
    intro z hz
    have h := hz
    have h1 : IntKind.u8.min = 0 := rfl
    have h2 : IntKind.u8.max = 255 := rfl
    simp [Lit.wf] at h
    exact ⟨UInt8.ofNat z.toNat, by rw [UInt8.toNat_ofNat']; omega⟩
  obtain ⟨x, rfl⟩ := byte x wx
  obtain ⟨y, rfl⟩ := byte y wy
  clear q1 wf wx wy byte
  go_enter Try.func14, Try.ntmps14
  go_wp2_with fail
  refine (begun8 _).mono ?_
  rintro e w1 ⟨rfl, hb⟩
  have hS := (St.init w).mono hb
  clear hb
  have hS1 := (hS.alloc (.cells #[.int .u8 (x.toNat : Int)] 5)).alloc (.cells #[.int .u8 (y.toNat : Int)] 5)
  have hrx : RowC 5 1 (.slice (some ⟨w1.heap.size, 0, none⟩) 1 1) 1 (bv [x]) [(w1.heap.size, Obj.cells #[.int .u8 (x.toNat : Int)] 5 (0, 0))] := RowC.fresh _ _ rfl (Nat.le_refl _) (by decide) rfl rfl
  have hry : RowC 5 1 (.slice (some ⟨w1.heap.size + 1, 0, none⟩) 1 1) 1 (bv [y]) [(w1.heap.size + 1, Obj.cells #[.int .u8 (y.toNat : Int)] 5 (0, 0))] := RowC.fresh _ _ rfl (Nat.le_refl _) (by decide) rfl rfl
  have HQ := Lib.hid (And.intro hrx (And.intro hry hS1))
  clear hrx hry hS1 hS
  go_wp2_with fail
  go_loopg [8, 9, 10] N (fun m s8 s9 s10 wr => ∃ k : Nat, k + m = N ∧ s10 = .int .i64 (k : Int) ∧ ∃ ca cb, Hid (RowC 5 1 s8 (rab [x] [y] k).1.length (bv (rab [x] [y] k).1) ca ∧ RowC 5 1 s9 (rab [x] [y] k).2.length (bv (rab [x] [y] k).2) cb ∧ St w.heap.size w wr [cb, ca]))
  case atStart =>
    refine ⟨0, by omega, rfl, _, _, Lib.hid ⟨HQ.out.1, HQ.out.2.1, ?_⟩⟩
    have := HQ.out.2.2
    simpa using this
  case round =>
    clear HQ
    obtain ⟨k, hk, rfl, ca, cb, HQ⟩ := hrel
    have hra := HQ.out.1
    have hrb := HQ.out.2.1
    have hS := HQ.out.2.2
    have hl := rab_len x y k
    have hf := fibs_le k (by omega)
    have h1 : (rab [x] [y] k).1.length ≤ 1000 := by omega
    have h2 : (rab [x] [y] k).2.length ≤ 1000 := by omega
    clear hl hf
    obtain ⟨aoa, capa, rfl⟩ := hra.shape
    obtain ⟨aob, capb, rfl⟩ := hrb.shape
    cases gk with
    | succ m =>
      have hS0 := hS.one_nil
      have hda := hra.rd hS 1 rfl
      have hdb := hrb.rd hS 0 rfl
      have HR := Lib.hid (And.intro hra hrb)
      clear hra hrb HQ
      generalize hA : rab [x] [y] k = A at *
      have HA := Lib.hid hA
      clear hA
      go_wp2_with (first | (at_builtin; (refine wpList_app 0 37 i0 (.int .u8 0) _ _ rfl rfl rfl rfl Try.underlying37 i0a i0b i0c i0d rfl (by decide) hS0 rfl (RowC.nil 5 1) hdb (bv_one A.2) ?_ ?_ ?_); (unfold maxLen; omega); omega; intro v2 c2 w3 hr2 hS2) | (at_builtin; (refine wpList_app 0 37 i0 (.int .u8 0) _ _ rfl rfl rfl rfl Try.underlying37 i0a i0b i0c i0d rfl (by decide) hS2 rfl hr2 (HR.out.1.rd (show St w.heap.size w w3 [c2, cb, ca] from hS2) 2 rfl) (bv_one A.1) ?_ ?_ ?_); (unfold maxLen; omega); omega; intro v3 c3 w4 hr3 hS3))
      go_roundg m
      case measure => omega
      case rel =>
        simp only [Nat.zero_add, List.nil_append] at hr3
        have hS4 : St w.heap.size w w4 [c3, cb, ca] := hS3
        have e : rab [x] [y] (k + 1) = (A.2, A.2 ++ A.1) := by rw [rab, HA.out]
        refine ⟨k + 1, by omega, by go_num, cb, c3, Lib.hid ?_⟩
        rw [e]
        exact ⟨HR.out.2, by rw [show bv (A.2 ++ A.1) = bv A.2 ++ bv A.1 from by simp [bv], List.length_append]; exact hr3, hS4.pick [0, 1] (by decide) [c3, cb] rfl⟩
    | zero =>
      obtain rfl : k = N := by omega
      generalize hb : (rab [x] [y] k).2 = b at *
      have HRB := Lib.hid hrb
      have HS := Lib.hid hS
      clear hra hrb hS HQ hb h1 hk
      go_wp2_with fail
      go_ways
      refine (sort_any b _ wr (by omega) (HRB.out.rd HS.out 0 rfl)).mono ?_
      rintro e w5 ⟨v5, T, c5, rfl, hrT, hTl, hS5, hsa⟩
      obtain ⟨ao5, cap5, rfl⟩ := hrT.shape
      have hS6 : St w.heap.size w w5 [c5, cb, ca] := HS.out.join hS5
      have HT := Lib.hid (And.intro hrT (And.intro hTl (And.intro hS6 hsa)))
      clear hrT hTl hS5 hS6 hsa
      go_wp2_with fail
      go_loopg [13] (b.length - 1) (fun m s13 wr => ∃ k : Nat, k + m = b.length - 1 ∧ s13 = .int .i64 ((k : Int) + 1) ∧ Drew w5 wr)
      case atStart => exact ⟨0, by omega, rfl, Drew.refl _⟩
      case round =>
        obtain ⟨j, hj, rfl, hd⟩ := hrel
        obtain ⟨nd, rfl⟩ := hd.out
        have hS := HT.out.2.2.1.drewN nd
        cases gk with
        | zero =>
          have hge : (b.length : Int) ≤ (j : Int) + 1 := by omega
          have HB := Lib.hid hS.below
          clear hS hd
          go_wp2_with fail
          go_ret
          exact ⟨rfl, HB.out⟩
        | succ m =>
          have hlt : j + 1 < b.length := by omega
          have hjl : (j : Int) + 1 < (b.length : Int) := by omega
          obtain ⟨g5, rfl⟩ := HT.out.1.head (by omega)
          obtain ⟨gb, rfl⟩ := HRB.out.head (by omega)
          have hTl := HT.out.2.1
          have hc1 := HT.out.1.cellAt HT.out.2.2.1 0 rfl (iv_get _ j _ (tI_get T j (by omega)))
          have hc2 := HT.out.1.cellAt HT.out.2.2.1 0 rfl (iv_get _ (j + 1) _ (tI_get T (j + 1) (by omega)))
          have hpl : ch T j < b.length := by have := HT.out.2.2.2.lt (ch_some T j (by omega)); rwa [nb_length] at this
          have hql : ch T (j + 1) < b.length := by have := HT.out.2.2.2.lt (ch_some T (j + 1) (by omega)); rwa [nb_length] at this
          have hless := sa_less HT.out.2.2.2 (i := j) (by omega)
          clear hTl
          generalize ch T j = p at *
          generalize ch T (j + 1) = q at *
          have hcp := HRB.out.cap.1
          have hcp2 := HRB.out.cap.2
          have hdp := conv_str (bs := b.drop p) (by
            have := (HRB.out.rd (HT.out.2.2.1.drewN (nd + 1)) 1 rfl).drop p (by omega) (ao' := some ⟨gb, p, none⟩) (fun _ => by simp [Addr.add]) (fun e => by omega)
            rw [Nat.mul_one] at this
            simpa [bv] using this)
          have hdq := conv_str (bs := b.drop q) (by
            have := (HRB.out.rd (HT.out.2.2.1.drewN (nd + 1)) 1 rfl).drop q (by omega) (ao' := some ⟨gb, q, none⟩) (fun _ => by simp [Addr.add]) (fun e => by omega)
            rw [Nat.mul_one] at this
            simpa [bv] using this)
          have hpi : (p : Int) < (b.length : Int) := by omega
          have hqi : (q : Int) < (b.length : Int) := by omega
          clear hd
          go_wp2_with (first | ((with_reducible refine wpStill_plain ?_ ?_ (fun _ _ => ?_)); rfl; rfl) | (with_reducible refine wpStill_nil ?_) | ((with_reducible refine wp_draw_all (id := 18) mixed ?_ (fun _ _ => ?_)); kernel_rfl))
          go_roundg m
          case measure => omega
          case rel => exact ⟨j + 1, by omega, by go_num, Drew.then _ _⟩
end Go.Proofs.Ytdgpbgdpdmikaaa

/-
  The reference's put: a number into rising ones.
-/
import Derived.Test.YtmjkacfhhnnlnaaLenLaw
set_option linter.unusedVariables false
set_option linter.unusedSimpArgs false
namespace Go.Proofs.Ytmjkacfhhnnlnaa
open Go.RowKit
set_option maxRecDepth 100000
/-- A row with one more number ahead of place k. -/
def rowP (l : List Int) (k : Nat) (y : Int) : List Int := l.take k ++ y :: l.drop k
theorem rowP_length (l : List Int) (k : Nat) (y : Int) (h : k ≤ l.length) : (rowP l k y).length = l.length + 1 := by simp [rowP]; omega
theorem rowP_full (l : List Int) (y : Int) : rowP l l.length y = l ++ [y] := by simp [rowP]
theorem rowP_get (l : List Int) (k : Nat) (y : Int) {m : Nat} (h : m < k) (hk : k ≤ l.length) : (rowP l k y)[m]? = l[m]? := by
  unfold rowP
  rw [List.getElem?_append_left (by simp; omega), List.getElem?_take, if_pos h]
theorem rowP_at (l : List Int) (k : Nat) (y : Int) (hk : k ≤ l.length) : (rowP l k y)[k]? = some y := by
  unfold rowP
  rw [List.getElem?_append_right (by simp; omega)]
  have : k - (l.take k).length = 0 := by simp; omega
  rw [this]
  rfl
theorem rowP_set (l : List Int) (k : Nat) (y z : Int) (hk : k ≤ l.length) : (rowP l k y).set k z = rowP l k z := by
  unfold rowP
  rw [List.set_append, if_neg (by simp; omega)]
  have : k - (l.take k).length = 0 := by simp; omega
  rw [this]
  rfl
theorem rowP_step {l : List Int} {k : Nat} {z : Int} (h : l[k]? = some z) : rowP l (k + 1) z = rowP l k z := by
  unfold rowP
  obtain ⟨hk, rfl⟩ := List.getElem?_eq_some_iff.1 h
  rw [List.take_add_one, h, List.append_assoc, List.drop_eq_getElem_cons hk]
  rfl
def PutOut (l : List Int) (x : Int) (B : Nat) (w0 : World) (L : List (List (Nat × Obj))) (e : Ending) (w' : World) : Prop :=
  ∃ v c k, e = .returned v ∧ k ≤ l.length ∧ RowC 2 1 v (l.length + 1) (iv (rowP l k x)) c ∧ St B w0 w' (c :: L) ∧ (∀ z ∈ l.drop k, x < z) ∧ (∀ z, k ≠ 0 → l[k - 1]? = some z → z ≤ x)
set_option maxHeartbeats 4000000 in
theorem put_any {B : Nat} {w0 : World} {L : List (List (Nat × Obj))} {c : List (Nat × Obj)} (l : List Int) (x : Int) (v : Value) (w : World) (hn : l.length ≤ 100000) (hr : RowC 2 1 v l.length (iv l) c) (hS : St B w0 w (c :: L)) :
    Calls Try.prog 20 #[v, .int .i64 x] w (PutOut l x B w0 L) := by
  obtain ⟨i0, i0a, i0b, i0c, i0d⟩ := info_parts infoL
  obtain ⟨ao0, cap0, rfl⟩ := hr.shape
  have hni : (l.length : Int) ≤ 100000 := by omega
  go_enter Try.func20, Try.ntmps20
  go_wp2_with (at_builtin; (refine wpList_app1 0 22 i0 (.int .i64 0) _ _ _ rfl rfl rfl rfl Try.underlying22 i0a i0b i0c i0d rfl hS rfl hr rfl ?_ ?_ ?_); (unfold maxLen; omega); omega; intro v1 c1 w1 hr1 hS1)
  rw [iv_snoc, ← rowP_full] at hr1
  obtain ⟨ao1, cap1, rfl⟩ := hr1.shape
  obtain ⟨g1, rfl⟩ := hr1.head (by omega)
  clear hr hS
  go_wp2_with fail
  go_loopg [5] l.length (fun m s5 wr => s5 = .int .i64 (m : Int) ∧ m ≤ l.length ∧ ∃ y c, RowC 2 1 (.slice (some ⟨g1, 0, none⟩) (l.length + 1) cap1) (l.length + 1) (iv (rowP l m y)) c ∧ St B w0 wr (c :: L) ∧ Hid (∀ z ∈ l.drop m, x < z))
  case atStart => exact ⟨rfl, Nat.le_refl _, x, _, hr1, hS1, Lib.hid (by simp)⟩
  case round =>
    clear hr1 hS1
    obtain ⟨rfl, hkn, y, c, hr, hS, HD⟩ := hrel
    cases gk with
    | zero =>
      have hfr := hr.freeAt hS 0 rfl 0
      have hcy := hr.cellAt hS 0 rfl (iv_get _ 0 y (rowP_at l 0 y (by omega)))
      have HF : Hid (PutOut l x B w0 L (.returned (.slice (some ⟨g1, 0, none⟩) (l.length + 1) cap1)) (wr.setCell ⟨g1, 0, none⟩ (.int .i64 x))) := Lib.hid (by
        obtain ⟨c', h1, h2⟩ := hr.store hS 0 rfl rfl 0 (.int .i64 x)
        rw [iv_set, rowP_set _ _ _ _ (by omega)] at h1
        exact ⟨_, c', 0, rfl, by omega, h1, h2, HD.out, fun z h => absurd rfl h⟩)
      clear hr hS
      go_wp2_with fail
      go_ret
      exact HF.out
    | succ m =>
      obtain ⟨z, hz⟩ : ∃ z, l[m]? = some z := ⟨_, List.getElem?_eq_getElem (by omega)⟩
      have hc := hr.cellAt hS 0 rfl (iv_get _ m z (by rw [rowP_get _ _ _ (by omega) hkn]; exact hz))
      have hfr := hr.freeAt hS 0 rfl (m + 1)
      have hcy := hr.cellAt hS 0 rfl (iv_get _ (m + 1) y (rowP_at l (m + 1) y hkn))
      have hmi : (m : Int) + 1 ≤ (l.length : Int) := by omega
      have hm1 : (0 : Int) < (m : Int) + 1 := by omega
      have hm2 : (m : Int) + 1 - 1 = (m : Int) := by omega
      have HZ := Lib.hid hz
      clear hz
      by_cases q : x < z
      · have HF : Hid (∃ y c, RowC 2 1 (.slice (some ⟨g1, 0, none⟩) (l.length + 1) cap1) (l.length + 1) (iv (rowP l m y)) c ∧ St B w0 (wr.setCell ⟨g1, m + 1, none⟩ (.int .i64 z)) (c :: L)) := Lib.hid (by
          obtain ⟨c', h1, h2⟩ := hr.store hS 0 rfl rfl (m + 1) (.int .i64 z)
          rw [iv_set, rowP_set _ _ _ _ hkn, rowP_step HZ.out] at h1
          exact ⟨z, c', h1, h2⟩)
        clear hr hS
        go_wp2_with fail
        go_roundg m
        case measure => omega
        case rel =>
          obtain ⟨y, c, h1, h2⟩ := HF.out
          refine ⟨by go_num, by omega, y, c, h1, h2, Lib.hid ?_⟩
          intro t ht
          obtain ⟨hk, e⟩ := List.getElem?_eq_some_iff.1 HZ.out
          rw [List.drop_eq_getElem_cons hk, List.mem_cons] at ht
          rcases ht with rfl | ht
          · omega
          · exact HD.out t ht
      · have HF : Hid (PutOut l x B w0 L (.returned (.slice (some ⟨g1, 0, none⟩) (l.length + 1) cap1)) (wr.setCell ⟨g1, m + 1, none⟩ (.int .i64 x))) := Lib.hid (by
          obtain ⟨c', h1, h2⟩ := hr.store hS 0 rfl rfl (m + 1) (.int .i64 x)
          rw [iv_set, rowP_set _ _ _ _ hkn] at h1
          refine ⟨_, c', m + 1, rfl, hkn, h1, h2, HD.out, fun t _ ht => ?_⟩
          rw [Nat.add_sub_cancel, HZ.out] at ht
          cases ht
          omega)
        clear hr hS
        go_wp2_with fail
        go_ret
        exact HF.out
end Go.Proofs.Ytmjkacfhhnnlnaa

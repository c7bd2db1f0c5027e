/-
  copy of cells into a row of the call's own; append of zeros onto a row that has no room.
-/
import Derived.Test.YtdhnmcdgiddhdabAppG
import Derived.Test.YtdhnmcdgiddhdabIv
import Derived.Laws.IdiomCopy
set_option linter.unusedVariables false
set_option linter.unusedSimpArgs false
namespace Go.Proofs.Ytdhnmcdgiddhdab
open Go.RowKit
set_option maxRecDepth 100000
section
variable {P : Program} {B : Nat} {w0 w w' : World} {L : List HL} {c : HL} {T : TypeId} {v : Value} {n by_ g cap : Nat} {xs : List Value}
theorem RowC.storeAll : ∀ (ys : List Value) (d : Nat) (xs : List Value) (c : HL) (w : World) (L : List HL) (i : Nat), RowC T 1 (.slice (some ⟨g, 0, none⟩) n cap) n xs c → St B w0 w L → L[i]? = some c → d + ys.length ≤ n →
    ∃ c', RowC T 1 (.slice (some ⟨g, 0, none⟩) n cap) n (xs.take d ++ ys ++ xs.drop (d + ys.length)) c' ∧ St B w0 (w.setCells g d ys) (L.set i c')
  | [], d, xs, c, w, L, i, h, hS, hi, hd => ⟨c, by simpa using h, by rw [set_same hi]; exact hS⟩
  | y :: r, d, xs, c, w, L, i, h, hS, hi, hd => by
    obtain ⟨c1, h1, hS1⟩ := h.store hS i hi rfl d y
    have hil : i < L.length := (List.getElem?_eq_some_iff.1 hi).1
    obtain ⟨c2, h2, hS2⟩ := RowC.storeAll r (d + 1) (xs.set d y) c1 (w.setCell ⟨g, d, none⟩ y) (L.set i c1) i h1 hS1 (by simp [hil]) (by simp at hd; omega)
    refine ⟨c2, ?_, ?_⟩
    · have hl := h.len
      have e : (xs.set d y).take (d + 1) ++ r ++ (xs.set d y).drop (d + 1 + r.length) = xs.take d ++ (y :: r) ++ xs.drop (d + (y :: r).length) := by
        simp only [List.length_cons] at hd ⊢
        rw [List.drop_set_of_lt (by omega), List.take_add_one, List.getElem?_set_self (by omega), List.take_set_of_le (Nat.le_refl _), show d + 1 + r.length = d + (r.length + 1) from by omega]
        simp
      rw [← e]
      exact h2
    · rw [List.set_set] at hS2
      exact hS2
/-- More of a row's room, less of it. -/
theorem RowC.wide (h : RowC T 1 (.slice (some ⟨g, 0, none⟩) n cap) n xs c) (m : Nat) (hm : n + m ≤ cap) : ∃ ys, ys.length = m ∧ RowC T 1 (.slice (some ⟨g, 0, none⟩) (n + m) cap) (n + m) (xs ++ ys) c := by
  rcases h.2 with ⟨hv, _, _⟩ | ⟨g', cap', cur, hv, rfl, h1, h2, h3, h4⟩
  · simp at hv
  · simp only [Value.slice.injEq, Option.some.injEq, Addr.mk.injEq, and_true, true_and] at hv
    obtain ⟨rfl, rfl⟩ := hv
    have hl := h.1
    refine ⟨(cur.toList.drop n).take m, ?_, ?_, .inr ⟨g, cap, cur, rfl, rfl, hm, h2, h3, ?_⟩⟩
    · simp [h3]; omega
    · simp [h3, hl]; omega
    · rw [← h4, Nat.mul_one, Nat.mul_one, ← List.take_add]
theorem RowC.short (h : RowC T 1 (.slice (some ⟨g, 0, none⟩) n cap) n xs c) (m : Nat) (hm : m ≤ n) : RowC T 1 (.slice (some ⟨g, 0, none⟩) m cap) m (xs.take m) c := by
  rcases h.2 with ⟨hv, _, _⟩ | ⟨g', cap', cur, hv, rfl, h1, h2, h3, h4⟩
  · simp at hv
  · simp only [Value.slice.injEq, Option.some.injEq, Addr.mk.injEq, and_true, true_and] at hv
    obtain ⟨rfl, rfl⟩ := hv
    have hl := h.1
    refine ⟨by simp; omega, .inr ⟨g, cap, cur, rfl, rfl, by omega, h2, h3, ?_⟩⟩
    rw [← h4, List.take_take]
    congr 1
    omega
theorem run_copyC (t t' ty : TypeId) (ht : P.underlying t = some (.slice T)) (hsz : (P.info? T).map (·.size) = some 1) (hS : St B w0 w L) (j : Nat) (hj : L[j]? = some c) (hr : RowC T 1 (.slice (some ⟨g, 0, none⟩) n cap) n xs c) {dd dl dc sl sc : Nat} {ad : Addr} {ys : List Value}
    (hsrc : Rd w 1 (.slice (some ad) sl sc) sl ys) (k : Nat) (h1 : ∀ u ∈ ys.take k, u.oneCell' = true) (hk : k = min sl dl) (hfit : dd + k ≤ n) :
    ∃ w' c', (Builtin.copy_ #[t, t'] ty #[.slice (some ⟨g, dd, none⟩) dl dc, .slice (some ad) sl sc]).run P w = .ok (goInt k) w' ∧ RowC T 1 (.slice (some ⟨g, 0, none⟩) n cap) n (xs.take dd ++ ys.take k ++ xs.drop (dd + k)) c' ∧ St B w0 w' (L.set j c') := by
  have hyl : ys.length = sl := by have := hsrc.len; omega
  have hlk : (ys.take k).length = k := by rw [List.length_take]; omega
  have hxl := hr.len
  obtain ⟨c', hc1, hc2⟩ := RowC.storeAll (ys.take k) dd xs c w L j hr hS hj (by omega)
  have hrun := run_copy_cells (P := P) w t t' ty T g dd dl dc ad sl sc (ys.take k) ht hsz (by rw [hlk, hk])
    (by
      intro q u hu
      rw [List.getElem?_take] at hu
      split at hu
      · obtain ⟨ad', e, hc⟩ := hsrc.at hu
        cases e
        exact hc
      · cases hu)
    (by
      intro q hq
      obtain ⟨u, hu⟩ : ∃ u, xs[dd + q]? = some u := ⟨_, List.getElem?_eq_getElem (by omega)⟩
      rw [hr.cellAt hS j hj hu]
      rfl)
    (by
      intro q hq
      exact hr.freeAt hS j hj _)
    (by
      intro u hu
      exact h1 u hu)
  rw [hlk] at hrun hc1
  exact ⟨_, c', hrun, hc1, hc2⟩
variable {ops : Array Oper} {rest : List Oper} {o : Oper} {a : Act} {Q : Exit → Act → World → Prop}
theorem wpList_copyC (j : Nat) (t t' : TypeId) (d x : Operand) (hgd : o.guard = none) (ho : o.op = .call { callee := .builtin .copy, args := #[d, x], argTypes := #[t, t'] }) {dd dl dc sl sc : Nat} {ad : Addr} {ys : List Value}
    (hd : a.eval d = .slice (some ⟨g, dd, none⟩) dl dc) (hx : a.eval x = .slice (some ad) sl sc) (ht : P.underlying t = some (.slice T)) (hsz : (P.info? T).map (·.size) = some 1) (hS : St B w0 w L) (hj : L[j]? = some c) (hr : RowC T 1 (.slice (some ⟨g, 0, none⟩) n cap) n xs c)
    (hsrc : Rd w 1 (.slice (some ad) sl sc) sl ys) (k : Nat) (h1 : ∀ u ∈ ys.take k, u.oneCell' = true) (hk : k = min sl dl) (hfit : dd + k ≤ n)
    (h : ∀ c' w', RowC T 1 (.slice (some ⟨g, 0, none⟩) n cap) n (xs.take dd ++ ys.take k ++ xs.drop (dd + k)) c' → St B w0 w' (L.set j c') → wpList P ops Q rest (a.put o.dst (goInt k)) w') : wpList P ops Q (o :: rest) a w := by
  refine wpList_plain hgd fun K hK => ?_
  obtain ⟨w', c', hrun, h2, h3⟩ := run_copyC (P := P) t t' o.type ht hsz hS j hj hr (dc := dc) hsrc k h1 hk hfit
  unfold Oper.wp execOp
  simp only [ho, resolve, invoke, builtin, Sem.run_bind, Sem.run_pure, Result.andThen_ok, List.map_toArray, List.map_cons, List.map_nil, hd, hx, hrun]
  exact hK _ _ (h c' w' h2 h3)
/-- The same, as a step of a region that draws. -/
theorem step_copyC {E : Prop} {K : Act → World → Prop} (j : Nat) (t t' : TypeId) (d x : Operand) (hgd : o.guard = none) (ho : o.op = .call { callee := .builtin .copy, args := #[d, x], argTypes := #[t, t'] }) {dd dl dc sl sc : Nat} {ad : Addr} {ys : List Value}
    (hd : a.eval d = .slice (some ⟨g, dd, none⟩) dl dc) (hx : a.eval x = .slice (some ad) sl sc) (ht : P.underlying t = some (.slice T)) (hsz : (P.info? T).map (·.size) = some 1) (hS : St B w0 w L) (hj : L[j]? = some c) (hr : RowC T 1 (.slice (some ⟨g, 0, none⟩) n cap) n xs c)
    (hsrc : Rd w 1 (.slice (some ad) sl sc) sl ys) (k : Nat) (h1 : ∀ u ∈ ys.take k, u.oneCell' = true) (hk : k = min sl dl) (hfit : dd + k ≤ n)
    (h : ∀ c' w', RowC T 1 (.slice (some ⟨g, 0, none⟩) n cap) n (xs.take dd ++ ys.take k ++ xs.drop (dd + k)) c' → St B w0 w' (L.set j c') → K (a.put o.dst (goInt k)) w') : if Region.wanted o (yielded ops a.tmps) = true then Oper.wp P o a w K Q else E := by
  rw [if_pos (by simp [Region.wanted, hgd])]
  obtain ⟨w', c', hrun, h2, h3⟩ := run_copyC (P := P) t t' o.type ht hsz hS j hj hr (dc := dc) hsrc k h1 hk hfit
  unfold Oper.wp execOp
  simp only [ho, resolve, invoke, builtin, Sem.run_bind, Sem.run_pure, Result.andThen_ok, List.map_toArray, List.map_cons, List.map_nil, hd, hx, hrun]
  exact h c' w' h2 h3
/-- 'append(s, make([]T, k)...)' where s has no room: a new row. -/
theorem run_app0G (t tn ty : TypeId) (i : TypeInfo) (z : Value) (kq kn : IntKind) (ht : P.underlying t = some (.slice T)) (htn : P.underlying tn = some (.int kn)) (hi : P.info? T = some i) (hz : i.zero = some z) (hsize : i.size = 1) (hby : i.bytes = by_) (hzs : z.cells = #[z])
    (hS : St B w0 w L) {ad : Addr} {cp : Nat} (hr : Rd w 1 (.slice (some ad) n cp) n xs) (k : Nat) (hk : 0 < k) (hcp : cp < n + k) (h63 : n + k ≤ maxLen) (hbytes : (n + k) * by_ ≤ 140737488355328) :
    ∃ v' w' c', (Builtin.append_ #[t, tn] ty #[.slice (some ad) n cp, .int kq k]).run P w = .ok v' w' ∧ (∃ g' cap', v' = .slice (some ⟨g', 0, none⟩) (n + k) cap') ∧ RowC T 1 v' (n + k) (xs ++ List.replicate k z) c' ∧ St B w0 w' (c' :: L) := by
  have hsmall : n + k ≤ 9223372036854775807 := by simp only [maxLen] at h63; omega
  have hl := hr.len
  have hlen : (xs ++ List.replicate k z).length = (n + k) * 1 := by rw [List.length_append, hl, List.length_replicate]; omega
  subst hby
  have hkb : k * i.bytes ≤ 140737488355328 := Nat.le_trans (Nat.mul_le_mul_right _ (Nat.le_add_left k n)) hbytes
  have holds : ∀ j u, xs[j]? = some u → w.cell? (ad.add j) = some u := by
    intro j u hu
    obtain ⟨ad', e, hc⟩ := hr.at hu
    cases e
    exact hc
  have hfc := run_firstCells_some (P := P) (w := w.drew) i.size n ad n cp xs (by rw [hsize]; exact hl) (fun j u hu => by rw [World.cell?_drew]; exact holds j u hu)
  have hrun := Lib.run_append_grow_zeros (P := P) w t tn ty T i z kq kn ht htn hi hz (some ad) n cp xs hfc k hk (by omega) (by omega) (by omega) (by omega) (growslice_fits (by omega) hbytes)
  have hge := grownCap_ge w (n + k) cp T
  refine ⟨_, _, _, hrun, ⟨_, _, rfl⟩, RowC.fresh _ _ hlen hge (grownCap_le_maxLen w (n + k) cp T h63) ?_ ?_, hS.drew.alloc _⟩
  · simp only [Array.size_append, List.size_toArray, size_zeroCells, hzs, hl]
    simp
    omega
  · simp only [Array.toList_append, hzs, zeroCells_one]
    rw [← hlen]
    exact List.take_left
theorem wpList_app0G (t tn : TypeId) (i : TypeInfo) (z : Value) (kq kn : IntKind) (k : Nat) (s x : Operand) (hgd : o.guard = none) (ho : o.op = .call { callee := .builtin .append, args := #[s, x], argTypes := #[t, tn] })
    (X : Int) {ad : Addr} {cp : Nat} (hs : a.eval s = .slice (some ad) n cp) (hx : a.eval x = .int kq X) (ht : P.underlying t = some (.slice T)) (htn : P.underlying tn = some (.int kn)) (hi : P.info? T = some i) (hz : i.zero = some z) (hsize : i.size = 1) (hby : i.bytes = by_) (hzs : z.cells = #[z])
    (hX : X = (k : Int)) (hS : St B w0 w L) (hr : Rd w 1 (.slice (some ad) n cp) n xs) (hk : 0 < k) (hcp : cp < n + k) (h63 : n + k ≤ maxLen) (hbytes : (n + k) * by_ ≤ 140737488355328) (N : Nat) (hN : n + k = N)
    (h : ∀ g' cap' c' w', RowC T 1 (.slice (some ⟨g', 0, none⟩) N cap') N (xs ++ List.replicate k z) c' → St B w0 w' (c' :: L) → wpList P ops Q rest (a.put o.dst (.slice (some ⟨g', 0, none⟩) N cap')) w') : wpList P ops Q (o :: rest) a w := by
  subst hX hN
  refine wpList_plain hgd fun K hK => ?_
  obtain ⟨v', w', c', hrun, ⟨g', cap', rfl⟩, h2, h3⟩ := run_app0G (P := P) t tn o.type i z kq kn ht htn hi hz hsize hby hzs hS hr k hk hcp h63 hbytes
  unfold Oper.wp execOp
  simp only [ho, resolve, invoke, builtin, Sem.run_bind, Sem.run_pure, Result.andThen_ok, List.map_toArray, List.map_cons, List.map_nil, hs, hx, hrun]
  exact hK _ _ (h g' cap' c' w' h2 h3)
end
end Go.Proofs.Ytdhnmcdgiddhdab

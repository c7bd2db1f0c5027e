/-
  append at a slice that has no room: always a new row.
-/
import Derived.Test.YtdhnmcdgiddhdabCore
import Derived.Deep.RegionLaw
set_option linter.unusedVariables false
set_option linter.unusedSimpArgs false
namespace Go.Proofs.Ytdhnmcdgiddhdab
open Go.RowKit
set_option maxRecDepth 100000
/-- 'x[:k:k]'. -/
theorem Rd.capTo {w : World} {sz n cap : Nat} {ao : Option Addr} {xs : List Value} (h : Rd w sz (.slice ao n cap) n xs) (k : Nat) (hk : k ≤ n) : Rd w sz (.slice ao k k) k (xs.take (k * sz)) := by
  obtain ⟨ao', cap', h1, h2, h3, h4, h5⟩ := h
  simp only [Value.slice.injEq, true_and] at h1
  obtain ⟨rfl, rfl⟩ := h1
  refine ⟨ao, k, rfl, ⟨by omega, by omega⟩, ?_, fun e => ?_, fun ad e j u hu => ?_⟩
  · rw [List.length_take, h3]
    exact Nat.min_eq_left (Nat.mul_le_mul_right _ hk)
  · have := h4 e
    omega
  · rw [List.getElem?_take] at hu
    split at hu
    · exact h5 ad e j u hu
    · simp at hu
section
variable {P : Program} {B : Nat} {w0 w : World} {L : List HL} {T : TypeId} {v vx : Value} {n m sz by_ : Nat} {xs news : List Value}
/-- 'append(s, x...)' where s has no room: always a new row. -/
theorem run_appG (t ty : TypeId) (i : TypeInfo) (z : Value) (ht : P.underlying t = some (.slice T)) (hi : P.info? T = some i) (hz : i.zero = some z) (hsize : i.size = sz) (hby : i.bytes = by_) (hzs : z.cells.size = sz) (hsz : 0 < sz)
    (hS : St B w0 w L) {ao : Option Addr} {cp : Nat} (hr : Rd w sz (.slice ao n cp) n xs) (hx : Rd w sz vx m news) (hm : 0 < m) (hcp : cp < n + m) (h63 : n + m ≤ maxLen) (hbytes : (n + m) * by_ ≤ 140737488355328) :
    ∃ v' w' c', (Builtin.append_ #[t, t] ty #[.slice ao n cp, vx]).run P w = .ok v' w' ∧ RowC T sz v' (n + m) (xs ++ news) c' ∧ St B w0 w' (c' :: L) := by
  have hrl := hr.len
  obtain ⟨ax, capx, rfl, hmx, hl, hnone, hcell⟩ := hx
  subst hsize
  subst hby
  have hsmall : n + m ≤ 9223372036854775807 := by simp only [maxLen] at h63; omega
  have hlen : (xs ++ news).length = (n + m) * i.size := by rw [List.length_append, hrl, hl, Nat.add_mul]
  have grown : ∀ (old : Nat),
      RowC T i.size (.slice (some ⟨w.heap.size, 0, none⟩) (n + m) (grownCap w (n + m) old T)) (n + m) (xs ++ news)
        [(w.heap.size, .cells (xs.toArray ++ news.toArray ++ Builtin.zeroCells z.cells (grownCap w (n + m) old T - (n + m))) T (0, 0))] := by
    intro old
    have hge := grownCap_ge w (n + m) old T
    refine RowC.fresh _ _ hlen hge (grownCap_le_maxLen w (n + m) old T h63) ?_ ?_
    · simp only [Array.size_append, List.size_toArray, size_zeroCells, hzs, hrl, hl, ← Nat.add_mul]
      congr 1
      omega
    · simp only [Array.toList_append, List.append_assoc]
      rw [← List.append_assoc, ← hlen]
      exact List.take_left
  obtain ⟨ad, rfl⟩ : ∃ ad, ax = some ad := by
    cases ax with
    | none => have := (hnone rfl).1; omega
    | some ad => exact ⟨ad, rfl⟩
  have hnews := hcell ad rfl
  have hnew : ∀ X : Array Value, St B w0 (w.drew.alloc (.cells X T)) ([(w.heap.size, .cells X T (0, 0))] :: L) := fun X => hS.drew.alloc _
  cases ao with
  | none =>
    obtain ⟨rfl, rfl, rfl⟩ := hr.none_iff
    have hrun := run_append_nil (P := P) w t ty T i z ht hi hz ad m capx news hl hnews (by omega) (by omega) (by have hb := hbytes; simp only [Nat.zero_add] at hb; omega)
    have hgr := grown 0
    simp only [Nat.zero_add, List.nil_append, Array.empty_append] at hgr ⊢
    exact ⟨_, _, _, hrun, hgr, hnew _⟩
  | some g =>
    have holds : ∀ j u, xs[j]? = some u → w.cell? (g.add j) = some u := by
      intro j u hu
      obtain ⟨g', e, hc⟩ := hr.at hu
      cases e
      exact hc
    have hrun := run_append_grow (P := P) w t ty T i z ht hi hz g n cp xs hrl holds ad m capx news hl hnews (by omega) (by omega) (growslice_fits (by omega) hbytes)
    exact ⟨_, _, _, hrun, grown cp, hnew _⟩
variable {ops : Array Oper} {rest : List Oper} {o : Oper} {a : Act} {Q : Exit → Act → World → Prop}
theorem wpList_appG (t : TypeId) (i : TypeInfo) (z : Value) (s x : Operand) (hgd : o.guard = none) (ho : o.op = .call { callee := .builtin .append, args := #[s, x], argTypes := #[t, t] })
    {ao : Option Addr} {cp : Nat} (hs : a.eval s = .slice ao n cp) (hx : a.eval x = vx)
    (ht : P.underlying t = some (.slice T)) (hi : P.info? T = some i) (hz : i.zero = some z) (hsize : i.size = sz) (hby : i.bytes = by_) (hzs : z.cells.size = sz) (hsz : 0 < sz)
    (hS : St B w0 w L) (hr : Rd w sz (.slice ao n cp) n xs) (hrd : Rd w sz vx m news) (hm : 0 < m) (hcp : cp < n + m) (h63 : n + m ≤ maxLen) (hbytes : (n + m) * by_ ≤ 140737488355328)
    (h : ∀ v' c' w', RowC T sz v' (n + m) (xs ++ news) c' → St B w0 w' (c' :: L) → wpList P ops Q rest (a.put o.dst v') w') : wpList P ops Q (o :: rest) a w := by
  refine wpList_plain hgd fun K hK => ?_
  obtain ⟨v', w', c', hrun, h2, h3⟩ := run_appG (P := P) t o.type i z ht hi hz hsize hby hzs hsz hS hr hrd hm hcp h63 hbytes
  unfold Oper.wp execOp
  simp only [ho, resolve, invoke, builtin, Sem.run_bind, Sem.run_pure, Result.andThen_ok, List.map_toArray, List.map_cons, List.map_nil, hs, hx, hrun]
  exact hK _ _ (h v' c' w' h2 h3)
/-- The same, as a step of a region that draws. -/
theorem step_appG {E : Prop} {K : Act → World → Prop} (t : TypeId) (i : TypeInfo) (z : Value) (s x : Operand) (hgd : o.guard = none) (ho : o.op = .call { callee := .builtin .append, args := #[s, x], argTypes := #[t, t] })
    {ao : Option Addr} {cp : Nat} (hs : a.eval s = .slice ao n cp) (hx : a.eval x = vx)
    (ht : P.underlying t = some (.slice T)) (hi : P.info? T = some i) (hz : i.zero = some z) (hsize : i.size = sz) (hby : i.bytes = by_) (hzs : z.cells.size = sz) (hsz : 0 < sz)
    (hS : St B w0 w L) (hr : Rd w sz (.slice ao n cp) n xs) (hrd : Rd w sz vx m news) (hm : 0 < m) (hcp : cp < n + m) (h63 : n + m ≤ maxLen) (hbytes : (n + m) * by_ ≤ 140737488355328)
    (h : ∀ v' c' w', RowC T sz v' (n + m) (xs ++ news) c' → St B w0 w' (c' :: L) → K (a.put o.dst v') w') : if Region.wanted o (yielded ops a.tmps) = true then Oper.wp P o a w K Q else E := by
  rw [if_pos (by simp [Region.wanted, hgd])]
  obtain ⟨v', w', c', hrun, h2, h3⟩ := run_appG (P := P) t o.type i z ht hi hz hsize hby hzs hsz hS hr hrd hm hcp h63 hbytes
  unfold Oper.wp execOp
  simp only [ho, resolve, invoke, builtin, Sem.run_bind, Sem.run_pure, Result.andThen_ok, List.map_toArray, List.map_cons, List.map_nil, hs, hx, hrun]
  exact h v' c' w' h2 h3
theorem step_app {E : Prop} {K : Act → World → Prop} {c : HL} (j : Nat) (t : TypeId) (i : TypeInfo) (z : Value) (s x : Operand) (hgd : o.guard = none) (ho : o.op = .call { callee := .builtin .append, args := #[s, x], argTypes := #[t, t] })
    (hs : a.eval s = v) (hx : a.eval x = vx)
    (ht : P.underlying t = some (.slice T)) (hi : P.info? T = some i) (hz : i.zero = some z) (hsize : i.size = sz) (hby : i.bytes = by_) (hzs : z.cells.size = sz) (hsz : 0 < sz)
    (hS : St B w0 w L) (hj : L[j]? = some c) (hr : RowC T sz v n xs c) (hrd : Rd w sz vx m news) (h1 : ∀ u ∈ news, u.oneCell' = true) (h63 : n + m ≤ maxLen) (hbytes : (n + m) * by_ ≤ 140737488355328)
    (h : ∀ v' c' w', RowC T sz v' (n + m) (xs ++ news) c' → St B w0 w' (L.set j c') → K (a.put o.dst v') w') : if Region.wanted o (yielded ops a.tmps) = true then Oper.wp P o a w K Q else E := by
  rw [if_pos (by simp [Region.wanted, hgd])]
  obtain ⟨v', w', c', hrun, h2, h3⟩ := run_app (P := P) t o.type i z ht hi hz hsize hby hzs hsz hS j hj hr hrd h1 h63 hbytes
  unfold Oper.wp execOp
  simp only [ho, resolve, invoke, builtin, Sem.run_bind, Sem.run_pure, Result.andThen_ok, List.map_toArray, List.map_cons, List.map_nil, hs, hx, hrun]
  exact h v' c' w' h2 h3
end
end Go.Proofs.Ytdhnmcdgiddhdab

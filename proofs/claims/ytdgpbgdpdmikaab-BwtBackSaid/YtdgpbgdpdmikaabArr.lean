/-
  Arrays that lie in a block of their own, taken and laid whole; a result that is such an array.
-/
import Derived.Test.YtdgpbgdpdmikaabCore
import Derived.Laws.Rows
import Derived.Laws.Tables
set_option linter.unusedVariables false
set_option linter.unusedSimpArgs false
namespace Go.Proofs.Ytdgpbgdpdmikaab
open Go.RowKit
section
variable {P : Program} {B : Nat} {w0 w : World} {L : List HL}
theorem St.heap (hS : St B w0 w L) (i : Nat) {g : Nat} {o : Obj} (hi : L[i]? = some [(g, o)]) : w.heap[g]? = some o := (hS.own _ (List.mem_of_getElem? hi) (g, o) (by simp)).1
/-- A whole new row into the block of a heaplet. -/
theorem St.setRow (hS : St B w0 w L) (i : Nat) {g : Nat} {X X' : Array Value} {T : TypeId} (hi : L[i]? = some [(g, .cells X T (0, 0))]) : St B w0 (w.setRow g X') (L.set i [(g, .cells X' T (0, 0))]) := by
  have hg := hS.heap i hi
  refine hS.change i hi _ rfl rfl rfl (by simp [World.setRow]) ?_ ?_ ?_ (by simp)
  · intro k hk hne
    have : g ≠ k := hne (g, .cells X T (0, 0)) (by simp)
    exact setRow_other w g k _ (fun e => this e.symm)
  · intro x hx
    simp only [List.mem_singleton] at hx
    subst hx
    exact setRow_heap w g X _ T _ hg
  · intro x hx
    simp only [List.mem_singleton] at hx
    subst hx
    exact .inl ⟨_, List.mem_singleton.2 rfl, rfl⟩
theorem results_cell_two {fn : Func} {p u : Tmp} {ty : TypeId} (h : fn.results = #[.cell p ty, .tmp u]) (tmps : Array Value) (g : Nat) (t : TypeId) (cs : Array Value) (d : TypeDesc) (i : Nat)
    (hp : tmps.getD p undef = .pointer (some ⟨g, 0, none⟩)) (hS : St B w0 w L) (hi : L[i]? = some [(g, .cells cs t (0, 0))])
    (hu : P.underlying ty = some d) (hd : (match d with | .struct _ | .array _ _ => true | _ => false) = true) (hz : (P.info? ty).map (·.size) = some cs.size) :
    (results fn tmps).run P w = .ok (.tuple #[.agg cs, tmps.getD u undef]) w := by
  have hp' : tmps[p]?.getD undef = .pointer (some ⟨g, 0, none⟩) := by simpa using hp
  simp [results, h, hp', asAddr, run_loadVar_row w g t ty cs (0, 0) d (hS.heap i hi) hu hd hz]
variable {ops : Array Oper} {rest : List Oper} {o : Oper} {a : Act} {Q : Exit → Act → World → Prop}
theorem wpList_loadRow (j : Nat) (ty : TypeId) (x : Operand) (hgd : o.guard = none) (ho : o.op = .load ty x) {g : Nat} {X : Array Value} {T : TypeId} {d : TypeDesc} (hx : a.eval x = .pointer (some ⟨g, 0, none⟩))
    (hu : P.underlying ty = some d) (hd : (match d with | .struct _ | .array _ _ => true | _ => false) = true) (hz : (P.info? ty).map (·.size) = some X.size)
    (hS : St B w0 w L) (hj : L[j]? = some [(g, .cells X T (0, 0))]) (h : wpList P ops Q rest (a.put o.dst (.agg X)) w) : wpList P ops Q (o :: rest) a w :=
  wpList_load_row hgd ty x ho g hx T X (0, 0) d (hS.heap j hj) hu hd hz h
theorem wpList_storeRow (j : Nat) (ty : TypeId) (x y : Operand) (hgd : o.guard = none) (ho : o.op = .store ty x y) {g : Nat} {X X' : Array Value} {T : TypeId} (hx : a.eval x = .pointer (some ⟨g, 0, none⟩)) (hy : a.eval y = .agg X')
    (hz : (P.info? ty).map (·.size) = some X'.size) (hold : X.size = X'.size) (h1 : X'.all (·.oneCell') = true)
    (hS : St B w0 w L) (hj : L[j]? = some [(g, .cells X T (0, 0))]) (h : ∀ w', St B w0 w' (L.set j [(g, .cells X' T (0, 0))]) → wpList P ops Q rest (a.put o.dst undef) w') : wpList P ops Q (o :: rest) a w :=
  wpList_store_row hgd ty x y ho g X' hx hy T X (hS.heap j hj) hz hold h1 (h _ (hS.setRow j hj))
end
/-- An array of n numbers, by places. -/
def arrN (n : Nat) (f : Nat → Int) : Array Value := ((List.range n).map fun k => Value.int .i64 (f k)).toArray
theorem arrN_size (n : Nat) (f : Nat → Int) : (arrN n f).size = n := by simp [arrN]
theorem arrN_get (n : Nat) (f : Nat → Int) (k : Nat) (h : k < n) : (arrN n f)[k]? = some (.int .i64 (f k)) := by simp [arrN, h]
theorem arrN_set (n : Nat) (f : Nat → Int) (k : Nat) (v : Int) : (arrN n f).setIfInBounds k (.int .i64 v) = arrN n (fun j => if j = k then v else f j) := by
  apply Array.ext_getElem?
  intro j
  rw [Array.getElem?_setIfInBounds]
  by_cases h : k = j
  · subst h
    by_cases hk : k < n
    · rw [if_pos rfl, if_pos (by rw [arrN_size]; exact hk), arrN_get _ _ _ hk]; simp
    · rw [if_pos rfl, if_neg (by rw [arrN_size]; exact hk)]
      simp [arrN, hk]
  · rw [if_neg h]
    by_cases hj : j < n
    · rw [arrN_get _ _ _ hj, arrN_get _ _ _ hj, if_neg (fun e => h e.symm)]
    · simp [arrN, hj]
theorem arrN_congr {n : Nat} {f g : Nat → Int} (h : ∀ k, k < n → f k = g k) : arrN n f = arrN n g := by
  apply Array.ext_getElem?
  intro j
  by_cases hj : j < n
  · rw [arrN_get _ _ _ hj, arrN_get _ _ _ hj, h j hj]
  · simp [arrN, hj]
end Go.Proofs.Ytdgpbgdpdmikaab

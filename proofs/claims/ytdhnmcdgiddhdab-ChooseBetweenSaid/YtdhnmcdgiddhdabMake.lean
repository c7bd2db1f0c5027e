/-
  make of rows whose elements have several cells.
-/
import Derived.Test.YtdhnmcdgiddhdabOpen
set_option linter.unusedVariables false
set_option linter.unusedSimpArgs false
namespace Go.Proofs.Ytdhnmcdgiddhdab
open Go.RowKit
section
variable {B : Nat} {w0 w : World} {L F : List HL} {a b c d : HL}
theorem St.reindex (h : St B w0 w L) (f : Nat → Nat) (hf : ∀ i j, f i = f j → i = j) (L' : List HL) (hL : ∀ (i : Nat) c, L'[i]? = some c → L[f i]? = some c) : St B w0 w L' := by
  refine ⟨h.below, h.base, ?_, ?_, ?_⟩
  · intro c hc x hx
    obtain ⟨i, hi⟩ := List.mem_iff_getElem?.1 hc
    exact h.own c (List.mem_of_getElem? (hL i c hi)) x hx
  · intro i j ci cj hi hj x hx y hy e
    exact hf i j (h.dis (f i) (f j) ci cj (hL i ci hi) (hL j cj hj) x hx y hy e)
  · intro c hc
    obtain ⟨i, hi⟩ := List.mem_iff_getElem?.1 hc
    exact h.nd c (List.mem_of_getElem? (hL i c hi))
theorem St.tl (h : St B w0 w (a :: F)) : St B w0 w F := h.reindex (· + 1) (fun i j e => by omega) F fun i c hi => by simpa using hi
theorem St.swap (h : St B w0 w (a :: b :: F)) : St B w0 w (b :: a :: F) := by
  refine h.reindex (fun i => match i with | 0 => 1 | 1 => 0 | i + 2 => i + 2) ?_ _ ?_
  · intro i j e
    rcases i with _ | _ | i <;> rcases j with _ | _ | j <;> simp at e ⊢ <;> omega
  · intro i c hi
    match i, hi with
    | 0, hi => exact hi
    | 1, hi => exact hi
    | i + 2, hi => exact hi
/-- As reindex; what is empty may stand anywhere. -/
theorem St.reindexN (h : St B w0 w L) (f : Nat → Nat) (L' : List HL) (hf : ∀ i j, (∃ c, L'[i]? = some c ∧ c ≠ []) → (∃ c, L'[j]? = some c ∧ c ≠ []) → f i = f j → i = j) (hL : ∀ (i : Nat) c, L'[i]? = some c → c = [] ∨ L[f i]? = some c) : St B w0 w L' := by
  refine ⟨h.below, h.base, ?_, ?_, ?_⟩
  · intro c hc x hx
    obtain ⟨i, hi⟩ := List.mem_iff_getElem?.1 hc
    rcases hL i c hi with rfl | h1
    · simp at hx
    · exact h.own c (List.mem_of_getElem? h1) x hx
  · intro i j ci cj hi hj x hx y hy e
    have n1 : ci ≠ [] := by rintro rfl; simp at hx
    have n2 : cj ≠ [] := by rintro rfl; simp at hy
    have h1 := (hL i ci hi).resolve_left n1
    have h2 := (hL j cj hj).resolve_left n2
    exact hf i j ⟨ci, hi, n1⟩ ⟨cj, hj, n2⟩ (h.dis (f i) (f j) ci cj h1 h2 x hx y hy e)
  · intro c hc
    obtain ⟨i, hi⟩ := List.mem_iff_getElem?.1 hc
    rcases hL i c hi with rfl | h1
    · simp
    · exact h.nd c (List.mem_of_getElem? h1)
/-- So many empty ones behind the second. -/
theorem St.nils (h : St B w0 w (a :: b :: F)) (n : Nat) : St B w0 w (a :: b :: (List.replicate n [] ++ F)) := by
  refine h.reindexN (fun i => if i < 2 then i else i - n) _ ?_ ?_
  · intro i j ⟨ci, hi, n1⟩ ⟨cj, hj, n2⟩ e
    have key : ∀ (i : Nat) (c : HL), (a :: b :: (List.replicate n [] ++ F))[i]? = some c → c ≠ [] → i < 2 ∨ 2 + n ≤ i := by
      intro i c hi hn
      rcases Nat.lt_or_ge i 2 with h1 | h1
      · exact .inl h1
      · rcases Nat.lt_or_ge i (2 + n) with h2 | h2
        · exfalso
          obtain ⟨k, rfl⟩ : ∃ k, i = k + 2 := ⟨i - 2, by omega⟩
          simp only [List.getElem?_cons_succ] at hi
          rw [List.getElem?_append_left (by simp; omega), List.getElem?_replicate, if_pos (by omega)] at hi
          simp at hi
          exact hn hi
        · exact .inr h2
    have k1 := key i ci hi n1
    have k2 := key j cj hj n2
    revert e
    show (if i < 2 then i else i - n) = (if j < 2 then j else j - n) → i = j
    split <;> split <;> omega
  · intro i c hi
    rcases Nat.lt_or_ge i 2 with h1 | h1
    · right
      rw [if_pos h1]
      have : i = 0 ∨ i = 1 := by omega
      rcases this with rfl | rfl <;> exact hi
    · rw [if_neg (by omega)]
      obtain ⟨k, rfl⟩ : ∃ k, i = k + 2 := ⟨i - 2, by omega⟩
      simp only [List.getElem?_cons_succ] at hi
      rcases Nat.lt_or_ge k n with h2 | h2
      · left
        rw [List.getElem?_append_left (by simp; omega), List.getElem?_replicate, if_pos (by omega)] at hi
        simpa using hi
      · right
        rw [List.getElem?_append_right (by simp; omega), List.length_replicate] at hi
        rw [show k + 2 - n = (k - n) + 2 from by omega]
        simpa using hi
/-- The third one to the front. -/
theorem St.rot3 (h : St B w0 w (a :: b :: c :: F)) : St B w0 w (c :: a :: b :: F) := by
  refine h.reindex (fun i => match i with | 0 => 2 | 1 => 0 | 2 => 1 | i + 3 => i + 3) ?_ _ ?_
  · intro i j e
    rcases i with _ | _ | _ | i <;> rcases j with _ | _ | _ | j <;> simp at e ⊢ <;> omega
  · intro i x hi
    match i, hi with
    | 0, hi => exact hi
    | 1, hi => exact hi
    | 2, hi => exact hi
    | i + 3, hi => exact hi
end
/-- A row that has just been laid out. -/
theorem Rd.lits (w : World) (X : Array Value) (T : TypeId) (n : Nat) (hn : X.size = n) (hm : n ≤ maxLen) : Rd (w.alloc (.cells X T)) 1 (.slice (some ⟨w.heap.size, 0, none⟩) n n) n X.toList := by
  refine ⟨_, n, rfl, ⟨Nat.le_refl _, hm⟩, by simp [hn], fun e => by simp at e, fun ad e j u hu => ?_⟩
  simp only [Option.some.injEq] at e
  subst e
  rw [add_lit0]
  have h1 : (w.alloc (.cells X T)).heap[w.heap.size]? = some (.cells X T (0, 0)) := heap_alloc_new w _
  simp only [World.cell?, h1]
  simpa using hu
theorem toList_madeCells (zs : List Value) (n : Nat) (hp : 0 < zs.length) : (madeCells zs.toArray (n * zs.length)).toList = (List.replicate n zs).flatten := by
  apply List.ext_getElem?
  intro j
  rw [rows_flat_get (List.replicate n zs) zs.length (fun r hr => by rw [(List.mem_replicate.1 hr).2]), if_neg (by omega), List.getElem?_replicate]
  by_cases hj : j < n * zs.length
  · have h1 : j / zs.length < n := (Nat.div_lt_iff_lt_mul hp).2 hj
    rw [if_pos h1]
    have h2 : j % zs.length < zs.length := Nat.mod_lt _ hp
    simp [madeCells, hj, List.getElem?_eq_getElem h2, h2]
  · have h1 : ¬ j / zs.length < n := fun e => hj ((Nat.div_lt_iff_lt_mul hp).1 e)
    rw [if_neg h1]
    simp [madeCells]
    omega
section
variable {P : Program} {ops : Array Oper} {rest : List Oper} {o : Oper} {a : Act} {Q : Exit → Act → World → Prop} {B : Nat} {w0 w : World} {L : List HL} {T : TypeId} {n sz by_ : Nat}
/-- 'make([]T, n)', T of sz cells. -/
theorem wpList_mkN (t : TypeId) (i : TypeInfo) (z : Value) (zs : List Value) (l cc : Operand) (hg : o.guard = none) (hop : o.op = Op.makeSlice t l cc) (kl kc : IntKind) (X C : Int) (hl : a.eval l = .int kl X) (hc : a.eval cc = .int kc C)
    (h1 : P.underlying t = some (.slice T)) (h2 : P.info? T = some i) (h3 : i.zero = some z) (h4 : i.size = sz) (h5 : i.bytes = by_) (hzs : z.cells = zs.toArray) (hsz : zs.length = sz) (hp : 0 < sz) (hX : X = (n : Int)) (hC : C = (n : Int)) (b2 : by_ * n ≤ 281474976710656) (b3 : n ≤ maxLen)
    (hS : St B w0 w L) (hK : ∀ g c' w', RowC T sz (.slice (some ⟨g, 0, none⟩) n n) n (List.replicate n zs).flatten c' → St B w0 w' (c' :: L) → wpList P ops Q rest (a.put o.dst (.slice (some ⟨g, 0, none⟩) n n)) w') : wpList P ops Q (o :: rest) a w := by
  refine wpList_make_full w hg l cc t hop w.heap.size T i z sz h1 h2 h3 h4 kl kc X C n hl hc hX hC (by rw [h5]; exact b2) b3 (Nat.le_refl _) ?_
  intro w' hown hgr
  obtain ⟨c', r1, r2, r3⟩ := RowC.of_owns hown
  have e : (madeCells z.cells (n * sz)).toList = (List.replicate n zs).flatten := by rw [hzs, ← hsz]; exact toList_madeCells zs n (by omega)
  rw [e] at r1
  refine hK _ c' w' r1 ?_
  refine hS.join (L' := [c']) ⟨⟨hgr.os, hgr.tape, hgr.output, hgr.size, fun k hk => hgr.block k hk (by simp)⟩, hgr.size, ?_, ?_, by simpa using r1.nd⟩
  · intro cc hcc x hx
    simp only [List.mem_singleton] at hcc
    subst hcc
    exact ⟨r2 x hx, (r3 x hx).2⟩
  · intro i j ci cj hi hj _ _ _ _ _
    have h1 := (List.getElem?_eq_some_iff.1 hi).1
    have h2 := (List.getElem?_eq_some_iff.1 hj).1
    simp at h1 h2
    omega
end
section
variable {P : Program} {ops : Array Oper} {rest : List Oper} {o : Oper} {a : Act} {Q : Exit → Act → World → Prop} {B : Nat} {w0 w : World} {L : List HL} {c : HL} {T : TypeId} {v : Value} {n by_ g0 : Nat} {xs : List Value}
/-- 'append(s, u)', the new element's block told by another name. -/
theorem wpList_app1g (j : Nat) (t : TypeId) (i : TypeInfo) (z u : Value) (s x : Operand) (hgd : o.guard = none) (ho : o.op = .call { callee := .builtin .append, args := #[s, x], argTypes := #[t, t] })
    (hs : a.eval s = v) (hx : a.eval x = .slice (some ⟨g0, 0, none⟩) 1 1)
    (ht : P.underlying t = some (.slice T)) (hi : P.info? T = some i) (hz : i.zero = some z) (hsize : i.size = 1) (hby : i.bytes = by_) (hzs : z.cells.size = 1)
    (hS : St B w0 w L) (hj : L[j]? = some c) (hr : RowC T 1 v n xs c) (h1 : u.oneCell' = true) (hg : w.heap.size = g0) (h63 : n + 1 ≤ maxLen) (hbytes : (n + 1) * by_ ≤ 140737488355328)
    (h : ∀ v' c' w', RowC T 1 v' (n + 1) (xs ++ [u]) c' → St B w0 w' (L.set j c') → wpList P ops Q rest (a.put o.dst v') w') : wpList P ops Q (o :: rest) a (w.alloc (.cells #[u] T)) := by
  subst hg
  exact wpList_app1 j t i z u s x hgd ho hs hx ht hi hz hsize hby hzs hS hj hr h1 h63 hbytes h
end
section
variable {P : Program} {ops : Array Oper} {w : World}
/-- A guard: the temporary that it looks at is told; then what it says. -/
theorem wpStill_guard {Q : Act → Prop} {a : Act} {o oj : Oper} {rest : List Oper} {j t d : Nat} {b b' : Bool} (hg : o.guard = some (j, b)) (ho : ops[j]? = some oj) (hd : oj.dst = some t) (ht : a.tmps[t]? = some (.bool b')) (hp : plainOp o.op = true) (hdst : o.dst = some d)
    (h : cond (b' == b) (∀ K : Act → World → Prop, (∀ a', wpStill P ops w Q rest a' → K a' w) → o.wp P a w K (fun _ _ _ => False)) (wpStill P ops w Q rest (a.put (some d) undef))) : wpStill P ops w Q (o :: rest) a := by
  cases hbb : (b' == b) with
  | true =>
    rw [hbb] at h
    exact wpStill_want (by simp [Region.wanted, hg, yielded, ho, hd, ht, hbb]) hp h
  | false =>
    rw [hbb] at h
    refine wpStill_skip ?_ ?_
    · simp only [Region.wanted, hg, yielded, ho, hd, ht, Option.bind_some]
      cases b <;> cases b' <;> simp at hbb ⊢
    · rw [hdst]; exact h
theorem cond_yes {c : Bool} {A B : Prop} (h : c = true) (ha : A) : cond c A B := by subst h; exact ha
theorem cond_no {c : Bool} {A B : Prop} (h : c = false) (hb : B) : cond c A B := by subst h; exact hb
end
/-- Elements of sz cells, one behind the other, by number. -/
def rowsOf (f : Nat → List Value) (n : Nat) : List Value := ((List.range n).map f).flatten
theorem rowsOf_get (f : Nat → List Value) (n sz : Nat) (hp : 0 < sz) (h : ∀ i, (f i).length = sz) (i j : Nat) (hi : i < n) (hj : j < sz) : (rowsOf f n)[i * sz + j]? = (f i)[j]? := by
  unfold rowsOf
  rw [rows_flat_get _ sz (by intro r hr; obtain ⟨k, _, rfl⟩ := List.mem_map.1 hr; exact h k), if_neg (by omega)]
  rw [show (i * sz + j) / sz = i from by rw [Nat.mul_comm, Nat.mul_add_div hp, Nat.div_eq_of_lt hj, Nat.add_zero], show (i * sz + j) % sz = j from by rw [Nat.mul_comm, Nat.mul_add_mod, Nat.mod_eq_of_lt hj]]
  simp [hi]
theorem rowsOf_length (f : Nat → List Value) (n sz : Nat) (h : ∀ i, (f i).length = sz) : (rowsOf f n).length = n * sz := by
  unfold rowsOf
  rw [rows_flat_len _ sz (by intro r hr; obtain ⟨k, _, rfl⟩ := List.mem_map.1 hr; exact h k)]
  simp
theorem rowsOf_congr (f g : Nat → List Value) (n : Nat) (h : ∀ i, i < n → f i = g i) : rowsOf f n = rowsOf g n := by
  unfold rowsOf
  congr 1
  apply List.map_congr_left
  intro i hi
  exact h i (by simpa using hi)
/-- One element of two cells is laid. -/
theorem rowsOf_set2 (f : Nat → List Value) (n i : Nat) (a b : Value) (h : ∀ i, (f i).length = 2) (hi : i < n) : ((rowsOf f n).set (i * 2) a).set (i * 2 + 1) b = rowsOf (fun k => if k = i then [a, b] else f k) n := by
  have h' : ∀ k, (if k = i then [a, b] else f k).length = 2 := by intro k; split <;> simp [h]
  apply List.ext_getElem?
  intro j
  have hl := rowsOf_length f n 2 h
  by_cases hj : j < n * 2
  · obtain ⟨k, r, hr, rfl⟩ : ∃ k r, r < 2 ∧ j = k * 2 + r := ⟨j / 2, j % 2, Nat.mod_lt _ (by omega), by omega⟩
    have hk : k < n := by omega
    rw [rowsOf_get _ n 2 (by omega) h' k r hk hr]
    by_cases hki : k = i
    · subst hki
      rw [if_pos rfl]
      have : r = 0 ∨ r = 1 := by omega
      rcases this with rfl | rfl
      · rw [List.getElem?_set_ne (by omega), Nat.add_zero, List.getElem?_set_self (by omega)]; rfl
      · rw [List.getElem?_set_self (by rw [List.length_set]; omega)]; rfl
    · rw [if_neg hki, List.getElem?_set_ne (by omega), List.getElem?_set_ne (by omega)]
      exact rowsOf_get f n 2 (by omega) h k r hk hr
  · rw [List.getElem?_eq_none (by simp; omega), List.getElem?_eq_none (by rw [rowsOf_length _ n 2 h']; omega)]
theorem rowsOf_replicate (zs : List Value) (n : Nat) : (List.replicate n zs).flatten = rowsOf (fun _ => zs) n := by
  unfold rowsOf
  congr 1
  apply List.ext_getElem?
  intro j
  by_cases h : j < n <;> simp [List.getElem?_replicate, h]
end Go.Proofs.Ytdhnmcdgiddhdab

/-
  Arguments that are slices: opened into the words of Base.
-/
import Derived.Test.YtdhnmcdgiddhdabCore
import Derived.WalkKit
import Derived.ProofKit
import Derived.OpenShut
import Derived.SizedLaws
import Derived.ChangeSlices
set_option linter.unusedVariables false
set_option linter.unusedSimpArgs false
namespace Go.Proofs.Ytdhnmcdgiddhdab
open Go.ChangeShapes Go.WideShapes Go.ChangeAt Go.RowKit

theorem open_nums {H : Type} {enc : TypeId × Value → H} {W : World} {spare : Nat → Bool} {held : Bool} {t e : TypeId} {k : IntKind} {v : Value} {d : DataW H} {ps : List MemPlace} {ts : List TypeId} {ds : List (DataW H)} {j : Nat} {base : Nat}
    (hsz : (DataW.weightsEach Try.prog ts ds).all (· ≤ reachBytes) = true) (ht : ts[j]? = some t) (hd : ds[j]? = some d) (hu : Try.prog.underlying t = some (.slice e)) (he : Try.prog.underlying e = some (.int k)) (hc : Try.prog.cellsOf e = 1) {B : Nat} (hB : Try.prog.bytesOf e = B)
    (hv : Value.okWide Try.prog W .any base t v) (h : DataW.Trod enc Try.prog W 0 spare held t v d ps) :
    ∃ (n : Nat) (zs : List Int), Rd W 1 v n (zs.map (Value.int k)) ∧ (∀ z ∈ zs, (Lit.int k z).wf = true) ∧ n * B ≤ 140737488351232 := by
  obtain ⟨a, len, cap, rfl⟩ := okWide_slice hu hv
  obtain ⟨fuel, hf⟩ := h
  rcases open_ints hu he hc hf with ⟨hcs, hx⟩ | ⟨x, l, c, zs, hcs, _, hl, hm, hz, hx, hcell, hwz⟩
  · simp [Value.cells] at hcs
    obtain ⟨rfl, rfl, rfl⟩ := hcs
    exact ⟨0, [], Rd.nil W 1, by simp, by simp⟩
  · simp [Value.cells] at hcs
    obtain ⟨rfl, rfl, rfl⟩ := hcs
    obtain ⟨hx, _⟩ := Prod.mk.inj hx
    subst hx
    have hl2 : len ≤ zs.length := by
      rw [hz]
      split
      · exact hl
      · exact Nat.le_refl _
    have z := sized_slice hsz ht hd hu
    rw [hB] at z
    have h1 : (lits (H := H) k (zs.take len)).length + (lits (H := H) k (zs.drop len)).length = zs.length := by
      simp [lits]
      omega
    rw [h1] at z
    refine ⟨len, zs.take len, ⟨_, cap, rfl, ⟨hl, hm⟩, by simp; omega, by simp, fun ad e i u hu => ?_⟩, fun y hy => hwz y (List.mem_of_mem_take hy), Nat.le_trans (Nat.mul_le_mul_right _ hl2) z⟩
    simp only [Option.some.injEq] at e
    subst e
    rw [List.map_take, List.getElem?_take] at hu
    split at hu
    · rename_i hi
      rw [List.getElem?_map] at hu
      have hi2 : i < zs.length := by omega
      rw [List.getElem?_eq_getElem hi2] at hu
      simp only [Option.map_some, Option.some.injEq] at hu
      have := hcell i hi2
      rw [this, ← hu]
      simp [List.getElem?_eq_getElem hi2]
    · simp at hu
theorem rows_flat_get (rows : List (List Value)) (sz : Nat) (h : ∀ r ∈ rows, r.length = sz) : ∀ (j : Nat), rows.flatten[j]? = if sz = 0 then none else (rows[j / sz]?).bind (·[j % sz]?) := by
  induction rows with
  | nil => intro j; simp
  | cons r rows ih =>
    intro j
    have hr := h r (by simp)
    rw [List.flatten_cons, List.getElem?_append, hr]
    by_cases hs : sz = 0
    · subst hs
      rw [if_pos rfl, if_neg (by omega), ih (fun x hx => h x (by simp [hx])), if_pos rfl]
    · rw [if_neg hs]
      by_cases hj : j < sz
      · rw [if_pos hj, Nat.div_eq_of_lt hj, Nat.mod_eq_of_lt hj]
        simp
      · rw [if_neg hj, ih (fun x hx => h x (by simp [hx])), if_neg hs]
        have e1 : j / sz = (j - sz) / sz + 1 := by rw [Nat.div_eq_sub_div (by omega) (by omega)]
        have e2 : j % sz = (j - sz) % sz := Nat.mod_eq_sub_mod (by omega)
        rw [e1, e2]
        simp
theorem rows_flat_len (rows : List (List Value)) (sz : Nat) (h : ∀ r ∈ rows, r.length = sz) : rows.flatten.length = rows.length * sz := by
  induction rows with
  | nil => simp
  | cons r rows ih => rw [List.flatten_cons, List.length_append, h r (by simp), ih (fun x hx => h x (by simp [hx])), List.length_cons, Nat.add_mul]; omega
theorem exists_rows {α : Type} (n : Nat) (p : Nat → α → Prop) (h : ∀ i, i < n → ∃ x, p i x) : ∃ l : List α, l.length = n ∧ ∀ i x, l[i]? = some x → p i x := by
  induction n with
  | zero => exact ⟨[], rfl, by simp⟩
  | succ n ih =>
    obtain ⟨l, h1, h2⟩ := ih fun i hi => h i (by omega)
    obtain ⟨x, hx⟩ := h n (by omega)
    refine ⟨l ++ [x], by simp [h1], fun i y hy => ?_⟩
    rw [List.getElem?_append] at hy
    split at hy
    · exact h2 i y hy
    · have : i - l.length = 0 := by
        rcases Nat.eq_zero_or_pos (i - l.length) with h | h
        · exact h
        · rw [List.getElem?_eq_none (by simp; omega)] at hy; cases hy
      rw [this] at hy
      simp at hy
      subst hy
      have : i = n := by omega
      subst this
      exact hx
theorem open_structs {H : Type} {enc : TypeId × Value → H} {W : World} {spare : Nat → Bool} {held : Bool} {t e : TypeId} {v : Value} {d : DataW H} {ps : List MemPlace} {ts : List TypeId} {ds : List (DataW H)} {j : Nat} {base : Nat} {sz B : Nat} (E : List Value → Prop)
    (hsz : (DataW.weightsEach Try.prog ts ds).all (· ≤ reachBytes) = true) (ht : ts[j]? = some t) (hd : ds[j]? = some d) (hu : Try.prog.underlying t = some (.slice e)) (hc : Try.prog.cellsOf e = sz) (hpos : 0 < sz) (hB : Try.prog.bytesOf e = B)
    (hE : ∀ n cs x, DataW.trod enc Try.prog W 0 spare held n e cs = some x → E cs)
    (hv : Value.okWide Try.prog W .any base t v) (h : DataW.Trod enc Try.prog W 0 spare held t v d ps) :
    ∃ (n : Nat) (rows : List (List Value)), rows.length = n ∧ (∀ r ∈ rows, E r ∧ r.length = sz) ∧ Rd W sz v n rows.flatten ∧ n * B ≤ 140737488351232 := by
  obtain ⟨a, len, cap, rfl⟩ := okWide_slice hu hv
  obtain ⟨fuel, hf⟩ := h
  rcases DataW.trod_slice hu hf with ⟨hcs, hx⟩ | ⟨x, l, c, elems, rest, n, _, hcs, hx, _, hl, hm, hlen, hel, _, _⟩
  · simp [Value.cells] at hcs
    obtain ⟨rfl, rfl, rfl⟩ := hcs
    exact ⟨0, [], rfl, by simp, Rd.nil W sz, by simp⟩
  · simp [Value.cells] at hcs
    obtain ⟨rfl, rfl, rfl⟩ := hcs
    obtain ⟨hx, _⟩ := Prod.mk.inj hx
    subst hx
    have z := sized_slice hsz ht hd hu
    rw [hB, List.length_map, List.length_map, hlen] at z
    obtain ⟨rows, h1, h2⟩ := exists_rows len (fun i (r : List Value) => E r ∧ r.length = sz ∧ ∀ k, k < sz → W.cell? ((x.add (i * sz)).add k) = r[k]?) (by
      intro i hi
      have h1 := hel i hi
      obtain ⟨y, hy⟩ : ∃ y, elems[i]? = some y := ⟨_, List.getElem?_eq_getElem (by omega)⟩
      rw [hy, hc] at h1
      obtain ⟨cs, h2, h3⟩ := Option.bind_eq_some_iff.1 h1
      obtain ⟨_, h4, h5⟩ := World.cells?_some h2
      exact ⟨cs, hE _ _ _ h3, h4, h5⟩)
    have hr : ∀ r ∈ rows, r.length = sz := by
      intro r hr
      obtain ⟨i, hi⟩ := List.mem_iff_getElem?.1 hr
      exact (h2 i r hi).2.1
    refine ⟨len, rows, h1, ?_, ⟨_, cap, rfl, ⟨hl, hm⟩, by rw [rows_flat_len rows sz hr, h1], by simp, fun ad e i u hu => ?_⟩, Nat.le_trans (Nat.mul_le_mul_right _ (Nat.le_add_right _ _)) z⟩
    · intro r hr'
      obtain ⟨i, hi⟩ := List.mem_iff_getElem?.1 hr'
      exact ⟨(h2 i r hi).1, (h2 i r hi).2.1⟩
    · simp only [Option.some.injEq] at e
      subst e
      rw [rows_flat_get rows sz hr, if_neg (by omega)] at hu
      obtain ⟨r, hr1, hr2⟩ := Option.bind_eq_some_iff.1 hu
      have h3 := (h2 _ r hr1).2.2 (i % sz) (Nat.mod_lt _ hpos)
      rw [Addr.add_add', Nat.div_add_mod'] at h3
      rw [h3]
      exact hr2
theorem rows_of {α : Type} (f : α → List Value) (p : α → Prop) (rows : List (List Value)) (h : ∀ r ∈ rows, ∃ o, r = f o ∧ p o) : ∃ os : List α, rows = os.map f ∧ ∀ o ∈ os, p o := by
  induction rows with
  | nil => exact ⟨[], rfl, by simp⟩
  | cons r rows ih =>
    obtain ⟨os, h1, h2⟩ := ih fun x hx => h x (by simp [hx])
    obtain ⟨o, h3, h4⟩ := h r (by simp)
    refine ⟨o :: os, by rw [h1, h3]; rfl, fun x hx => ?_⟩
    rcases List.mem_cons.1 hx with rfl | hx
    · exact h4
    · exact h2 x hx
end Go.Proofs.Ytdhnmcdgiddhdab

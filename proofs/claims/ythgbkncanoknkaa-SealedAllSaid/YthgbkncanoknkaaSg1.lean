/-
  Texts joined: Base, Core, Byte, StrApp, RecCk, AppG, Iv, Copy, Zeros, Open, Make, PureMtf, Mtf.
-/
import Derived.WalkKit
import Derived.KernelRfl
import Derived.StillTail
import Derived.Lib.Hide
import Derived.Laws.AppendOwnNone
import Derived.Laws.MakeOwn
import Derived.Deep.Draws
import Derived.Test.YthgbkncanoknkaaProg
import Derived.WalkSpells
import Derived.Deep.DeepCutAuto
import Derived.BigQuiet
import Derived.Deep.RegionWith
import Derived.WalkLawsBesides
import Derived.Lib.AppendStr
import Derived.Deep.RegionLaw
import Derived.Lib.AppendZerosOnto
import Derived.Laws.IdiomCopy
import Derived.ProofKit
import Derived.OpenShut
import Derived.SizedLaws
import Derived.ChangeSlices
import Derived.BigRegion
/-
  The words that the walks of this seat use: a region that draws its order, walked in the order of its text; a state of memory as a list of heaplets ('St'); slices that are read ('Rd') and slices that the call itself owns ('RowC'). Plain lemmas over the model; no program in sight.
-/
set_option linter.unusedVariables false
set_option linter.unusedSimpArgs false
namespace Go.Proofs.Ythgbkncanoknkaa
open Go.RowKit

/-! ## 1. Regions that draw their order -/
def plainB : Callee → Bool
  | .builtin .len => true
  | .builtin .cap => true
  | .builtin .min => true
  | .builtin .max => true
  | _ => false
/-- Operations that hand back a value and cannot enter a function. -/
def plainOp : Op → Bool
  | .move _ => true
  | .assign _ => true
  | .pick .. => true
  | .load .. => true
  | .nilCheck _ => true
  | .binOp .. => true
  | .unOp .. => true
  | .convert .. => true
  | .slice .. => true
  | .fieldAddr .. => true
  | .field .. => true
  | .indexAddr .. => true
  | .index .. => true
  | .extract .. => true
  | .makeSlice .. => true
  | .call c => plainB c.callee
  | _ => false
/-- Whatever it comes tq is a value. -/
def Values (s : Sem Next) : Prop := ∀ P w n w', s.run P w = .ok n w' → ∃ v, n = .value v
theorem Values.pure (v : Value) : Values (pure (Next.value v)) := by
  intro P w n w' h
  simp only [Sem.run_pure, Result.ok.injEq] at h
  exact ⟨v, h.1.symm⟩
theorem Values.bind {α : Type} {s : Sem α} {f : α → Sem Next} (h : ∀ x, Values (f x)) : Values (s >>= f) := by
  intro P w n w' hr
  simp only [Sem.run_bind] at hr
  generalize s.run P w = r at hr
  cases r with
  | ok v w1 => exact h v P w1 n w' (by simpa [Result.andThen] using hr)
  | halt x w1 => simp [Result.andThen] at hr
theorem Values.panic : Values (runtimePanic .nilDeref) := by
  intro P w n w' hr
  unfold runtimePanic goPanic at hr
  simp [Sem.run_bind, Result.andThen] at hr
section
variable {P : Program} {ops : Array Oper} {w : World}
theorem plain_value {ρ : Operand → Value} {o : Oper} (hp : plainOp o.op = true) : Values (execOp ρ o) := by
  unfold execOp
  cases hop : o.op <;> rw [hop] at hp <;> simp only [plainOp, Bool.false_eq_true] at hp <;> try exact Values.bind fun _ => Values.pure _
  case move x => exact Values.pure _
  case assign x => exact Values.pure _
  case nilCheck x =>
    dsimp only
    split
    · exact Values.panic
    · exact Values.panic
    · exact Values.panic
    · split
      · exact Values.panic
      · refine Values.bind fun y => ?_
        refine Values.bind fun z => ?_
        split
        · exact Values.bind fun _ => Values.pure _
        · exact Values.pure _
      · exact Values.pure _
    · exact Values.pure _
  case call c =>
    obtain ⟨callee, args, ats⟩ := c
    cases callee with
    | builtin b =>
      cases b <;> simp only [plainB, Bool.false_eq_true] at hp
      · exact (Values.bind fun _ => Values.pure _ : Values (builtin .cap ats o.type _ (args.map ρ)))
      · exact (Values.bind fun _ => Values.pure _ : Values (builtin .len ats o.type _ (args.map ρ)))
      · exact (Values.bind fun _ => Values.pure _ : Values (builtin .max ats o.type _ (args.map ρ)))
      · exact (Values.bind fun _ => Values.pure _ : Values (builtin .min ats o.type _ (args.map ρ)))
    | value f => simp [plainB] at hp
    | invoke r m => simp [plainB] at hp
theorem wpStill_want {Q : Act → Prop} {a : Act} {o : Oper} {rest : List Oper} (hw : Region.wanted o (yielded ops a.tmps) = true) (hp : plainOp o.op = true)
    (h : ∀ K : Act → World → Prop, (∀ a', wpStill P ops w Q rest a' → K a' w) → o.wp P a w K (fun _ _ _ => False)) : wpStill P ops w Q (o :: rest) a := by
  unfold wpStill
  rw [if_pos hw]
  have h1 := h (fun a' w' => w' = w ∧ wpStill P ops w Q rest a') (fun a' h => ⟨rfl, h⟩)
  unfold Oper.wp at h1
  unfold Oper.still
  cases hr : (execOp a.eval o).run P w with
  | ok n w' =>
    obtain ⟨v, rfl⟩ := plain_value hp _ _ _ _ hr
    rw [hr] at h1
    exact h1
  | halt x w' =>
    rw [hr] at h1
    cases x <;> simp only [Oper.upon] at h1
theorem wpStill_plain {Q : Act → Prop} {a : Act} {o : Oper} {rest : List Oper} (hg : o.guard = none) (hp : plainOp o.op = true)
    (h : ∀ K : Act → World → Prop, (∀ a', wpStill P ops w Q rest a' → K a' w) → o.wp P a w K (fun _ _ _ => False)) : wpStill P ops w Q (o :: rest) a :=
  wpStill_want (by simp [Region.wanted, hg]) hp h
theorem wpStill_skip {Q : Act → Prop} {a : Act} {o : Oper} {rest : List Oper} (hw : Region.wanted o (yielded ops a.tmps) = false) (h : wpStill P ops w Q rest (a.put o.dst undef)) : wpStill P ops w Q (o :: rest) a := by
  unfold wpStill
  rw [if_neg (by simp [hw])]
  exact h
/-- A call whose contract leaves the very world. -/
theorem wpStill_call {Q : Act → Prop} {a : Act} {o : Oper} {rest : List Oper} (hg : o.guard = none) (f : FuncId) (args : Array Value) (v : Value)
    (hr : (execOp a.eval o).run P w = .ok (.enter f args) w) (hc : Calls P f args w (fun e w' => e = .returned v ∧ w' = w)) (h : wpStill P ops w Q rest (a.put o.dst v)) : wpStill P ops w Q (o :: rest) a := by
  unfold wpStill
  rw [if_pos (by simp [Region.wanted, hg])]
  unfold Oper.still
  rw [hr]
  exact ⟨rfl, v, hc, h⟩
/-- A region that draws its order: its first n operations only read, the others stand in one order. -/
theorem wp_draw_tail {id : Nat} {Q : Exit → Act → World → Prop} {a : Act} {w : World} {l : List Oper} (n : Nat) (hm : P.follows .mixedOrders = true) (hB : Region.lexTailB .any l.toArray n = true)
    (h : ∀ K : Act → World → Prop, (∀ a' w', wpList P l.toArray Q (l.drop n) a' w' → K a' w') → wpStill P l.toArray w.drew (fun a' => K a' w.drew) (l.take n) a) : (Code.region id l.toArray true).wp P Q a w :=
  wp_region_still_tail n hm hB (h _ fun _ _ h => h)
theorem wp_draw_all {id : Nat} {Q : Exit → Act → World → Prop} {a : Act} {w : World} {l : List Oper} (hm : P.follows .mixedOrders = true) (hB : Region.lexB .any l.toArray = true)
    (h : ∀ K : Act → World → Prop, (∀ a' w', Q .normal a' w' → K a' w') → wpStill P l.toArray w.drew (fun a' => K a' w.drew) l a) : (Code.region id l.toArray true).wp P Q a w :=
  wp_region_still_lit hm hB (h _ fun _ _ h => h)
end

/-! ## 2. Memory as heaplets -/
abbrev HL := List (Nat × Obj)
/-- Below block B the world is as w0 was; each heaplet of L lies in the heap, from B on; no two heaplets share a block. -/
structure St (B : Nat) (w0 w : World) (L : List HL) : Prop where
  below : Below B w0 w
  base : B ≤ w.heap.size
  own : ∀ c ∈ L, ∀ x ∈ c, w.heap[x.1]? = some x.2 ∧ B ≤ x.1
  dis : ∀ (i j : Nat) ci cj, L[i]? = some ci → L[j]? = some cj → ∀ x ∈ ci, ∀ y ∈ cj, x.1 = y.1 → i = j
  nd : ∀ c ∈ L, (c.map Prod.fst).Nodup

theorem St.init (w : World) : St w.heap.size w w [] :=
  ⟨Below.refl _ _, Nat.le_refl _, fun _ h => absurd h (by simp), fun i _ _ _ h => by simp at h, fun _ h => absurd h (by simp)⟩
section
variable {B : Nat} {w0 w w' : World} {L : List HL}
theorem St.lt (h : St B w0 w L) {c : HL} (hc : c ∈ L) {x : Nat × Obj} (hx : x ∈ c) : x.1 < w.heap.size := by
  have := (h.own c hc x hx).1
  exact (Array.getElem?_eq_some_iff.1 this).1
theorem St.drew (h : St B w0 w L) : St B w0 w.drew L := ⟨h.below.drew, h.base, h.own, h.dis, h.nd⟩
theorem St.drewN (h : St B w0 w L) (n : Nat) : St B w0 (w.drewN n) L := by
  induction n with
  | zero => exact h
  | succ n ih => rw [← World.drew_drewN]; exact ih.drew
/-- The heaplets of the numbers that are told, in that order. -/
theorem St.pick (h : St B w0 w L) (is : List Nat) (hn : is.Nodup) (L' : List HL) (hL : is.map (fun i => L[i]?) = L'.map some) : St B w0 w L' := by
  have key : ∀ (j : Nat) c, L'[j]? = some c → ∃ i, is[j]? = some i ∧ L[i]? = some c := by
    intro j c hj
    have h1 : (is.map (fun i => L[i]?))[j]? = some (some c) := by rw [hL]; simp [hj]
    rw [List.getElem?_map] at h1
    cases hi : is[j]? with
    | none => rw [hi] at h1; simp at h1
    | some i => rw [hi] at h1; simp at h1; exact ⟨i, rfl, h1⟩
  refine ⟨h.below, h.base, ?_, ?_, ?_⟩
  rotate_right
  · intro c hc
    obtain ⟨j, hj⟩ := List.mem_iff_getElem?.1 hc
    obtain ⟨i, _, hi⟩ := key j c hj
    exact h.nd c (List.mem_of_getElem? hi)
  · intro c hc x hx
    obtain ⟨j, hj⟩ := List.mem_iff_getElem?.1 hc
    obtain ⟨i, _, hi⟩ := key j c hj
    exact h.own c (List.mem_of_getElem? hi) x hx
  · intro i j ci cj hi hj x hx y hy e
    obtain ⟨i', h1, h2⟩ := key i ci hi
    obtain ⟨j', h3, h4⟩ := key j cj hj
    have := h.dis i' j' ci cj h2 h4 x hx y hy e
    subst this
    exact (List.getElem?_inj (List.getElem?_eq_some_iff.1 h1).1 hn).1 (h1.trans h3.symm)
/-- One heaplet gives way tq another: what is written lies in its blocks, or is new. -/
theorem St.change (h : St B w0 w L) (i : Nat) {c : HL} (hi : L[i]? = some c) (c' : HL) (ho : w'.os = w.os) (ht : w'.tape = w.tape) (hout : w'.output = w.output) (hs : w.heap.size ≤ w'.heap.size)
    (hsame : ∀ k, k < w.heap.size → (∀ x ∈ c, x.1 ≠ k) → w'.heap[k]? = w.heap[k]?) (hown : ∀ x ∈ c', w'.heap[x.1]? = some x.2) (hkeys : ∀ x ∈ c', (∃ y ∈ c, y.1 = x.1) ∨ w.heap.size ≤ x.1) (hnd : (c'.map Prod.fst).Nodup) :
    St B w0 w' (L.set i c') := by
  have hmem := List.mem_of_getElem? hi
  have hil : i < L.length := (List.getElem?_eq_some_iff.1 hi).1
  have get : ∀ j cj, (L.set i c')[j]? = some cj → (j = i ∧ cj = c') ∨ (j ≠ i ∧ L[j]? = some cj) := by
    intro j cj hj
    rw [List.getElem?_set] at hj
    by_cases e : i = j
    · subst e; simp [hil] at hj; exact .inl ⟨rfl, hj.symm⟩
    · rw [if_neg e] at hj; exact .inr ⟨fun e' => e e'.symm, hj⟩
  have old : ∀ j cj, j ≠ i → L[j]? = some cj → ∀ x ∈ cj, ∀ y ∈ c, y.1 ≠ x.1 := by
    intro j cj hne hj x hx y hy e
    exact hne (h.dis i j c cj hi hj y hy x hx e).symm
  refine ⟨⟨ho.trans h.below.os, ht.trans h.below.tape, hout.trans h.below.output, Nat.le_trans h.below.size hs, ?_⟩, Nat.le_trans h.base hs, ?_, ?_, ?_⟩
  rotate_right
  · intro cj hcj
    obtain ⟨j, hj⟩ := List.mem_iff_getElem?.1 hcj
    rcases get j cj hj with ⟨rfl, rfl⟩ | ⟨hne, hj'⟩
    · exact hnd
    · exact h.nd cj (List.mem_of_getElem? hj')
  · intro k hk
    rw [hsame k (Nat.lt_of_lt_of_le hk h.base) (fun x hx e => by have := (h.own c hmem x hx).2; omega)]
    exact h.below.block k hk
  · intro cj hcj x hx
    obtain ⟨j, hj⟩ := List.mem_iff_getElem?.1 hcj
    rcases get j cj hj with ⟨rfl, rfl⟩ | ⟨hne, hj'⟩
    · refine ⟨hown x hx, ?_⟩
      rcases hkeys x hx with ⟨y, hy, e⟩ | hge
      · rw [← e]; exact (h.own c hmem y hy).2
      · exact Nat.le_trans h.base hge
    · have h1 := h.own cj (List.mem_of_getElem? hj') x hx
      refine ⟨?_, h1.2⟩
      rw [hsame x.1 (h.lt (List.mem_of_getElem? hj') hx) (fun y hy => old j cj hne hj' x hx y hy)]
      exact h1.1
  · intro a b ca cb ha hb x hx y hy e
    rcases get a ca ha with ⟨rfl, rfl⟩ | ⟨hne, ha'⟩ <;> rcases get b cb hb with ⟨rfl, rfl⟩ | ⟨hne2, hb'⟩
    · rfl
    · exfalso
      rcases hkeys x hx with ⟨z, hz, e2⟩ | hge
      · exact old b cb hne2 hb' y hy z hz (e2.trans e)
      · have := h.lt (List.mem_of_getElem? hb') hy
        omega
    · exfalso
      rcases hkeys y hy with ⟨z, hz, e2⟩ | hge
      · exact old a ca hne ha' x hx z hz (e2.trans e.symm)
      · have := h.lt (List.mem_of_getElem? ha') hx
        omega
    · exact h.dis a b ca cb ha' hb' x hx y hy e
/-- What a call that writes tq no old block has laid joins what there was. -/
theorem St.join (h : St B w0 w L) {L' : List HL} (h' : St w.heap.size w w' L') : St B w0 w' (L' ++ L) := by
  refine ⟨h.below.trans (h'.below.mono h.base), Nat.le_trans h.base h'.base, ?_, ?_, fun c hc => (List.mem_append.1 hc).elim (h'.nd c) (h.nd c)⟩
  · intro c hc x hx
    rcases List.mem_append.1 hc with hc | hc
    · have := h'.own c hc x hx
      exact ⟨this.1, Nat.le_trans h.base this.2⟩
    · have := h.own c hc x hx
      exact ⟨(h'.below.block x.1 (h.lt hc hx)).trans this.1, this.2⟩
  · intro i j ci cj hi hj x hx y hy e
    rw [List.getElem?_append] at hi hj
    split at hi <;> split at hj
    · exact h'.dis i j ci cj hi hj x hx y hy e
    · have h1 := (h'.own ci (List.mem_of_getElem? hi) x hx).2
      have h2 := h.lt (List.mem_of_getElem? hj) hy
      omega
    · have h1 := (h'.own cj (List.mem_of_getElem? hj) y hy).2
      have h2 := h.lt (List.mem_of_getElem? hi) hx
      omega
    · have := h.dis _ _ ci cj hi hj x hx y hy e
      omega
theorem St.mono (h : St B w0 w L) (hb : Below w.heap.size w w') : St B w0 w' L := by
  have : St w.heap.size w w' ([] : List HL) := ⟨hb, hb.size, fun _ h => absurd h (by simp), fun i _ _ _ h => by simp at h, fun _ h => absurd h (by simp)⟩
  exact h.join this
theorem St.alloc (h : St B w0 w L) (o : Obj) : St B w0 (w.alloc o) ([(w.heap.size, o)] :: L) := by
  have : St w.heap.size w (w.alloc o) [[(w.heap.size, o)]] := by
    refine ⟨(Below.refl _ _).alloc (Nat.le_refl _) o, by simp, ?_, ?_, by simp⟩
    · intro c hc x hx
      simp only [List.mem_singleton] at hc
      subst hc
      simp only [List.mem_singleton] at hx
      subst hx
      exact ⟨heap_alloc_new w o, Nat.le_refl _⟩
    · intro i j ci cj hi hj _ _ _ _ _
      have h1 := (List.getElem?_eq_some_iff.1 hi).1
      have h2 := (List.getElem?_eq_some_iff.1 hj).1
      simp at h1 h2
      omega
  exact h.join this
theorem St.alloc' (h : St B w0 w L) (o : Obj) : St B w0 (w.alloc o) L := h.mono ((Below.refl _ _).alloc (Nat.le_refl _) o)
/-- The cells of a block of a heaplet. -/
theorem St.cell (h : St B w0 w L) (i : Nat) {c : HL} (hi : L[i]? = some c) {b : Nat} {cur : Array Value} {T : TypeId} {fr : Nat × Nat} (hb : (b, Obj.cells cur T fr) ∈ c) (k : Nat) : w.cell? ⟨b, k, none⟩ = cur[k]? := by
  have := (h.own c (List.mem_of_getElem? hi) _ hb).1
  simp only [World.cell?, this]
  simp
theorem St.free (h : St B w0 w L) (i : Nat) {c : HL} (hi : L[i]? = some c) {b : Nat} {cur : Array Value} {T : TypeId} (hb : (b, Obj.cells cur T (0, 0)) ∈ c) (k : Nat) : w.frozen? ⟨b, k, none⟩ = false := by
  have := (h.own c (List.mem_of_getElem? hi) _ hb).1
  simp [World.frozen?, this]
theorem St.ne (h : St B w0 w L) (i j : Nat) {ci cj : HL} (hi : L[i]? = some ci) (hj : L[j]? = some cj) (hij : i ≠ j) {x y : Nat × Obj} (hx : x ∈ ci) (hy : y ∈ cj) : x.1 ≠ y.1 :=
  fun e => hij (h.dis i j ci cj hi hj x hx y hy e)
end

section
variable {B : Nat} {w0 w w' : World} {F : List HL} {a b : HL}
/-- An empty heaplet may always be told. -/
theorem St.one_nil (h : St B w0 w F) : St B w0 w ([] :: F) := by
  have : St w.heap.size w w [([] : HL)] := ⟨Below.refl _ _, Nat.le_refl _, by simp, by
    intro i j ci cj hi hj x hx
    have h1 := (List.getElem?_eq_some_iff.1 hi).1
    simp at h1
    subst h1
    simp at hi
    subst hi
    simp at hx, by simp⟩
  exact h.join this
/-- A heaplet in two. -/
theorem St.split (h : St B w0 w ((a ++ b) :: F)) : St B w0 w (a :: b :: F) := by
  have hnd := h.nd (a ++ b) (by simp)
  rw [List.map_append, List.nodup_append] at hnd
  have tq : ∀ (i : Nat) ci, (a :: b :: F)[i]? = some ci → ∀ x ∈ ci, ∃ j cj, ((a ++ b) :: F)[j]? = some cj ∧ x ∈ cj ∧ (j = i - 1) := by
    intro i ci hi x hx
    match i, hi with
    | 0, hi => simp at hi; subst hi; exact ⟨0, a ++ b, rfl, List.mem_append.2 (.inl hx), rfl⟩
    | 1, hi => simp at hi; subst hi; exact ⟨0, a ++ b, rfl, List.mem_append.2 (.inr hx), rfl⟩
    | i + 2, hi => simp at hi; exact ⟨i + 1, ci, by simpa using hi, hx, rfl⟩
  refine ⟨h.below, h.base, ?_, ?_, ?_⟩
  · intro c hc x hx
    obtain ⟨i, hi⟩ := List.mem_iff_getElem?.1 hc
    obtain ⟨j, cj, hj, hxj, _⟩ := tq i c hi x hx
    exact h.own cj (List.mem_of_getElem? hj) x hxj
  · intro i j ci cj hi hj x hx y hy e
    obtain ⟨i', ci', hi', hxi, ei⟩ := tq i ci hi x hx
    obtain ⟨j', cj', hj', hyj, ej⟩ := tq j cj hj y hy
    have hij := h.dis i' j' ci' cj' hi' hj' x hxi y hyj e
    match i, j with
    | 0, 0 => rfl
    | 1, 1 => rfl
    | 0, 1 =>
      simp at hi hj; subst hi; subst hj
      exact absurd e (hnd.2.2 x.1 (List.mem_map_of_mem hx) y.1 (List.mem_map_of_mem hy))
    | 1, 0 =>
      simp at hi hj; subst hi; subst hj
      exact absurd e.symm (hnd.2.2 y.1 (List.mem_map_of_mem hy) x.1 (List.mem_map_of_mem hx))
    | 0, j + 2 => omega
    | 1, j + 2 => omega
    | i + 2, 0 => omega
    | i + 2, 1 => omega
    | i + 2, j + 2 => omega
  · intro c hc
    simp only [List.mem_cons] at hc
    rcases hc with rfl | rfl | hc
    · exact hnd.1
    · exact hnd.2.1
    · exact h.nd c (by simp [hc])
/-- Two heaplets as one. -/
theorem St.merge (h : St B w0 w (a :: b :: F)) : St B w0 w ((a ++ b) :: F) := by
  have tq : ∀ (i : Nat) ci, ((a ++ b) :: F)[i]? = some ci → ∀ x ∈ ci, ∃ j cj, (a :: b :: F)[j]? = some cj ∧ x ∈ cj ∧ (i = j - 1) := by
    intro i ci hi x hx
    match i, hi with
    | 0, hi =>
      simp at hi; subst hi
      rcases List.mem_append.1 hx with hx | hx
      · exact ⟨0, a, rfl, hx, rfl⟩
      · exact ⟨1, b, rfl, hx, rfl⟩
    | i + 1, hi => simp at hi; exact ⟨i + 2, ci, by simpa using hi, hx, rfl⟩
  refine ⟨h.below, h.base, ?_, ?_, ?_⟩
  · intro c hc x hx
    obtain ⟨i, hi⟩ := List.mem_iff_getElem?.1 hc
    obtain ⟨j, cj, hj, hxj, _⟩ := tq i c hi x hx
    exact h.own cj (List.mem_of_getElem? hj) x hxj
  · intro i j ci cj hi hj x hx y hy e
    obtain ⟨i', ci', hi', hxi, ei⟩ := tq i ci hi x hx
    obtain ⟨j', cj', hj', hyj, ej⟩ := tq j cj hj y hy
    have hij := h.dis i' j' ci' cj' hi' hj' x hxi y hyj e
    omega
  · intro c hc
    simp only [List.mem_cons] at hc
    rcases hc with rfl | hc
    · rw [List.map_append, List.nodup_append]
      refine ⟨h.nd a (by simp), h.nd b (by simp), ?_⟩
      intro x hx y hy e
      obtain ⟨x', hx', rfl⟩ := List.mem_map.1 hx
      obtain ⟨y', hy', rfl⟩ := List.mem_map.1 hy
      have := h.dis 0 1 a b rfl rfl x' hx' y' hy' e
      omega
    · exact h.nd c (by simp [hc])
/-- A store into the one block of a heaplet. -/
theorem St.store {L : List HL} (hS : St B w0 w L) (i : Nat) {g : Nat} {cur : Array Value} {T : TypeId} (hi : L[i]? = some [(g, .cells cur T (0, 0))]) (j : Nat) (u : Value) :
    St B w0 (w.setCell ⟨g, j, none⟩ u) (L.set i [(g, .cells (cur.setIfInBounds j u) T (0, 0))]) := by
  have hg := (hS.own _ (List.mem_of_getElem? hi) (g, .cells cur T (0, 0)) (by simp)).1
  refine hS.change i hi _ rfl rfl rfl (by simp) ?_ ?_ ?_ (by simp)
  · intro k hk hne
    have : g ≠ k := hne (g, .cells cur T (0, 0)) (by simp)
    exact Below.heap_setCell _ _ _ _ (fun e => this e.symm)
  · intro x hx
    simp only [List.mem_singleton] at hx
    subst hx
    exact heap_setCell_same w g j cur T u hg
  · intro x hx
    simp only [List.mem_singleton] at hx
    subst hx
    exact .inl ⟨_, List.mem_singleton.2 rfl, rfl⟩
end

/-- The same world, some orders having been drawn. -/
def Drew (w w' : World) : Prop := ∃ n, w' = w.drewN n
theorem Drew.refl (w : World) : Drew w w := ⟨0, rfl⟩
theorem Drew.mk (w : World) (n : Nat) : Drew w (w.drewN n) := ⟨n, rfl⟩
theorem Drew.one (w : World) : Drew w w.drew := ⟨1, rfl⟩
theorem Drew.out {w w' : World} (h : Drew w w') : ∃ n, w' = w.drewN n := h
theorem Drew.then (w : World) (n : Nat) : Drew w (w.drewN n).drew := ⟨n + 1, by rw [World.drew_drewN]⟩
theorem St.Drew {B : Nat} {w0 w w' : World} {L : List HL} (h : St B w0 w L) (hd : Drew w w') : St B w0 w' L := by
  obtain ⟨n, rfl⟩ := hd.out
  exact h.drewN n

/-! ## 3. Slices -/
/-- The value is a slice whose n elements, sz cells each, are the cells xs. -/
def Rd (w : World) (sz : Nat) (v : Value) (n : Nat) (xs : List Value) : Prop :=
  ∃ ao cap, v = .slice ao n cap ∧ (n ≤ cap ∧ cap ≤ maxLen) ∧ xs.length = n * sz ∧ (ao = none → n = 0 ∧ cap = 0) ∧ (∀ ad, ao = some ad → ∀ j u, xs[j]? = some u → w.cell? (ad.add j) = some u)
/-- A slice that the call itself owns, as a heaplet: nil, or the head of a row. -/
def RowC (T : TypeId) (sz : Nat) (v : Value) (n : Nat) (xs : List Value) (c : HL) : Prop :=
  xs.length = n * sz ∧ ((v = .slice none 0 0 ∧ n = 0 ∧ c = []) ∨
    ∃ g cap cur, v = .slice (some ⟨g, 0, none⟩) n cap ∧ c = [(g, .cells cur T (0, 0))] ∧ n ≤ cap ∧ cap ≤ maxLen ∧ cur.size = cap * sz ∧ cur.toList.take (n * sz) = xs)
section
variable {B : Nat} {w0 w w' : World} {L : List HL} {T : TypeId} {sz n : Nat} {v : Value} {xs : List Value} {c : HL}
theorem Rd.keep (h : Rd w sz v n xs) (hb : Below w.heap.size w w') : Rd w' sz v n xs := by
  obtain ⟨ao, cap, h1, h2, h3, h4, h5⟩ := h
  refine ⟨ao, cap, h1, h2, h3, h4, fun ad e j u hu => ?_⟩
  have := h5 ad e j u hu
  rw [hb.cell (World.block_lt_of_cell? w _ this)]
  exact this
theorem Rd.st (h : Rd w0 sz v n xs) (hs : St w0.heap.size w0 w L) : Rd w sz v n xs := h.keep hs.below
theorem Rd.drewN (h : Rd w sz v n xs) (k : Nat) : Rd (w.drewN k) sz v n xs := by
  obtain ⟨ao, cap, h1, h2, h3, h4, h5⟩ := h
  exact ⟨ao, cap, h1, h2, h3, h4, fun ad e j u hu => by rw [World.cell?_drewN]; exact h5 ad e j u hu⟩
theorem Rd.len (h : Rd w sz v n xs) : xs.length = n * sz := by obtain ⟨_, _, _, _, h, _⟩ := h; exact h
theorem Rd.small (h : Rd w sz v n xs) : n ≤ 9223372036854775807 := by obtain ⟨_, _, _, h, _⟩ := h; simpa [maxLen] using Nat.le_trans h.1 h.2
theorem Rd.cap {ao : Option Addr} {cap : Nat} (h : Rd w sz (.slice ao n cap) n xs) : n ≤ cap ∧ cap ≤ 9223372036854775807 := by
  obtain ⟨ao', cap', h1, h2, _⟩ := h
  simp only [Value.slice.injEq, true_and] at h1
  obtain ⟨rfl, rfl⟩ := h1
  simpa [maxLen] using h2
theorem Rd.shape (h : Rd w sz v n xs) : ∃ ao cap, v = .slice ao n cap := by obtain ⟨ao, cap, h, _⟩ := h; exact ⟨ao, cap, h⟩
theorem Rd.nil (w : World) (sz : Nat) : Rd w sz (.slice none 0 0) 0 [] := ⟨none, 0, rfl, by simp [maxLen], by simp, by simp, by simp⟩
theorem Rd.at {ao : Option Addr} {cap : Nat} (h : Rd w sz (.slice ao n cap) n xs) {j : Nat} {u : Value} (hu : xs[j]? = some u) : ∃ ad, ao = some ad ∧ w.cell? (ad.add j) = some u := by
  obtain ⟨ao', cap', h1, h2, h3, h4, h5⟩ := h
  simp only [Value.slice.injEq, true_and] at h1
  obtain ⟨rfl, rfl⟩ := h1
  cases ao with
  | none =>
    exfalso
    have h0 := (h4 rfl).1
    subst h0
    rw [Nat.zero_mul] at h3
    have := List.eq_nil_of_length_eq_zero h3
    subst this
    simp at hu
  | some ad => exact ⟨ad, rfl, h5 ad rfl j u hu⟩
theorem Rd.none_iff {cap : Nat} (h : Rd w sz (.slice none n cap) n xs) : n = 0 ∧ cap = 0 ∧ xs = [] := by
  obtain ⟨ao', cap', h1, h2, h3, h4, h5⟩ := h
  simp only [Value.slice.injEq, true_and] at h1
  obtain ⟨rfl, rfl⟩ := h1
  obtain ⟨rfl, h0⟩ := h4 rfl
  rw [Nat.zero_mul] at h3
  exact ⟨rfl, h0, List.eq_nil_of_length_eq_zero h3⟩
theorem RowC.len (h : RowC T sz v n xs c) : xs.length = n * sz := h.1
theorem RowC.nil (T : TypeId) (sz : Nat) : RowC T sz (.slice none 0 0) 0 [] [] := ⟨by simp, .inl ⟨rfl, rfl, rfl⟩⟩
theorem RowC.nd (h : RowC T sz v n xs c) : (c.map Prod.fst).Nodup := by
  rcases h.2 with ⟨_, _, rfl⟩ | ⟨g, cap, cur, _, rfl, _⟩ <;> simp
theorem RowC.shape (h : RowC T sz v n xs c) : ∃ ao cap, v = .slice ao n cap := by
  rcases h.2 with ⟨rfl, rfl, _⟩ | ⟨g, cap, _, rfl, _⟩
  · exact ⟨none, 0, rfl⟩
  · exact ⟨_, cap, rfl⟩
theorem RowC.small (h : RowC T sz v n xs c) : n ≤ 9223372036854775807 := by
  rcases h.2 with ⟨_, rfl, _⟩ | ⟨g, cap, _, _, _, h1, h2, _⟩
  · omega
  · simp only [maxLen] at h2; omega
/-- Where there is an element there is a row. -/
theorem RowC.form (h : RowC T sz v n xs c) (hn : 0 < n) : ∃ g cap cur, v = .slice (some ⟨g, 0, none⟩) n cap ∧ c = [(g, .cells cur T (0, 0))] ∧ n ≤ cap ∧ cap ≤ maxLen ∧ cur.size = cap * sz ∧ cur.toList.take (n * sz) = xs := by
  rcases h.2 with ⟨_, rfl, _⟩ | h
  · omega
  · exact h
theorem RowC.head {ao : Option Addr} {cap : Nat} (h : RowC T sz (.slice ao n cap) n xs c) (hn : 0 < n) : ∃ g, ao = some ⟨g, 0, none⟩ := by
  obtain ⟨g, cap', cur, e, _⟩ := h.form hn
  simp only [Value.slice.injEq, true_and] at e
  exact ⟨g, e.1⟩
theorem RowC.cap {ao : Option Addr} {cap : Nat} (h : RowC T sz (.slice ao n cap) n xs c) : n ≤ cap ∧ cap ≤ 9223372036854775807 := by
  rcases h.2 with ⟨e, rfl, _⟩ | ⟨g, cap', cur, e, _, h1, h2, _⟩
  · simp only [Value.slice.injEq, true_and] at e
    omega
  · simp only [Value.slice.injEq, true_and] at e
    obtain ⟨_, rfl⟩ := e
    exact ⟨h1, by simpa [maxLen] using h2⟩
theorem RowC.owns (h : RowC T sz v n xs c) (hS : St B w0 w L) (i : Nat) (hi : L[i]? = some c) : w.ownsRow B T sz v n xs := by
  refine ⟨h.1, ?_⟩
  rcases h.2 with ⟨rfl, rfl, _⟩ | ⟨g, cap, cur, rfl, rfl, h1, h2, h3, h4⟩
  · exact .inl ⟨rfl, rfl⟩
  · have := hS.own _ (List.mem_of_getElem? hi) (g, .cells cur T (0, 0)) (by simp)
    exact .inr ⟨g, cap, cur, rfl, this.2, this.1, h1, h2, h3, h4⟩
theorem RowC.rd (h : RowC T sz v n xs c) (hS : St B w0 w L) (i : Nat) (hi : L[i]? = some c) : Rd w sz v n xs := by
  have hl := h.1
  rcases h.2 with ⟨rfl, rfl, _⟩ | ⟨g, cap, cur, rfl, rfl, h1, h2, h3, h4⟩
  · simp at hl
    subst hl
    exact Rd.nil w sz
  · refine ⟨_, cap, rfl, ⟨h1, h2⟩, hl, by simp, fun ad e j u hu => ?_⟩
    simp only [Option.some.injEq] at e
    subst e
    have ha : (⟨g, 0, none⟩ : Addr).add j = ⟨g, j, none⟩ := by unfold Addr.add; split <;> simp_all
    rw [ha, hS.cell i hi (List.mem_singleton.2 rfl)]
    rw [← h4, List.getElem?_take] at hu
    split at hu
    · simpa using hu
    · simp at hu
/-- Another row, or the same grown: out of the kit's words. -/
theorem RowC.of_owns (h : w'.ownsRow B T sz v n xs) : ∃ c, RowC T sz v n xs c ∧ (∀ x ∈ c, w'.heap[x.1]? = some x.2) ∧ (∀ x ∈ c, v.ownBlock = some x.1 ∧ B ≤ x.1) := by
  rcases h.2 with ⟨rfl, rfl⟩ | ⟨g, cap, cur, rfl, hb, hg, h1, h2, h3, h4⟩
  · exact ⟨[], ⟨h.1, .inl ⟨rfl, rfl, rfl⟩⟩, by simp, by simp⟩
  · exact ⟨[(g, .cells cur T (0, 0))], ⟨h.1, .inr ⟨g, cap, cur, rfl, rfl, h1, h2, h3, h4⟩⟩, by simpa using hg, by simpa [Value.ownBlock] using hb⟩
theorem RowC.block (h : RowC T sz v n xs c) : ∀ k, v.ownBlock = some k → ∃ x ∈ c, x.1 = k := by
  intro k hk
  rcases h.2 with ⟨rfl, _, _⟩ | ⟨g, cap, cur, rfl, rfl, _⟩
  · simp [Value.ownBlock] at hk
  · simp only [Value.ownBlock, Option.some.injEq] at hk
    exact ⟨_, List.mem_singleton.2 rfl, hk⟩
theorem add_lit0 (g j : Nat) : (⟨g, 0, none⟩ : Addr).add j = ⟨g, j, none⟩ := by unfold Addr.add; split <;> simp_all
theorem RowC.cellAt {g cap : Nat} (h : RowC T sz (.slice (some ⟨g, 0, none⟩) n cap) n xs c) (hS : St B w0 w L) (i : Nat) (hi : L[i]? = some c) {j : Nat} {u : Value} (hu : xs[j]? = some u) : w.cell? ⟨g, j, none⟩ = some u := by
  obtain ⟨ad, e, hc⟩ := (h.rd hS i hi).at hu
  simp only [Option.some.injEq] at e
  subst e
  rw [add_lit0] at hc
  exact hc
theorem RowC.freeAt {g cap : Nat} (h : RowC T sz (.slice (some ⟨g, 0, none⟩) n cap) n xs c) (hS : St B w0 w L) (i : Nat) (hi : L[i]? = some c) (j : Nat) : w.frozen? ⟨g, j, none⟩ = false := by
  rcases h.2 with ⟨h0, _⟩ | ⟨g', cap', cur, h0, rfl, _⟩
  · simp at h0
  · simp only [Value.slice.injEq, Option.some.injEq, Addr.mk.injEq, and_true, true_and] at h0
    obtain ⟨rfl, rfl⟩ := h0
    exact hS.free i hi (List.mem_singleton.2 rfl) j
theorem RowC.mem {g cap : Nat} (h : RowC T sz (.slice (some ⟨g, 0, none⟩) n cap) n xs c) : ∃ o, (g, o) ∈ c := by
  rcases h.2 with ⟨h0, _⟩ | ⟨g', cap', cur, h0, rfl, _⟩
  · simp at h0
  · simp only [Value.slice.injEq, Option.some.injEq, Addr.mk.injEq, and_true, true_and] at h0
    obtain ⟨rfl, rfl⟩ := h0
    exact ⟨_, List.mem_singleton.2 rfl⟩
/-- The block of a heaplet is none of a row's. -/
theorem RowC.apart {g cap : Nat} (h : RowC T sz (.slice (some ⟨g, 0, none⟩) n cap) n xs c) (hS : St B w0 w L) (i j : Nat) (hi : L[i]? = some c) {p : Nat} {o : Obj} (hj : L[j]? = some [(p, o)]) (hij : i ≠ j) : ¬ g = p ∧ ¬ p = g := by
  obtain ⟨o', ho⟩ := h.mem
  have := hS.ne i j hi hj hij ho (List.mem_singleton.2 rfl)
  exact ⟨this, fun e => this e.symm⟩
/-- A store into an element. -/
theorem RowC.store (h : RowC T sz v n xs c) (hS : St B w0 w L) (i : Nat) (hi : L[i]? = some c) {g cap : Nat} (hv : v = .slice (some ⟨g, 0, none⟩) n cap) (j : Nat) (u : Value) :
    ∃ c', RowC T sz v n (xs.set j u) c' ∧ St B w0 (w.setCell ⟨g, j, none⟩ u) (L.set i c') := by
  have hl := h.1
  rcases h.2 with ⟨rfl, rfl, _⟩ | ⟨g', cap', cur, rfl, rfl, h1, h2, h3, h4⟩
  · simp at hv
  · simp only [Value.slice.injEq, Option.some.injEq, Addr.mk.injEq, and_true, true_and] at hv
    obtain ⟨rfl, rfl⟩ := hv
    refine ⟨[(g', .cells (cur.setIfInBounds j u) T (0, 0))], ⟨by simpa using hl, .inr ⟨g', cap', _, rfl, rfl, h1, h2, by simpa using h3, ?_⟩⟩, ?_⟩
    · rw [Array.toList_setIfInBounds, ← h4, List.take_set]
    · have hg := (hS.own _ (List.mem_of_getElem? hi) (g', .cells cur T (0, 0)) (by simp)).1
      refine hS.change i hi _ rfl rfl rfl (by simp) ?_ ?_ ?_ (by simp)
      · intro k hk hne
        have : g' ≠ k := hne (g', .cells cur T (0, 0)) (by simp)
        exact Below.heap_setCell _ _ _ _ (fun e => this e.symm)
      · intro x hx
        simp only [List.mem_singleton] at hx
        subst hx
        exact heap_setCell_same w g' j cur T u hg
      · intro x hx
        simp only [List.mem_singleton] at hx
        subst hx
        exact .inl ⟨_, List.mem_singleton.2 rfl, rfl⟩
theorem St.grown (hS : St B w0 w L) (i : Nat) (hi : L[i]? = some c) (hr : RowC T sz v n xs c) {v' : Value} {n' : Nat} {xs' : List Value} (hown : w'.ownsRow B T sz v' n' xs') (hg : w.grownBy w' v.ownBlock) (hv : v'.ownBlock = none ∨ v'.ownBlock = v.ownBlock ∨ ∃ g, v'.ownBlock = some g ∧ w.heap.size ≤ g) :
    ∃ c', RowC T sz v' n' xs' c' ∧ St B w0 w' (L.set i c') := by
  obtain ⟨c', h1, h2, h3⟩ := RowC.of_owns hown
  refine ⟨c', h1, hS.change i hi c' hg.os hg.tape hg.output hg.size ?_ h2 ?_ h1.nd⟩
  · intro k hk hne
    refine hg.block k hk fun e => ?_
    obtain ⟨x, hx, e2⟩ := hr.block k e.symm
    exact hne x hx e2
  · intro x hx
    have h4 := (h3 x hx).1
    rcases hv with e | e | ⟨g, e, hge⟩
    · rw [e] at h4; simp at h4
    · exact .inl (hr.block x.1 (e ▸ h4))
    · rw [e] at h4
      simp only [Option.some.injEq] at h4
      exact .inr (h4 ▸ hge)
end

/-- A slice that is read wherever this heaplet lies. -/
def RdIn (c : HL) (sz : Nat) (v : Value) (n : Nat) (xs : List Value) : Prop := ∀ (B : Nat) (w0 w : World) (L : List HL) (i : Nat), L[i]? = some c → St B w0 w L → Rd w sz v n xs
theorem RowC.rdIn {T : TypeId} {sz : Nat} {v : Value} {n : Nat} {xs : List Value} {c : HL} (h : RowC T sz v n xs c) : RdIn c sz v n xs := fun _ _ _ _ i hi hs => h.rd hs i hi
theorem RdIn.rd {c : HL} {sz : Nat} {v : Value} {n : Nat} {xs : List Value} (h : RdIn c sz v n xs) {B : Nat} {w0 w : World} {L : List HL} (hs : St B w0 w L) (i : Nat) (hi : L[i]? = some c) : Rd w sz v n xs := h _ _ _ _ i hi hs
theorem Addr.add_add' (a : Addr) (i j : Nat) : (a.add i).add j = a.add (i + j) := by
  unfold Addr.add
  by_cases hi : i = 0
  · subst hi; simp
  · by_cases hj : j = 0
    · subst hj; simp [hi]
    · have : i + j ≠ 0 := by omega
      simp [hi, hj, this, Nat.add_assoc]
/-- 'x[k:]'. -/
theorem Rd.drop {w : World} {sz n cap : Nat} {ao ao' : Option Addr} {xs : List Value} (h : Rd w sz (.slice ao n cap) n xs) (k : Nat) (hk : k ≤ n) (h1 : ¬ cap = k → ao' = ao.map fun a => a.add (k * sz)) (h2 : cap = k → ao' = ao) : Rd w sz (.slice ao' (n - k) (cap - k)) (n - k) (xs.drop (k * sz)) := by
  have hc := h.cap
  obtain ⟨ao0, cap0, e1, h3, h4, h5, h6⟩ := h
  simp only [Value.slice.injEq, true_and] at e1
  obtain ⟨rfl, rfl⟩ := e1
  refine ⟨ao', cap - k, rfl, ⟨by omega, by unfold maxLen; omega⟩, ?_, ?_, ?_⟩
  · rw [List.length_drop, h4, Nat.sub_mul]
  · intro e
    by_cases hck : cap = k
    · have := h2 hck
      rw [e] at this
      have := h5 this.symm
      omega
    · have := h1 hck
      rw [e] at this
      cases ao with
      | none => have := h5 rfl; omega
      | some a => simp at this
  · intro ad e j u hu
    rw [List.getElem?_drop] at hu
    have hj : k * sz + j < n * sz := by rw [← h4]; exact (List.getElem?_eq_some_iff.1 hu).1
    have hkn : ¬ cap = k := by
      intro e2
      have : n = k := by omega
      subst this
      omega
    have := h1 hkn
    cases ao with
    | none => simp [e] at this
    | some a =>
      simp only [Option.map_some] at this
      rw [e] at this
      simp only [Option.some.injEq] at this
      subst this
      rw [Addr.add_add']
      exact h6 a rfl _ u hu
theorem RowC.fresh {T : TypeId} {sz N cap : Nat} {X : Array Value} (g : Nat) (ys : List Value) (hl : ys.length = N * sz) (h1 : N ≤ cap) (h2 : cap ≤ maxLen) (h3 : X.size = cap * sz) (h4 : X.toList.take (N * sz) = ys) :
    RowC T sz (.slice (some ⟨g, 0, none⟩) N cap) N ys [(g, .cells X T (0, 0))] := ⟨hl, .inr ⟨g, cap, X, rfl, rfl, h1, h2, h3, h4⟩⟩
theorem St.renew {B : Nat} {w0 w : World} {L : List HL} {c : HL} (hS : St B w0 w L) (j : Nat) (hj : L[j]? = some c) (X : Array Value) (T : TypeId) :
    St B w0 (w.drew.alloc (.cells X T)) (L.set j [(w.heap.size, .cells X T (0, 0))]) := by
  refine hS.change j hj _ rfl rfl rfl (by simp) ?_ ?_ ?_ (by simp)
  · intro k hk _
    exact Below.heap_alloc w.drew _ k hk
  · intro x hx
    simp only [List.mem_singleton] at hx
    subst hx
    exact heap_alloc_new w.drew _
  · intro x hx
    simp only [List.mem_singleton] at hx
    subst hx
    exact .inr (Nat.le_refl _)
theorem set_same {α : Type} {L : List α} {j : Nat} {c : α} (hj : L[j]? = some c) : L.set j c = L := by
  apply List.ext_getElem?
  intro k
  rw [List.getElem?_set]
  by_cases e : j = k
  · subst e; rw [if_pos rfl, if_pos (List.getElem?_eq_some_iff.1 hj).1]; exact hj.symm
  · rw [if_neg e]
/-- The run of an append onto a row of the call's own. -/
theorem run_app {P : Program} {B : Nat} {w0 w : World} {L : List HL} {c : HL} {T : TypeId} {v vx : Value} {n m sz by_ : Nat} {xs news : List Value} (t ty : TypeId) (i : TypeInfo) (z : Value)
    (ht : P.underlying t = some (.slice T)) (hi : P.info? T = some i) (hz : i.zero = some z) (hsize : i.size = sz) (hby : i.bytes = by_) (hzs : z.cells.size = sz) (_hsz : 0 < sz)
    (hS : St B w0 w L) (j : Nat) (hj : L[j]? = some c) (hr : RowC T sz v n xs c) (hx : Rd w sz vx m news) (h1 : ∀ u ∈ news, u.oneCell' = true) (h63 : n + m ≤ maxLen) (hbytes : (n + m) * by_ ≤ 140737488355328) :
    ∃ v' w' c', (Builtin.append_ #[t, t] ty #[v, vx]).run P w = .ok v' w' ∧ RowC T sz v' (n + m) (xs ++ news) c' ∧ St B w0 w' (L.set j c') := by
  have hown := hr.owns hS j hj
  obtain ⟨ao, cap, rfl, hm, hl, hnone, hcell⟩ := hx
  subst hsize
  subst hby
  have hsmall : n + m ≤ 9223372036854775807 := by simp only [maxLen] at h63; omega
  have hlen : (xs ++ news).length = (n + m) * i.size := by rw [List.length_append, hr.1, hl, Nat.add_mul]
  cases ao with
  | none =>
    obtain ⟨rfl, rfl⟩ := hnone rfl
    have hn : news = [] := List.eq_nil_of_length_eq_zero (by simpa using hl)
    subst hn
    have hrun := run_append_owned_none (P := P) w B t ty T i i.size ht hi v n xs hown
    exact ⟨v, w, c, hrun, by simpa using hr, by rw [set_same hj]; exact hS⟩
  | some ad =>
    have hnews := hcell ad rfl
    have grown : ∀ (old : Nat), old < n + m →
        RowC T i.size (.slice (some ⟨w.heap.size, 0, none⟩) (n + m) (grownCap w (n + m) old T)) (n + m) (xs ++ news)
          [(w.heap.size, .cells (xs.toArray ++ news.toArray ++ Builtin.zeroCells z.cells (grownCap w (n + m) old T - (n + m))) T (0, 0))] := by
      intro old ho
      have hge := grownCap_ge w (n + m) old T
      refine RowC.fresh _ _ hlen hge (grownCap_le_maxLen w (n + m) old T h63) ?_ ?_
      · simp only [Array.size_append, List.size_toArray, size_zeroCells, hzs, hr.1, hl, ← Nat.add_mul]
        congr 1
        omega
      · simp only [Array.toList_append, List.append_assoc]
        rw [← List.append_assoc, ← hlen]
        exact List.take_left
    rcases hr.2 with ⟨rfl, rfl, rfl⟩ | ⟨g, cp, cur, rfl, rfl, hnc, hcm, hcs, htake⟩
    · have hx0 : xs = [] := List.eq_nil_of_length_eq_zero (by simpa using hr.1)
      subst hx0
      by_cases hm0 : m = 0
      · subst hm0
        have hn : news = [] := List.eq_nil_of_length_eq_zero (by simpa using hl)
        subst hn
        refine ⟨.slice none 0 0, w, [], ?_, RowC.nil T i.size, by rw [set_same hj]; exact hS⟩
        simp [Builtin.append_, run_underlying ht, sizeOf, typeInfo, hi, Builtin.lenOf, Builtin.firstCells, loadCells, loadCellsFrom]
      · have hrun := run_append_nil (P := P) w t ty T i z ht hi hz ad m cap news hl hnews (by omega) (by omega) (by have hb := hbytes; simp only [Nat.zero_add] at hb; omega)
        have hgr := grown 0 (by omega)
        simp only [Nat.zero_add, List.nil_append, Array.empty_append] at hgr ⊢
        exact ⟨_, _, _, hrun, hgr, hS.renew j hj _ T⟩
    · by_cases hroom : n + m ≤ cp
      · have hg := (hS.own _ (List.mem_of_getElem? hj) (g, .cells cur T (0, 0)) (by simp)).1
        have hfit : n * i.size + news.length ≤ cur.size := by rw [hl, hcs, ← Nat.add_mul]; exact Nat.mul_le_mul_right _ hroom
        have hrun := run_append_room (P := P) w t ty T i ht hi g n cp cur hg ad m cap news hl hnews h1 hroom hfit
        refine ⟨_, _, _, hrun, RowC.fresh g (xs ++ news) hlen hroom hcm (X := (cur.toList.take (n * i.size) ++ news ++ cur.toList.drop (n * i.size + news.length)).toArray) ?_ ?_, ?_⟩
        · simp only [List.size_toArray, List.length_append, List.length_take, List.length_drop, Array.length_toList]
          omega
        · rw [htake, ← hlen]
          exact List.take_left
        · refine hS.change j hj _ rfl rfl rfl (by simp [World.setRow]) ?_ ?_ ?_ (by simp)
          · intro k hk hne
            have : g ≠ k := hne (g, .cells cur T (0, 0)) (by simp)
            exact setRow_other w g k _ (fun e => this e.symm)
          · intro x hx
            simp only [List.mem_singleton] at hx
            subst hx
            exact setRow_heap w g cur _ T _ hg
          · intro x hx
            simp only [List.mem_singleton] at hx
            subst hx
            exact .inl ⟨_, List.mem_singleton.2 rfl, rfl⟩
      · have holds : ∀ j u, xs[j]? = some u → w.cell? ((⟨g, 0, none⟩ : Addr).add j) = some u := hown.cells (g := g) rfl
        have hrun := run_append_grow (P := P) w t ty T i z ht hi hz ⟨g, 0, none⟩ n cp xs hr.1 holds ad m cap news hl hnews (by omega) (by omega) (growslice_fits (by omega) hbytes)
        exact ⟨_, _, _, hrun, grown cp (by omega), hS.renew j hj _ T⟩

section
variable {P : Program} {ops : Array Oper} {rest : List Oper} {o : Oper} {a : Act} {Q : Exit → Act → World → Prop} {B : Nat} {w0 w : World} {L : List HL} {c : HL} {T : TypeId} {v vx : Value} {n m sz by_ : Nat} {xs news : List Value}
/-- 'append(s, x...)' at a row of the call's own. -/
theorem wpList_app (j : Nat) (t : TypeId) (i : TypeInfo) (z : Value) (s x : Operand) (hgd : o.guard = none) (ho : o.op = .call { callee := .builtin .append, args := #[s, x], argTypes := #[t, t] })
    (hs : a.eval s = v) (hx : a.eval x = vx)
    (ht : P.underlying t = some (.slice T)) (hi : P.info? T = some i) (hz : i.zero = some z) (hsize : i.size = sz) (hby : i.bytes = by_) (hzs : z.cells.size = sz) (hsz : 0 < sz)
    (hS : St B w0 w L) (hj : L[j]? = some c) (hr : RowC T sz v n xs c) (hrd : Rd w sz vx m news) (h1 : ∀ u ∈ news, u.oneCell' = true) (h63 : n + m ≤ maxLen) (hbytes : (n + m) * by_ ≤ 140737488355328)
    (h : ∀ v' c' w', RowC T sz v' (n + m) (xs ++ news) c' → St B w0 w' (L.set j c') → wpList P ops Q rest (a.put o.dst v') w') : wpList P ops Q (o :: rest) a w := by
  refine wpList_plain hgd fun K hK => ?_
  obtain ⟨v', w', c', hrun, h2, h3⟩ := run_app (P := P) t o.type i z ht hi hz hsize hby hzs hsz hS j hj hr hrd h1 h63 hbytes
  unfold Oper.wp execOp
  simp only [ho, resolve, invoke, builtin, Sem.run_bind, Sem.run_pure, Result.andThen_ok, List.map_toArray, List.map_cons, List.map_nil, hs, hx, hrun]
  exact hK _ _ (h v' c' w' h2 h3)
theorem Rd.one (w : World) (u : Value) (T : TypeId) : Rd (w.alloc (.cells #[u] T)) 1 (.slice (some ⟨w.heap.size, 0, none⟩) 1 1) 1 [u] := by
  refine ⟨_, 1, rfl, by simp [maxLen], by simp, by simp, fun ad e j u' hu => ?_⟩
  simp only [Option.some.injEq] at e
  subst e
  rw [add_lit0]
  cases j with
  | zero => simp at hu; subst hu; simp
  | succ j => simp at hu
/-- 'append(s, u)': the one element has just been laid into a block of its own. -/
theorem wpList_app1 (j : Nat) (t : TypeId) (i : TypeInfo) (z u : Value) (s x : Operand) (hgd : o.guard = none) (ho : o.op = .call { callee := .builtin .append, args := #[s, x], argTypes := #[t, t] })
    (hs : a.eval s = v) (hx : a.eval x = .slice (some ⟨w.heap.size, 0, none⟩) 1 1)
    (ht : P.underlying t = some (.slice T)) (hi : P.info? T = some i) (hz : i.zero = some z) (hsize : i.size = 1) (hby : i.bytes = by_) (hzs : z.cells.size = 1)
    (hS : St B w0 w L) (hj : L[j]? = some c) (hr : RowC T 1 v n xs c) (h1 : u.oneCell' = true) (h63 : n + 1 ≤ maxLen) (hbytes : (n + 1) * by_ ≤ 140737488355328)
    (h : ∀ v' c' w', RowC T 1 v' (n + 1) (xs ++ [u]) c' → St B w0 w' (L.set j c') → wpList P ops Q rest (a.put o.dst v') w') : wpList P ops Q (o :: rest) a (w.alloc (.cells #[u] T)) :=
  wpList_app j t i z s x hgd ho hs hx ht hi hz hsize hby hzs (by omega) (hS.alloc' _) hj hr (Rd.one w u T) (by simpa using h1) h63 hbytes h
/-- 'make([]T, n)'. -/
theorem wpList_mk (t : TypeId) (i : TypeInfo) (z : Value) (l cc : Operand) (hg : o.guard = none) (hop : o.op = Op.makeSlice t l cc) (kl kc : IntKind) (X C : Int) (hl : a.eval l = .int kl X) (hc : a.eval cc = .int kc C)
    (h1 : P.underlying t = some (.slice T)) (h2 : P.info? T = some i) (h3 : i.zero = some z) (h4 : i.size = 1) (h5 : i.bytes = by_) (hzs : z.cells = #[z]) (hX : X = (n : Int)) (hC : C = (n : Int)) (b2 : by_ * n ≤ 281474976710656) (b3 : n ≤ maxLen)
    (hS : St B w0 w L) (hK : ∀ g c' w', RowC T 1 (.slice (some ⟨g, 0, none⟩) n n) n (List.replicate n z) c' → St B w0 w' (c' :: L) → wpList P ops Q rest (a.put o.dst (.slice (some ⟨g, 0, none⟩) n n)) w') : wpList P ops Q (o :: rest) a w := by
  refine wpList_make_full w hg l cc t hop w.heap.size T i z 1 h1 h2 h3 h4 kl kc X C n hl hc hX hC (by rw [h5]; exact b2) b3 (Nat.le_refl _) ?_
  intro w' hown hgr
  obtain ⟨c', r1, r2, r3⟩ := RowC.of_owns hown
  have e : (madeCells z.cells (n * 1)).toList = List.replicate n z := by rw [hzs, Nat.mul_one]; exact toList_madeCells_one z n
  rw [e] at r1
  refine hK _ c' w' r1 ?_
  refine hS.join (L' := [c']) ⟨⟨hgr.os, hgr.tape, hgr.output, hgr.size, fun k hk => hgr.block k hk (by simp)⟩, hgr.size, ?_, ?_, by simpa using r1.nd⟩
  · intro cc hcc x hx
    simp only [List.mem_singleton] at hcc
    subst hcc
    exact ⟨r2 x hx, (r3 x hx).2⟩
  · intro i j ci cj hi hj _ _ _ _ _
    have h1 := (List.getElem?_eq_some_iff.1 hi).1
    have h2 := (List.getElem?_eq_some_iff.1 hj).1
    simp at h1 h2
    omega
end
end Go.Proofs.Ythgbkncanoknkaa
/-
  What every walk of this seat needs.
-/
set_option linter.unusedVariables false
set_option linter.unusedSimpArgs false
namespace Go.Proofs.Ythgbkncanoknkaa
open Go.RowKit
set_option maxRecDepth 100000
theorem mixed : Try.prog.follows .mixedOrders = true := by kernel_rfl
/-- A contract that leaves the very world, for go_quiet. -/
theorem quiet_same {P : Program} {f : FuncId} {args : Array Value} {w : World} {n : Nat} {v : Value}
    (h : Calls P f args (w.drewN n) fun e w' => e = .returned v ∧ w.drewN n = w') : Calls P f args (w.drewN n) fun e w'' => e = .returned v ∧ ∃ m, w'' = w.drewN m :=
  Calls.quiet_of_same (h.mono fun _ _ ⟨he, hw⟩ => ⟨he, hw.symm⟩)
end Go.Proofs.Ythgbkncanoknkaa
/-
  Bytes as cells.
-/
set_option linter.unusedVariables false
set_option linter.unusedSimpArgs false
namespace Go.Proofs.Ythgbkncanoknkaa
open Go.RowKit
set_option maxRecDepth 100000
theorem infoU8 : (Try.prog.info? 5).map (fun i => (i.zero, i.size, i.bytes)) = some (some (.int .u8 0), 1, 1) := by kernel_rfl
/-- Bytes as cells. -/
def bv (bs : List UInt8) : List Value := bs.map fun b => .int .u8 (b.toNat : Int)
theorem bv_length (bs : List UInt8) : (bv bs).length = bs.length := by simp [bv]
theorem bv_append (a b : List UInt8) : bv (a ++ b) = bv a ++ bv b := by simp [bv]
theorem bv_get (bs : List UInt8) (i : Nat) (b : UInt8) (h : bs[i]? = some b) : (bv bs)[i]? = some (.int .u8 (b.toNat : Int)) := by simp [bv, h]
theorem bv_set (bs : List UInt8) (i : Nat) (b : UInt8) : bv (bs.set i b) = (bv bs).set i (.int .u8 (b.toNat : Int)) := by simp [bv, List.map_set]
theorem bv_one (bs : List UInt8) : ∀ u ∈ bv bs, u.oneCell' = true := by
  intro u hu
  obtain ⟨b, _, rfl⟩ := List.mem_map.1 hu
  rfl

@[go_sem] theorem eql_nil_bytes (w : World) (ao : Option Addr) (n c : Nat) : (binOp .eql 29 (.slice ao n c) (.slice none 0 0)).run Try.prog w = .ok (.bool ao.isNone) w := Lib.run_eql_slice_nil w _ _ _ _ _ _ _ Try.underlying29

end Go.Proofs.Ythgbkncanoknkaa
/-
  append(b, s...) of a string onto a row of one's own.
-/
set_option linter.unusedVariables false
set_option linter.unusedSimpArgs false
namespace Go.Proofs.Ythgbkncanoknkaa
open Go.RowKit
set_option maxRecDepth 100000
theorem strCells_bv (l : List UInt8) : Lib.strCells ⟨l.toArray⟩ = bv l := by
  unfold Lib.strCells bv
  simp
section
variable {P : Program} {B : Nat} {w0 w : World} {L : List HL} {c : HL} {T : TypeId} {v : Value} {n : Nat} {xs : List Value}
theorem run_appS (t u ty : TypeId) (i : TypeInfo) (ht : P.underlying t = some (.slice T)) (hu : P.underlying u = some .string) (hi : P.info? T = some i) (hz : i.zero = some (.int .u8 0)) (hsize : i.size = 1) (hby : i.bytes = 1)
    (hS : St B w0 w L) (j : Nat) (hj : L[j]? = some c) (hr : RowC T 1 v n xs c) (l : List UInt8) (h63 : n + l.length ≤ maxLen) (hbytes : n + l.length ≤ 140737488355328) :
    ∃ v' w' c', (Builtin.append_ #[t, u] ty #[v, .string ⟨l.toArray⟩]).run P w = .ok v' w' ∧ RowC T 1 v' (n + l.length) (xs ++ bv l) c' ∧ St B w0 w' (L.set j c') := by
  have hown := hr.owns hS j hj
  have hsz : (⟨l.toArray⟩ : ByteArray).size = l.length := by simp [ByteArray.size]
  have hcl : Lib.strCells ⟨l.toArray⟩ = bv l := strCells_bv l
  have hsmall : n + l.length ≤ 9223372036854775807 := by simp only [maxLen] at h63; omega
  have hxl : xs.length = n := by have := hr.1; simpa using this
  have hlen : (xs ++ bv l).length = (n + l.length) * 1 := by rw [List.length_append, hxl, bv_length, Nat.mul_one]
  have hz1 : (Value.int IntKind.u8 0).cells.size = 1 := rfl
  have grown : ∀ (old : Nat), old < n + l.length →
      RowC T 1 (.slice (some ⟨w.heap.size, 0, none⟩) (n + l.length) (grownCap w (n + l.length) old T)) (n + l.length) (xs ++ bv l)
        [(w.heap.size, .cells (xs.toArray ++ (bv l).toArray ++ Builtin.zeroCells (Value.int .u8 0).cells (grownCap w (n + l.length) old T - (n + l.length))) T (0, 0))] := by
    intro old ho
    have hge := grownCap_ge w (n + l.length) old T
    refine RowC.fresh _ _ hlen hge (grownCap_le_maxLen w (n + l.length) old T h63) ?_ ?_
    · simp only [Array.size_append, List.size_toArray, size_zeroCells, hz1, hxl, bv_length]
      omega
    · simp only [Array.toList_append, List.append_assoc]
      rw [← List.append_assoc, ← hlen]
      exact List.take_left
  rcases hr.2 with ⟨rfl, rfl, rfl⟩ | ⟨g, cp, cur, rfl, rfl, hnc, hcm, hcs, htake⟩
  · have hx0 : xs = [] := List.eq_nil_of_length_eq_zero hxl
    subst hx0
    by_cases hm0 : l.length = 0
    · have hl0 : l = [] := List.eq_nil_of_length_eq_zero hm0
      subst hl0
      refine ⟨.slice none 0 0, w, [], ?_, RowC.nil T 1, by rw [set_same hj]; exact hS⟩
      obtain ⟨sb, hsb⟩ : ∃ sb : ByteArray, sb = ⟨([] : List UInt8).toArray⟩ := ⟨_, rfl⟩
      have h0 : sb.size = 0 := by rw [hsb]; rfl
      rw [← hsb]
      have hf := Lib.run_firstCells_string (P := P) w 1 sb
      rw [h0] at hf
      clear hsb
      simp [Builtin.append_, run_underlying ht, run_underlying hu, sizeOf, typeInfo, hi, hsize, Builtin.lenOf, h0, hf]
    · have hrun := run_append_nil_string (P := P) w t u ty T i (.int .u8 0) ht hu hi hz ⟨l.toArray⟩ (by rw [hsz]; omega) (by rw [hsz]; omega) (by rw [hsz, hby]; omega)
      have hgr := grown 0 (by omega)
      simp only [Nat.zero_add, List.nil_append, Array.empty_append] at hgr ⊢
      have e1 : ((⟨l.toArray⟩ : ByteArray).data.map fun b => Value.int .u8 (b.toNat : Int)) = (bv l).toArray := by
        apply Array.ext'
        simp [bv]
      rw [e1, hsz] at hrun
      exact ⟨_, _, _, hrun, hgr, hS.renew j hj _ T⟩
  · by_cases hroom : n + l.length ≤ cp
    · have hg := (hS.own _ (List.mem_of_getElem? hj) (g, .cells cur T (0, 0)) (by simp)).1
      have hcs' : cur.size = cp := by simpa using hcs
      have hrun := Lib.run_append_room_string (P := P) w t u ty T i ht hu hi hsize g n cp cur hg ⟨l.toArray⟩ (by rw [hsz]; exact hroom) (by rw [hsz]; omega)
      rw [hsz, hcl] at hrun
      have ht' : cur.toList.take n = xs := by simpa using htake
      refine ⟨_, _, _, hrun, RowC.fresh g (xs ++ bv l) hlen hroom hcm (X := (cur.toList.take n ++ bv l ++ cur.toList.drop (n + l.length)).toArray) ?_ ?_, ?_⟩
      · simp only [List.size_toArray, List.length_append, List.length_take, List.length_drop, Array.length_toList, bv_length]
        omega
      · rw [ht', ← hlen]
        exact List.take_left
      · refine hS.change j hj _ rfl rfl rfl (by simp [World.setRow]) ?_ ?_ ?_ (by simp)
        · intro k hk hne
          have : g ≠ k := hne (g, .cells cur T (0, 0)) (by simp)
          exact setRow_other w g k _ (fun e => this e.symm)
        · intro x hx
          simp only [List.mem_singleton] at hx
          subst hx
          exact setRow_heap w g cur _ T _ hg
        · intro x hx
          simp only [List.mem_singleton] at hx
          subst hx
          exact .inl ⟨_, List.mem_singleton.2 rfl, rfl⟩
    · have holds : ∀ j u, xs[j]? = some u → w.cell? ((⟨g, 0, none⟩ : Addr).add j) = some u := hown.cells (g := g) rfl
      have hrun := Lib.run_append_grow_string (P := P) w t u ty T i (.int .u8 0) ht hu hi hz ⟨g, 0, none⟩ n cp xs (by rw [hsize]; simpa using hxl) holds ⟨l.toArray⟩ (by rw [hsz]; omega) (by rw [hsz]; omega) (by rw [hsz, hby]; exact growslice_fits (by omega) (by omega))
      rw [hsz, hcl] at hrun
      exact ⟨_, _, _, hrun, grown cp (by omega), hS.renew j hj _ T⟩
variable {ops : Array Oper} {rest : List Oper} {o : Oper} {a : Act} {Q : Exit → Act → World → Prop}
/-- 'append(b, s...)', s a string, at a row of the call's own. -/
theorem wpList_appS (j : Nat) (t u : TypeId) (i : TypeInfo) (s x : Operand) (l : List UInt8) (hgd : o.guard = none) (ho : o.op = .call { callee := .builtin .append, args := #[s, x], argTypes := #[t, u] })
    (hs : a.eval s = v) (hx : a.eval x = .string ⟨l.toArray⟩)
    (ht : P.underlying t = some (.slice T)) (hu : P.underlying u = some .string) (hi : P.info? T = some i) (hz : i.zero = some (.int .u8 0)) (hsize : i.size = 1) (hby : i.bytes = 1)
    (hS : St B w0 w L) (hj : L[j]? = some c) (hr : RowC T 1 v n xs c) (h63 : n + l.length ≤ maxLen) (hbytes : n + l.length ≤ 140737488355328)
    (h : ∀ v' c' w', RowC T 1 v' (n + l.length) (xs ++ bv l) c' → St B w0 w' (L.set j c') → wpList P ops Q rest (a.put o.dst v') w') : wpList P ops Q (o :: rest) a w := by
  refine wpList_plain hgd fun K hK => ?_
  obtain ⟨v', w', c', hrun, h2, h3⟩ := run_appS (P := P) t u o.type i ht hu hi hz hsize hby hS j hj hr l h63 hbytes
  unfold Oper.wp execOp
  simp only [ho, resolve, invoke, builtin, Sem.run_bind, Sem.run_pure, Result.andThen_ok, List.map_toArray, List.map_cons, List.map_nil, hs, hx, hrun]
  exact hK _ _ (h v' c' w' h2 h3)
end
end Go.Proofs.Ythgbkncanoknkaa
/-
  Contract of record.Check.
-/
set_option linter.unusedVariables false
set_option linter.unusedSimpArgs false
namespace Go.Proofs.Ythgbkncanoknkaa
open Go.RowKit
set_option maxRecDepth 100000
/-- A record. -/
structure Rec where
  kind : Int
  seq : Int
  key : List UInt8
  val : List UInt8
def recC (r : Rec) : List Value := [.int .i64 r.kind, .int .i64 r.seq, .string ⟨r.key.toArray⟩, .string ⟨r.val.toArray⟩]
def recV (r : Rec) : Value := .agg #[.int .i64 r.kind, .int .i64 r.seq, .string ⟨r.key.toArray⟩, .string ⟨r.val.toArray⟩]
/-- A record's first fault. -/
def ckR (r : Rec) : Nat :=
  if r.key = [] then 1
  else if 100 < r.key.length ∨ 4000 < r.val.length then 2
  else if (r.kind ≠ 1 ∧ r.kind ≠ 0) ∨ (r.kind = 0 ∧ r.val ≠ []) ∨ r.seq < 1 ∨ 1125899906842624 < r.seq then 10 else 0
theorem str_nil (s : List UInt8) : ((⟨s.toArray⟩ : ByteArray) = ⟨#[]⟩) ↔ s = [] := by
  constructor
  · intro h
    have := congrArg ByteArray.data h
    simpa using this
  · rintro rfl; rfl
set_option maxHeartbeats 2000000 in
theorem check_any (r : Rec) (w : World) : Calls Try.prog 27 #[recV r] w fun e w' => e = .returned (.int .i64 (ckR r : Int)) ∧ ∃ o, w' = w.alloc o := by
  obtain ⟨kind, seq, key, val⟩ := r
  have hk : (⟨key.toArray⟩ : ByteArray).size = key.length := by simp [ByteArray.size]
  have hv : (⟨val.toArray⟩ : ByteArray).size = val.length := by simp [ByteArray.size]
  unfold recV
  dsimp only
  go_enter Try.func27, Try.ntmps27
  go_wp2_with fail
  all_goals
    go_ret
    refine ⟨?_, _, rfl⟩
    unfold ckR
    dsimp only
    clear hk hv
    by_cases c1 : key = []
    · rw [if_pos c1]
      first | rfl | (exfalso; simp_all; done)
    rw [if_neg c1]
    by_cases c2 : 100 < key.length ∨ 4000 < val.length
    · rw [if_pos c2]
      first | rfl | (exfalso; first | (simp_all; done) | omega | (simp_all; omega))
    rw [if_neg c2]
    by_cases c3 : (kind ≠ 1 ∧ kind ≠ 0) ∨ (kind = 0 ∧ val ≠ []) ∨ seq < 1 ∨ 1125899906842624 < seq
    · rw [if_pos c3]
      first | rfl | (exfalso; first | (simp_all; done) | omega | (simp_all; omega))
    · rw [if_neg c3]
      first | rfl | (exfalso; first | (simp_all; done) | omega | (simp_all; omega))
end Go.Proofs.Ythgbkncanoknkaa
/-
  append at a slice that has no room: always a new row.
-/
set_option linter.unusedVariables false
set_option linter.unusedSimpArgs false
namespace Go.Proofs.Ythgbkncanoknkaa
open Go.RowKit
set_option maxRecDepth 100000
/-- 'x[:k:k]'. -/
theorem Rd.capTo {w : World} {sz n cap : Nat} {ao : Option Addr} {xs : List Value} (h : Rd w sz (.slice ao n cap) n xs) (k : Nat) (hk : k ≤ n) : Rd w sz (.slice ao k k) k (xs.take (k * sz)) := by
  obtain ⟨ao', cap', h1, h2, h3, h4, h5⟩ := h
  simp only [Value.slice.injEq, true_and] at h1
  obtain ⟨rfl, rfl⟩ := h1
  refine ⟨ao, k, rfl, ⟨by omega, by omega⟩, ?_, fun e => ?_, fun ad e j u hu => ?_⟩
  · rw [List.length_take, h3]
    exact Nat.min_eq_left (Nat.mul_le_mul_right _ hk)
  · have := h4 e
    omega
  · rw [List.getElem?_take] at hu
    split at hu
    · exact h5 ad e j u hu
    · simp at hu
section
variable {P : Program} {B : Nat} {w0 w : World} {L : List HL} {T : TypeId} {v vx : Value} {n m sz by_ : Nat} {xs news : List Value}
/-- 'append(s, x...)' where s has no room: always a new row. -/
theorem run_appG (t ty : TypeId) (i : TypeInfo) (z : Value) (ht : P.underlying t = some (.slice T)) (hi : P.info? T = some i) (hz : i.zero = some z) (hsize : i.size = sz) (hby : i.bytes = by_) (hzs : z.cells.size = sz) (hsz : 0 < sz)
    (hS : St B w0 w L) {ao : Option Addr} {cp : Nat} (hr : Rd w sz (.slice ao n cp) n xs) (hx : Rd w sz vx m news) (hm : 0 < m) (hcp : cp < n + m) (h63 : n + m ≤ maxLen) (hbytes : (n + m) * by_ ≤ 140737488355328) :
    ∃ v' w' c', (Builtin.append_ #[t, t] ty #[.slice ao n cp, vx]).run P w = .ok v' w' ∧ RowC T sz v' (n + m) (xs ++ news) c' ∧ St B w0 w' (c' :: L) := by
  have hrl := hr.len
  obtain ⟨ax, capx, rfl, hmx, hl, hnone, hcell⟩ := hx
  subst hsize
  subst hby
  have hsmall : n + m ≤ 9223372036854775807 := by simp only [maxLen] at h63; omega
  have hlen : (xs ++ news).length = (n + m) * i.size := by rw [List.length_append, hrl, hl, Nat.add_mul]
  have grown : ∀ (old : Nat),
      RowC T i.size (.slice (some ⟨w.heap.size, 0, none⟩) (n + m) (grownCap w (n + m) old T)) (n + m) (xs ++ news)
        [(w.heap.size, .cells (xs.toArray ++ news.toArray ++ Builtin.zeroCells z.cells (grownCap w (n + m) old T - (n + m))) T (0, 0))] := by
    intro old
    have hge := grownCap_ge w (n + m) old T
    refine RowC.fresh _ _ hlen hge (grownCap_le_maxLen w (n + m) old T h63) ?_ ?_
    · simp only [Array.size_append, List.size_toArray, size_zeroCells, hzs, hrl, hl, ← Nat.add_mul]
      congr 1
      omega
    · simp only [Array.toList_append, List.append_assoc]
      rw [← List.append_assoc, ← hlen]
      exact List.take_left
  obtain ⟨ad, rfl⟩ : ∃ ad, ax = some ad := by
    cases ax with
    | none => have := (hnone rfl).1; omega
    | some ad => exact ⟨ad, rfl⟩
  have hnews := hcell ad rfl
  have hnew : ∀ X : Array Value, St B w0 (w.drew.alloc (.cells X T)) ([(w.heap.size, .cells X T (0, 0))] :: L) := fun X => hS.drew.alloc _
  cases ao with
  | none =>
    obtain ⟨rfl, rfl, rfl⟩ := hr.none_iff
    have hrun := run_append_nil (P := P) w t ty T i z ht hi hz ad m capx news hl hnews (by omega) (by omega) (by have hb := hbytes; simp only [Nat.zero_add] at hb; omega)
    have hgr := grown 0
    simp only [Nat.zero_add, List.nil_append, Array.empty_append] at hgr ⊢
    exact ⟨_, _, _, hrun, hgr, hnew _⟩
  | some g =>
    have holds : ∀ j u, xs[j]? = some u → w.cell? (g.add j) = some u := by
      intro j u hu
      obtain ⟨g', e, hc⟩ := hr.at hu
      cases e
      exact hc
    have hrun := run_append_grow (P := P) w t ty T i z ht hi hz g n cp xs hrl holds ad m capx news hl hnews (by omega) (by omega) (growslice_fits (by omega) hbytes)
    exact ⟨_, _, _, hrun, grown cp, hnew _⟩
variable {ops : Array Oper} {rest : List Oper} {o : Oper} {a : Act} {Q : Exit → Act → World → Prop}
theorem wpList_appG (t : TypeId) (i : TypeInfo) (z : Value) (s x : Operand) (hgd : o.guard = none) (ho : o.op = .call { callee := .builtin .append, args := #[s, x], argTypes := #[t, t] })
    {ao : Option Addr} {cp : Nat} (hs : a.eval s = .slice ao n cp) (hx : a.eval x = vx)
    (ht : P.underlying t = some (.slice T)) (hi : P.info? T = some i) (hz : i.zero = some z) (hsize : i.size = sz) (hby : i.bytes = by_) (hzs : z.cells.size = sz) (hsz : 0 < sz)
    (hS : St B w0 w L) (hr : Rd w sz (.slice ao n cp) n xs) (hrd : Rd w sz vx m news) (hm : 0 < m) (hcp : cp < n + m) (h63 : n + m ≤ maxLen) (hbytes : (n + m) * by_ ≤ 140737488355328)
    (h : ∀ v' c' w', RowC T sz v' (n + m) (xs ++ news) c' → St B w0 w' (c' :: L) → wpList P ops Q rest (a.put o.dst v') w') : wpList P ops Q (o :: rest) a w := by
  refine wpList_plain hgd fun K hK => ?_
  obtain ⟨v', w', c', hrun, h2, h3⟩ := run_appG (P := P) t o.type i z ht hi hz hsize hby hzs hsz hS hr hrd hm hcp h63 hbytes
  unfold Oper.wp execOp
  simp only [ho, resolve, invoke, builtin, Sem.run_bind, Sem.run_pure, Result.andThen_ok, List.map_toArray, List.map_cons, List.map_nil, hs, hx, hrun]
  exact hK _ _ (h v' c' w' h2 h3)
/-- The same, as a step of a region that draws. -/
theorem step_appG {E : Prop} {K : Act → World → Prop} (t : TypeId) (i : TypeInfo) (z : Value) (s x : Operand) (hgd : o.guard = none) (ho : o.op = .call { callee := .builtin .append, args := #[s, x], argTypes := #[t, t] })
    {ao : Option Addr} {cp : Nat} (hs : a.eval s = .slice ao n cp) (hx : a.eval x = vx)
    (ht : P.underlying t = some (.slice T)) (hi : P.info? T = some i) (hz : i.zero = some z) (hsize : i.size = sz) (hby : i.bytes = by_) (hzs : z.cells.size = sz) (hsz : 0 < sz)
    (hS : St B w0 w L) (hr : Rd w sz (.slice ao n cp) n xs) (hrd : Rd w sz vx m news) (hm : 0 < m) (hcp : cp < n + m) (h63 : n + m ≤ maxLen) (hbytes : (n + m) * by_ ≤ 140737488355328)
    (h : ∀ v' c' w', RowC T sz v' (n + m) (xs ++ news) c' → St B w0 w' (c' :: L) → K (a.put o.dst v') w') : if Region.wanted o (yielded ops a.tmps) = true then Oper.wp P o a w K Q else E := by
  rw [if_pos (by simp [Region.wanted, hgd])]
  obtain ⟨v', w', c', hrun, h2, h3⟩ := run_appG (P := P) t o.type i z ht hi hz hsize hby hzs hsz hS hr hrd hm hcp h63 hbytes
  unfold Oper.wp execOp
  simp only [ho, resolve, invoke, builtin, Sem.run_bind, Sem.run_pure, Result.andThen_ok, List.map_toArray, List.map_cons, List.map_nil, hs, hx, hrun]
  exact h v' c' w' h2 h3
theorem step_app {E : Prop} {K : Act → World → Prop} {c : HL} (j : Nat) (t : TypeId) (i : TypeInfo) (z : Value) (s x : Operand) (hgd : o.guard = none) (ho : o.op = .call { callee := .builtin .append, args := #[s, x], argTypes := #[t, t] })
    (hs : a.eval s = v) (hx : a.eval x = vx)
    (ht : P.underlying t = some (.slice T)) (hi : P.info? T = some i) (hz : i.zero = some z) (hsize : i.size = sz) (hby : i.bytes = by_) (hzs : z.cells.size = sz) (hsz : 0 < sz)
    (hS : St B w0 w L) (hj : L[j]? = some c) (hr : RowC T sz v n xs c) (hrd : Rd w sz vx m news) (h1 : ∀ u ∈ news, u.oneCell' = true) (h63 : n + m ≤ maxLen) (hbytes : (n + m) * by_ ≤ 140737488355328)
    (h : ∀ v' c' w', RowC T sz v' (n + m) (xs ++ news) c' → St B w0 w' (L.set j c') → K (a.put o.dst v') w') : if Region.wanted o (yielded ops a.tmps) = true then Oper.wp P o a w K Q else E := by
  rw [if_pos (by simp [Region.wanted, hgd])]
  obtain ⟨v', w', c', hrun, h2, h3⟩ := run_app (P := P) t o.type i z ht hi hz hsize hby hzs hsz hS j hj hr hrd h1 h63 hbytes
  unfold Oper.wp execOp
  simp only [ho, resolve, invoke, builtin, Sem.run_bind, Sem.run_pure, Result.andThen_ok, List.map_toArray, List.map_cons, List.map_nil, hs, hx, hrun]
  exact h v' c' w' h2 h3
end
end Go.Proofs.Ythgbkncanoknkaa
/-
  append of a row of zeros, the greater of two, numbers as cells.
-/
set_option linter.unusedVariables false
set_option linter.unusedSimpArgs false
namespace Go.Proofs.Ythgbkncanoknkaa
open Go.RowKit
set_option maxRecDepth 100000

theorem infoInt : (Try.prog.info? 3).map (fun i => (i.zero, i.size, i.bytes)) = some (some (.int .i64 0), 1, 8) := by kernel_rfl
/-- Numbers as cells. -/
def iv (l : List Int) : List Value := l.map (Value.int .i64)
theorem iv_length (l : List Int) : (iv l).length = l.length := by simp [iv]
theorem iv_append (a b : List Int) : iv (a ++ b) = iv a ++ iv b := by simp [iv]
theorem iv_get (l : List Int) (i : Nat) (x : Int) (h : l[i]? = some x) : (iv l)[i]? = some (.int .i64 x) := by simp [iv, h]
theorem iv_one (l : List Int) : ∀ u ∈ iv l, u.oneCell' = true := by
  intro u hu
  obtain ⟨b, _, rfl⟩ := List.mem_map.1 hu
  rfl

theorem Rd.take {w : World} {sz n cap : Nat} {ao : Option Addr} {xs : List Value} (h : Rd w sz (.slice ao n cap) n xs) (k : Nat) (hk : k ≤ n) : Rd w sz (.slice ao k cap) k (xs.take (k * sz)) := by
  obtain ⟨ao', cap', h1, h2, h3, h4, h5⟩ := h
  simp only [Value.slice.injEq, true_and] at h1
  obtain ⟨rfl, rfl⟩ := h1
  refine ⟨ao, cap, rfl, ⟨by omega, h2.2⟩, ?_, fun e => ?_, fun ad e j u hu => ?_⟩
  · rw [List.length_take, h3]
    exact Nat.min_eq_left (Nat.mul_le_mul_right _ hk)
  · have := h4 e
    omega
  · rw [List.getElem?_take] at hu
    split at hu
    · exact h5 ad e j u hu
    · simp at hu
/-- The greater of two numbers. -/
theorem max2_ints (k k' : IntKind) (x y : Int) : Builtin.max2 (.int k x) (.int k' y) = pure (.int k (if x < y then y else x)) := by simp only [Builtin.max2, gt_iff_lt]
theorem max_of_two (ats : Array TypeId) (ty : TypeId) (a b : Value) : Builtin.max_ ats ty #[a, b] = (Builtin.max2 a b >>= fun s => pure s) := by simp only [Builtin.max_, List.foldlM_cons, List.foldlM_nil]
theorem min2_ints (k k' : IntKind) (x y : Int) : Builtin.min2 (.int k x) (.int k' y) = pure (.int k (if y < x then y else x)) := by simp only [Builtin.min2, gt_iff_lt]
theorem min_of_two (ats : Array TypeId) (ty : TypeId) (a b : Value) : Builtin.min_ ats ty #[a, b] = (Builtin.min2 a b >>= fun s => pure s) := by simp only [Builtin.min_, List.foldlM_cons, List.foldlM_nil]

theorem zeroCells_one (z : Value) (k : Nat) : (Builtin.zeroCells #[z] k).toList = List.replicate k z := by
  unfold Builtin.zeroCells
  apply List.ext_getElem?
  intro i
  simp [List.getElem?_replicate]
  by_cases h : i < k <;> simp [h, Nat.mod_one]

section
variable {P : Program} {B : Nat} {w0 w w' : World} {L : List HL} {c : HL} {T : TypeId} {v : Value} {n by_ : Nat} {xs : List Value}
theorem run_app0 (t tn ty : TypeId) (i : TypeInfo) (z : Value) (kq kn : IntKind) (ht : P.underlying t = some (.slice T)) (htn : P.underlying tn = some (.int kn)) (hi : P.info? T = some i) (hz : i.zero = some z) (hsize : i.size = 1) (hby : i.bytes = by_) (hzs : z.cells = #[z]) (hz1 : z.oneCell' = true)
    (hS : St B w0 w L) (j : Nat) (hj : L[j]? = some c) (hr : RowC T 1 v n xs c) (k : Nat) (h63 : n + k ≤ maxLen) (hbytes : (n + k) * by_ ≤ 140737488355328) :
    ∃ v' w' c', (Builtin.append_ #[t, tn] ty #[v, .int kq k]).run P w = .ok v' w' ∧ RowC T 1 v' (n + k) (xs ++ List.replicate k z) c' ∧ St B w0 w' (L.set j c') := by
  have hsmall : n + k ≤ 9223372036854775807 := by simp only [maxLen] at h63; omega
  have hl := hr.len
  have hlen : (xs ++ List.replicate k z).length = (n + k) * 1 := by rw [List.length_append, hl, List.length_replicate]; omega
  have hw : IntKind.i64.wrap (k : Int) = k := by rw [IntKind.wrap_i64]; omega
  have hneg : ¬ ((k : Int) < 0) := by omega
  have hkb : k * by_ ≤ 140737488355328 := Nat.le_trans (Nat.mul_le_mul_right _ (Nat.le_add_left k n)) hbytes
  have h48i : ¬ (281474976710656 < (k : Int) * (by_ : Int)) := by rw [← Int.natCast_mul]; omega
  have grown : ∀ (old : Nat), old < n + k →
      RowC T 1 (.slice (some ⟨w.heap.size, 0, none⟩) (n + k) (grownCap w (n + k) old T)) (n + k) (xs ++ List.replicate k z)
        [(w.heap.size, .cells (xs.toArray ++ Builtin.zeroCells z.cells k ++ Builtin.zeroCells z.cells (grownCap w (n + k) old T - (n + k))) T (0, 0))] := by
    intro old ho
    have hge := grownCap_ge w (n + k) old T
    refine RowC.fresh _ _ hlen hge (grownCap_le_maxLen w (n + k) old T h63) ?_ ?_
    · simp only [Array.size_append, List.size_toArray, size_zeroCells, hzs, hl]
      simp
      omega
    · simp only [Array.toList_append, hzs, zeroCells_one]
      rw [← hlen]
      exact List.take_left
  subst hby
  rcases hr.2 with ⟨rfl, rfl, rfl⟩ | ⟨g, cp, cur, rfl, rfl, hnc, hcm, hcs, htake⟩
  · have hx0 : xs = [] := List.eq_nil_of_length_eq_zero (by simpa using hl)
    subst hx0
    by_cases hk0 : k = 0
    · subst hk0
      refine ⟨.slice none 0 0, w, [], ?_, by simpa using RowC.nil T 1, by rw [set_same hj]; exact hS⟩
      simp [Builtin.append_, run_underlying ht, run_underlying htn, sizeOf, typeInfo, hi, asInt, asIntOf, show IntKind.i64.wrap 0 = 0 from by decide]
    · have hrun := Lib.run_append_nil_zeros (P := P) w t tn ty T i z kq kn ht htn hi hz k (by omega) (by omega) (by omega) (by omega)
      have hgr := grown 0 (by omega)
      simp only [Nat.zero_add, List.nil_append, Array.empty_append] at hgr ⊢
      exact ⟨_, _, _, hrun, hgr, hS.renew j hj _ T⟩
  · by_cases hroom : n + k ≤ cp
    · have hg := (hS.own _ (List.mem_of_getElem? hj) (g, .cells cur T (0, 0)) (by simp)).1
      have hfit : n + (List.replicate k z).length ≤ cur.size := by rw [List.length_replicate, hcs]; omega
      have hst := run_storeCells_at P g n T (List.replicate k z) 0 cur w hg (by simpa using hfit) (by intro u hu; rw [(List.mem_replicate.1 hu).2]; exact hz1)
      have hrun : (Builtin.append_ #[t, tn] ty #[.slice (some ⟨g, 0, none⟩) n cp, .int kq k]).run P w =
          .ok (.slice (some ⟨g, 0, none⟩) (n + k) cp) (w.setRow g (cur.toList.take n ++ List.replicate k z ++ cur.toList.drop (n + (List.replicate k z).length)).toArray) := by
        simp only [Nat.add_zero] at hst
        by_cases hk0 : k = 0
        · subst hk0
          simp only [List.replicate_zero] at hst
          simp [Builtin.append_, run_underlying ht, run_underlying htn, sizeOf, typeInfo, hi, asInt, asIntOf, show IntKind.i64.wrap 0 = 0 from by decide, hsize, hnc, Addr.add_lit, hst]
        · simp [Builtin.append_, run_underlying ht, run_underlying htn, sizeOf, typeInfo, zeroValue, hi, hz, asInt, asIntOf, hw, hneg, h48i, hsize, hroom, hk0, hzs, zeroCells_one, Addr.add_lit, hst]
      refine ⟨_, _, _, hrun, RowC.fresh g (xs ++ List.replicate k z) hlen hroom hcm (X := (cur.toList.take n ++ List.replicate k z ++ cur.toList.drop (n + (List.replicate k z).length)).toArray) ?_ ?_, ?_⟩
      · simp only [List.size_toArray, List.length_append, List.length_take, List.length_drop, Array.length_toList, List.length_replicate]
        omega
      · have e : cur.toList.take n = xs := by rw [← htake, Nat.mul_one]
        rw [e, ← hlen]
        exact List.take_left
      · refine hS.change j hj _ rfl rfl rfl (by simp [World.setRow]) ?_ ?_ ?_ (by simp)
        · intro k hk hne
          have : g ≠ k := hne (g, .cells cur T (0, 0)) (by simp)
          exact setRow_other w g k _ (fun e => this e.symm)
        · intro x hx
          simp only [List.mem_singleton] at hx
          subst hx
          exact setRow_heap w g cur _ T _ hg
        · intro x hx
          simp only [List.mem_singleton] at hx
          subst hx
          exact .inl ⟨_, List.mem_singleton.2 rfl, rfl⟩
    · have holds : ∀ j u, xs[j]? = some u → w.cell? ((⟨g, 0, none⟩ : Addr).add j) = some u := (hr.owns hS j hj).cells (g := g) rfl
      have hfc := run_firstCells_some (P := P) (w := w.drew) i.size n ⟨g, 0, none⟩ n cp xs (by rw [hsize]; exact hl) (fun j u hu => by rw [World.cell?_drew]; exact holds j u hu)
      have hrun := Lib.run_append_grow_zeros (P := P) w t tn ty T i z kq kn ht htn hi hz (some ⟨g, 0, none⟩) n cp xs hfc k (by omega) (by omega) (by omega) (by omega) (by omega) (growslice_fits (by omega) hbytes)
      exact ⟨_, _, _, hrun, grown cp (by omega), hS.renew j hj _ T⟩
variable {ops : Array Oper} {rest : List Oper} {o : Oper} {a : Act} {Q : Exit → Act → World → Prop}
/-- 'append(s, make([]T, k)...)' at a row of the call's own. -/
theorem wpList_app0 (j : Nat) (t tn : TypeId) (i : TypeInfo) (z : Value) (kq kn : IntKind) (k : Nat) (s x : Operand) (hgd : o.guard = none) (ho : o.op = .call { callee := .builtin .append, args := #[s, x], argTypes := #[t, tn] })
    (X : Int) (hs : a.eval s = v) (hx : a.eval x = .int kq X) (ht : P.underlying t = some (.slice T)) (htn : P.underlying tn = some (.int kn)) (hi : P.info? T = some i) (hz : i.zero = some z) (hsize : i.size = 1) (hby : i.bytes = by_) (hzs : z.cells = #[z]) (hz1 : z.oneCell' = true)
    (hX : X = (k : Int)) (hS : St B w0 w L) (hj : L[j]? = some c) (hr : RowC T 1 v n xs c) (h63 : n + k ≤ maxLen) (hbytes : (n + k) * by_ ≤ 140737488355328)
    (h : ∀ v' c' w', RowC T 1 v' (n + k) (xs ++ List.replicate k z) c' → St B w0 w' (L.set j c') → wpList P ops Q rest (a.put o.dst v') w') : wpList P ops Q (o :: rest) a w := by
  subst hX
  refine wpList_plain hgd fun K hK => ?_
  obtain ⟨v', w', c', hrun, h2, h3⟩ := run_app0 (P := P) t tn o.type i z kq kn ht htn hi hz hsize hby hzs hz1 hS j hj hr k h63 hbytes
  unfold Oper.wp execOp
  simp only [ho, resolve, invoke, builtin, Sem.run_bind, Sem.run_pure, Result.andThen_ok, List.map_toArray, List.map_cons, List.map_nil, hs, hx, hrun]
  exact hK _ _ (h v' c' w' h2 h3)
end
end Go.Proofs.Ythgbkncanoknkaa
/-
  copy of cells into a row of the call's own; append of zeros onto a row that has no room.
-/
set_option linter.unusedVariables false
set_option linter.unusedSimpArgs false
namespace Go.Proofs.Ythgbkncanoknkaa
open Go.RowKit
set_option maxRecDepth 100000
section
variable {P : Program} {B : Nat} {w0 w w' : World} {L : List HL} {c : HL} {T : TypeId} {v : Value} {n by_ g cap : Nat} {xs : List Value}
theorem RowC.storeAll : ∀ (ys : List Value) (d : Nat) (xs : List Value) (c : HL) (w : World) (L : List HL) (i : Nat), RowC T 1 (.slice (some ⟨g, 0, none⟩) n cap) n xs c → St B w0 w L → L[i]? = some c → d + ys.length ≤ n →
    ∃ c', RowC T 1 (.slice (some ⟨g, 0, none⟩) n cap) n (xs.take d ++ ys ++ xs.drop (d + ys.length)) c' ∧ St B w0 (w.setCells g d ys) (L.set i c')
  | [], d, xs, c, w, L, i, h, hS, hi, hd => ⟨c, by simpa using h, by rw [set_same hi]; exact hS⟩
  | y :: r, d, xs, c, w, L, i, h, hS, hi, hd => by
    obtain ⟨c1, h1, hS1⟩ := h.store hS i hi rfl d y
    have hil : i < L.length := (List.getElem?_eq_some_iff.1 hi).1
    obtain ⟨c2, h2, hS2⟩ := RowC.storeAll r (d + 1) (xs.set d y) c1 (w.setCell ⟨g, d, none⟩ y) (L.set i c1) i h1 hS1 (by simp [hil]) (by simp at hd; omega)
    refine ⟨c2, ?_, ?_⟩
    · have hl := h.len
      have e : (xs.set d y).take (d + 1) ++ r ++ (xs.set d y).drop (d + 1 + r.length) = xs.take d ++ (y :: r) ++ xs.drop (d + (y :: r).length) := by
        simp only [List.length_cons] at hd ⊢
        rw [List.drop_set_of_lt (by omega), List.take_add_one, List.getElem?_set_self (by omega), List.take_set_of_le (Nat.le_refl _), show d + 1 + r.length = d + (r.length + 1) from by omega]
        simp
      rw [← e]
      exact h2
    · rw [List.set_set] at hS2
      exact hS2
/-- More of a row's room, less of it. -/
theorem RowC.wide (h : RowC T 1 (.slice (some ⟨g, 0, none⟩) n cap) n xs c) (m : Nat) (hm : n + m ≤ cap) : ∃ ys, ys.length = m ∧ RowC T 1 (.slice (some ⟨g, 0, none⟩) (n + m) cap) (n + m) (xs ++ ys) c := by
  rcases h.2 with ⟨hv, _, _⟩ | ⟨g', cap', cur, hv, rfl, h1, h2, h3, h4⟩
  · simp at hv
  · simp only [Value.slice.injEq, Option.some.injEq, Addr.mk.injEq, and_true, true_and] at hv
    obtain ⟨rfl, rfl⟩ := hv
    have hl := h.1
    refine ⟨(cur.toList.drop n).take m, ?_, ?_, .inr ⟨g, cap, cur, rfl, rfl, hm, h2, h3, ?_⟩⟩
    · simp [h3]; omega
    · simp [h3, hl]; omega
    · rw [← h4, Nat.mul_one, Nat.mul_one, ← List.take_add]
theorem RowC.short (h : RowC T 1 (.slice (some ⟨g, 0, none⟩) n cap) n xs c) (m : Nat) (hm : m ≤ n) : RowC T 1 (.slice (some ⟨g, 0, none⟩) m cap) m (xs.take m) c := by
  rcases h.2 with ⟨hv, _, _⟩ | ⟨g', cap', cur, hv, rfl, h1, h2, h3, h4⟩
  · simp at hv
  · simp only [Value.slice.injEq, Option.some.injEq, Addr.mk.injEq, and_true, true_and] at hv
    obtain ⟨rfl, rfl⟩ := hv
    have hl := h.1
    refine ⟨by simp; omega, .inr ⟨g, cap, cur, rfl, rfl, by omega, h2, h3, ?_⟩⟩
    rw [← h4, List.take_take]
    congr 1
    omega
theorem run_copyC (t t' ty : TypeId) (ht : P.underlying t = some (.slice T)) (hsz : (P.info? T).map (·.size) = some 1) (hS : St B w0 w L) (j : Nat) (hj : L[j]? = some c) (hr : RowC T 1 (.slice (some ⟨g, 0, none⟩) n cap) n xs c) {dd dl dc sl sc : Nat} {ad : Addr} {ys : List Value}
    (hsrc : Rd w 1 (.slice (some ad) sl sc) sl ys) (k : Nat) (h1 : ∀ u ∈ ys.take k, u.oneCell' = true) (hk : k = min sl dl) (hfit : dd + k ≤ n) :
    ∃ w' c', (Builtin.copy_ #[t, t'] ty #[.slice (some ⟨g, dd, none⟩) dl dc, .slice (some ad) sl sc]).run P w = .ok (goInt k) w' ∧ RowC T 1 (.slice (some ⟨g, 0, none⟩) n cap) n (xs.take dd ++ ys.take k ++ xs.drop (dd + k)) c' ∧ St B w0 w' (L.set j c') := by
  have hyl : ys.length = sl := by have := hsrc.len; omega
  have hlk : (ys.take k).length = k := by rw [List.length_take]; omega
  have hxl := hr.len
  obtain ⟨c', hc1, hc2⟩ := RowC.storeAll (ys.take k) dd xs c w L j hr hS hj (by omega)
  have hrun := run_copy_cells (P := P) w t t' ty T g dd dl dc ad sl sc (ys.take k) ht hsz (by rw [hlk, hk])
    (by
      intro q u hu
      rw [List.getElem?_take] at hu
      split at hu
      · obtain ⟨ad', e, hc⟩ := hsrc.at hu
        cases e
        exact hc
      · cases hu)
    (by
      intro q hq
      obtain ⟨u, hu⟩ : ∃ u, xs[dd + q]? = some u := ⟨_, List.getElem?_eq_getElem (by omega)⟩
      rw [hr.cellAt hS j hj hu]
      rfl)
    (by
      intro q hq
      exact hr.freeAt hS j hj _)
    (by
      intro u hu
      exact h1 u hu)
  rw [hlk] at hrun hc1
  exact ⟨_, c', hrun, hc1, hc2⟩
variable {ops : Array Oper} {rest : List Oper} {o : Oper} {a : Act} {Q : Exit → Act → World → Prop}
theorem wpList_copyC (j : Nat) (t t' : TypeId) (d x : Operand) (hgd : o.guard = none) (ho : o.op = .call { callee := .builtin .copy, args := #[d, x], argTypes := #[t, t'] }) {dd dl dc sl sc : Nat} {ad : Addr} {ys : List Value}
    (hd : a.eval d = .slice (some ⟨g, dd, none⟩) dl dc) (hx : a.eval x = .slice (some ad) sl sc) (ht : P.underlying t = some (.slice T)) (hsz : (P.info? T).map (·.size) = some 1) (hS : St B w0 w L) (hj : L[j]? = some c) (hr : RowC T 1 (.slice (some ⟨g, 0, none⟩) n cap) n xs c)
    (hsrc : Rd w 1 (.slice (some ad) sl sc) sl ys) (k : Nat) (h1 : ∀ u ∈ ys.take k, u.oneCell' = true) (hk : k = min sl dl) (hfit : dd + k ≤ n)
    (h : ∀ c' w', RowC T 1 (.slice (some ⟨g, 0, none⟩) n cap) n (xs.take dd ++ ys.take k ++ xs.drop (dd + k)) c' → St B w0 w' (L.set j c') → wpList P ops Q rest (a.put o.dst (goInt k)) w') : wpList P ops Q (o :: rest) a w := by
  refine wpList_plain hgd fun K hK => ?_
  obtain ⟨w', c', hrun, h2, h3⟩ := run_copyC (P := P) t t' o.type ht hsz hS j hj hr (dc := dc) hsrc k h1 hk hfit
  unfold Oper.wp execOp
  simp only [ho, resolve, invoke, builtin, Sem.run_bind, Sem.run_pure, Result.andThen_ok, List.map_toArray, List.map_cons, List.map_nil, hd, hx, hrun]
  exact hK _ _ (h c' w' h2 h3)
/-- The same, as a step of a region that draws. -/
theorem step_copyC {E : Prop} {K : Act → World → Prop} (j : Nat) (t t' : TypeId) (d x : Operand) (hgd : o.guard = none) (ho : o.op = .call { callee := .builtin .copy, args := #[d, x], argTypes := #[t, t'] }) {dd dl dc sl sc : Nat} {ad : Addr} {ys : List Value}
    (hd : a.eval d = .slice (some ⟨g, dd, none⟩) dl dc) (hx : a.eval x = .slice (some ad) sl sc) (ht : P.underlying t = some (.slice T)) (hsz : (P.info? T).map (·.size) = some 1) (hS : St B w0 w L) (hj : L[j]? = some c) (hr : RowC T 1 (.slice (some ⟨g, 0, none⟩) n cap) n xs c)
    (hsrc : Rd w 1 (.slice (some ad) sl sc) sl ys) (k : Nat) (h1 : ∀ u ∈ ys.take k, u.oneCell' = true) (hk : k = min sl dl) (hfit : dd + k ≤ n)
    (h : ∀ c' w', RowC T 1 (.slice (some ⟨g, 0, none⟩) n cap) n (xs.take dd ++ ys.take k ++ xs.drop (dd + k)) c' → St B w0 w' (L.set j c') → K (a.put o.dst (goInt k)) w') : if Region.wanted o (yielded ops a.tmps) = true then Oper.wp P o a w K Q else E := by
  rw [if_pos (by simp [Region.wanted, hgd])]
  obtain ⟨w', c', hrun, h2, h3⟩ := run_copyC (P := P) t t' o.type ht hsz hS j hj hr (dc := dc) hsrc k h1 hk hfit
  unfold Oper.wp execOp
  simp only [ho, resolve, invoke, builtin, Sem.run_bind, Sem.run_pure, Result.andThen_ok, List.map_toArray, List.map_cons, List.map_nil, hd, hx, hrun]
  exact h c' w' h2 h3
/-- 'append(s, make([]T, k)...)' where s has no room: a new row. -/
theorem run_app0G (t tn ty : TypeId) (i : TypeInfo) (z : Value) (kq kn : IntKind) (ht : P.underlying t = some (.slice T)) (htn : P.underlying tn = some (.int kn)) (hi : P.info? T = some i) (hz : i.zero = some z) (hsize : i.size = 1) (hby : i.bytes = by_) (hzs : z.cells = #[z])
    (hS : St B w0 w L) {ad : Addr} {cp : Nat} (hr : Rd w 1 (.slice (some ad) n cp) n xs) (k : Nat) (hk : 0 < k) (hcp : cp < n + k) (h63 : n + k ≤ maxLen) (hbytes : (n + k) * by_ ≤ 140737488355328) :
    ∃ v' w' c', (Builtin.append_ #[t, tn] ty #[.slice (some ad) n cp, .int kq k]).run P w = .ok v' w' ∧ (∃ g' cap', v' = .slice (some ⟨g', 0, none⟩) (n + k) cap') ∧ RowC T 1 v' (n + k) (xs ++ List.replicate k z) c' ∧ St B w0 w' (c' :: L) := by
  have hsmall : n + k ≤ 9223372036854775807 := by simp only [maxLen] at h63; omega
  have hl := hr.len
  have hlen : (xs ++ List.replicate k z).length = (n + k) * 1 := by rw [List.length_append, hl, List.length_replicate]; omega
  subst hby
  have hkb : k * i.bytes ≤ 140737488355328 := Nat.le_trans (Nat.mul_le_mul_right _ (Nat.le_add_left k n)) hbytes
  have holds : ∀ j u, xs[j]? = some u → w.cell? (ad.add j) = some u := by
    intro j u hu
    obtain ⟨ad', e, hc⟩ := hr.at hu
    cases e
    exact hc
  have hfc := run_firstCells_some (P := P) (w := w.drew) i.size n ad n cp xs (by rw [hsize]; exact hl) (fun j u hu => by rw [World.cell?_drew]; exact holds j u hu)
  have hrun := Lib.run_append_grow_zeros (P := P) w t tn ty T i z kq kn ht htn hi hz (some ad) n cp xs hfc k hk (by omega) (by omega) (by omega) (by omega) (growslice_fits (by omega) hbytes)
  have hge := grownCap_ge w (n + k) cp T
  refine ⟨_, _, _, hrun, ⟨_, _, rfl⟩, RowC.fresh _ _ hlen hge (grownCap_le_maxLen w (n + k) cp T h63) ?_ ?_, hS.drew.alloc _⟩
  · simp only [Array.size_append, List.size_toArray, size_zeroCells, hzs, hl]
    simp
    omega
  · simp only [Array.toList_append, hzs, zeroCells_one]
    rw [← hlen]
    exact List.take_left
theorem wpList_app0G (t tn : TypeId) (i : TypeInfo) (z : Value) (kq kn : IntKind) (k : Nat) (s x : Operand) (hgd : o.guard = none) (ho : o.op = .call { callee := .builtin .append, args := #[s, x], argTypes := #[t, tn] })
    (X : Int) {ad : Addr} {cp : Nat} (hs : a.eval s = .slice (some ad) n cp) (hx : a.eval x = .int kq X) (ht : P.underlying t = some (.slice T)) (htn : P.underlying tn = some (.int kn)) (hi : P.info? T = some i) (hz : i.zero = some z) (hsize : i.size = 1) (hby : i.bytes = by_) (hzs : z.cells = #[z])
    (hX : X = (k : Int)) (hS : St B w0 w L) (hr : Rd w 1 (.slice (some ad) n cp) n xs) (hk : 0 < k) (hcp : cp < n + k) (h63 : n + k ≤ maxLen) (hbytes : (n + k) * by_ ≤ 140737488355328) (N : Nat) (hN : n + k = N)
    (h : ∀ g' cap' c' w', RowC T 1 (.slice (some ⟨g', 0, none⟩) N cap') N (xs ++ List.replicate k z) c' → St B w0 w' (c' :: L) → wpList P ops Q rest (a.put o.dst (.slice (some ⟨g', 0, none⟩) N cap')) w') : wpList P ops Q (o :: rest) a w := by
  subst hX hN
  refine wpList_plain hgd fun K hK => ?_
  obtain ⟨v', w', c', hrun, ⟨g', cap', rfl⟩, h2, h3⟩ := run_app0G (P := P) t tn o.type i z kq kn ht htn hi hz hsize hby hzs hS hr k hk hcp h63 hbytes
  unfold Oper.wp execOp
  simp only [ho, resolve, invoke, builtin, Sem.run_bind, Sem.run_pure, Result.andThen_ok, List.map_toArray, List.map_cons, List.map_nil, hs, hx, hrun]
  exact hK _ _ (h g' cap' c' w' h2 h3)
end
end Go.Proofs.Ythgbkncanoknkaa
/-
  append of a row of zeros, the greater of two, numbers as cells (XIv), with bytes.
-/
set_option linter.unusedVariables false
set_option linter.unusedSimpArgs false
namespace Go.Proofs.Ythgbkncanoknkaa
open Go.RowKit
theorem bv_zeros (k : Nat) : bv (List.replicate k 0) = List.replicate k (.int .u8 0) := by simp [bv]
end Go.Proofs.Ythgbkncanoknkaa
/-
  Arguments that are slices: opened into the words of Base.
-/
set_option linter.unusedVariables false
set_option linter.unusedSimpArgs false
set_option maxRecDepth 100000
namespace Go.Proofs.Ythgbkncanoknkaa
open Go.ChangeShapes Go.WideShapes Go.ChangeAt Go.RowKit

theorem open_nums {H : Type} {enc : TypeId × Value → H} {W : World} {spare : Nat → Bool} {held : Bool} {t e : TypeId} {k : IntKind} {v : Value} {d : DataW H} {ps : List MemPlace} {ts : List TypeId} {ds : List (DataW H)} {j : Nat} {base : Nat}
    (hsz : (DataW.weightsEach Try.prog ts ds).all (· ≤ reachBytes) = true) (ht : ts[j]? = some t) (hd : ds[j]? = some d) (hu : Try.prog.underlying t = some (.slice e)) (he : Try.prog.underlying e = some (.int k)) (hc : Try.prog.cellsOf e = 1) {B : Nat} (hB : Try.prog.bytesOf e = B)
    (hv : Value.okWide Try.prog W .any base t v) (h : DataW.Trod enc Try.prog W 0 spare held t v d ps) :
    ∃ (n : Nat) (zs : List Int), Rd W 1 v n (zs.map (Value.int k)) ∧ (∀ z ∈ zs, (Lit.int k z).wf = true) ∧ n * B ≤ 140737488351232 := by
  obtain ⟨a, len, cap, rfl⟩ := okWide_slice hu hv
  obtain ⟨fuel, hf⟩ := h
  rcases open_ints hu he hc hf with ⟨hcs, hx⟩ | ⟨x, l, c, zs, hcs, _, hl, hm, hz, hx, hcell, hwz⟩
  · simp [Value.cells] at hcs
    obtain ⟨rfl, rfl, rfl⟩ := hcs
    exact ⟨0, [], Rd.nil W 1, by simp, by simp⟩
  · simp [Value.cells] at hcs
    obtain ⟨rfl, rfl, rfl⟩ := hcs
    obtain ⟨hx, _⟩ := Prod.mk.inj hx
    subst hx
    have hl2 : len ≤ zs.length := by
      rw [hz]
      split
      · exact hl
      · exact Nat.le_refl _
    have z := sized_slice hsz ht hd hu
    rw [hB] at z
    have h1 : (lits (H := H) k (zs.take len)).length + (lits (H := H) k (zs.drop len)).length = zs.length := by
      simp [lits]
      omega
    rw [h1] at z
    refine ⟨len, zs.take len, ⟨_, cap, rfl, ⟨hl, hm⟩, by simp; omega, by simp, fun ad e i u hu => ?_⟩, fun y hy => hwz y (List.mem_of_mem_take hy), Nat.le_trans (Nat.mul_le_mul_right _ hl2) z⟩
    simp only [Option.some.injEq] at e
    subst e
    rw [List.map_take, List.getElem?_take] at hu
    split at hu
    · rename_i hi
      rw [List.getElem?_map] at hu
      have hi2 : i < zs.length := by omega
      rw [List.getElem?_eq_getElem hi2] at hu
      simp only [Option.map_some, Option.some.injEq] at hu
      have := hcell i hi2
      rw [this, ← hu]
      simp [List.getElem?_eq_getElem hi2]
    · simp at hu
theorem rows_flat_get (rows : List (List Value)) (sz : Nat) (h : ∀ r ∈ rows, r.length = sz) : ∀ (j : Nat), rows.flatten[j]? = if sz = 0 then none else (rows[j / sz]?).bind (·[j % sz]?) := by
  induction rows with
  | nil => intro j; simp
  | cons r rows ih =>
    intro j
    have hr := h r (by simp)
    rw [List.flatten_cons, List.getElem?_append, hr]
    by_cases hs : sz = 0
    · subst hs
      rw [if_pos rfl, if_neg (by omega), ih (fun x hx => h x (by simp [hx])), if_pos rfl]
    · rw [if_neg hs]
      by_cases hj : j < sz
      · rw [if_pos hj, Nat.div_eq_of_lt hj, Nat.mod_eq_of_lt hj]
        simp
      · rw [if_neg hj, ih (fun x hx => h x (by simp [hx])), if_neg hs]
        have e1 : j / sz = (j - sz) / sz + 1 := by rw [Nat.div_eq_sub_div (by omega) (by omega)]
        have e2 : j % sz = (j - sz) % sz := Nat.mod_eq_sub_mod (by omega)
        rw [e1, e2]
        simp
theorem rows_flat_len (rows : List (List Value)) (sz : Nat) (h : ∀ r ∈ rows, r.length = sz) : rows.flatten.length = rows.length * sz := by
  induction rows with
  | nil => simp
  | cons r rows ih => rw [List.flatten_cons, List.length_append, h r (by simp), ih (fun x hx => h x (by simp [hx])), List.length_cons, Nat.add_mul]; omega
theorem exists_rows {α : Type} (n : Nat) (p : Nat → α → Prop) (h : ∀ i, i < n → ∃ x, p i x) : ∃ l : List α, l.length = n ∧ ∀ i x, l[i]? = some x → p i x := by
  induction n with
  | zero => exact ⟨[], rfl, by simp⟩
  | succ n ih =>
    obtain ⟨l, h1, h2⟩ := ih fun i hi => h i (by omega)
    obtain ⟨x, hx⟩ := h n (by omega)
    refine ⟨l ++ [x], by simp [h1], fun i y hy => ?_⟩
    rw [List.getElem?_append] at hy
    split at hy
    · exact h2 i y hy
    · have : i - l.length = 0 := by
        rcases Nat.eq_zero_or_pos (i - l.length) with h | h
        · exact h
        · rw [List.getElem?_eq_none (by simp; omega)] at hy; cases hy
      rw [this] at hy
      simp at hy
      subst hy
      have : i = n := by omega
      subst this
      exact hx
theorem open_structs {H : Type} {enc : TypeId × Value → H} {W : World} {spare : Nat → Bool} {held : Bool} {t e : TypeId} {v : Value} {d : DataW H} {ps : List MemPlace} {ts : List TypeId} {ds : List (DataW H)} {j : Nat} {base : Nat} {sz B : Nat} (E : List Value → Prop)
    (hsz : (DataW.weightsEach Try.prog ts ds).all (· ≤ reachBytes) = true) (ht : ts[j]? = some t) (hd : ds[j]? = some d) (hu : Try.prog.underlying t = some (.slice e)) (hc : Try.prog.cellsOf e = sz) (hpos : 0 < sz) (hB : Try.prog.bytesOf e = B)
    (hE : ∀ n cs x, DataW.trod enc Try.prog W 0 spare held n e cs = some x → E cs)
    (hv : Value.okWide Try.prog W .any base t v) (h : DataW.Trod enc Try.prog W 0 spare held t v d ps) :
    ∃ (n : Nat) (rows : List (List Value)), rows.length = n ∧ (∀ r ∈ rows, E r ∧ r.length = sz) ∧ Rd W sz v n rows.flatten ∧ n * B ≤ 140737488351232 := by
  obtain ⟨a, len, cap, rfl⟩ := okWide_slice hu hv
  obtain ⟨fuel, hf⟩ := h
  rcases DataW.trod_slice hu hf with ⟨hcs, hx⟩ | ⟨x, l, c, elems, rest, n, _, hcs, hx, _, hl, hm, hlen, hel, _, _⟩
  · simp [Value.cells] at hcs
    obtain ⟨rfl, rfl, rfl⟩ := hcs
    exact ⟨0, [], rfl, by simp, Rd.nil W sz, by simp⟩
  · simp [Value.cells] at hcs
    obtain ⟨rfl, rfl, rfl⟩ := hcs
    obtain ⟨hx, _⟩ := Prod.mk.inj hx
    subst hx
    have z := sized_slice hsz ht hd hu
    rw [hB, List.length_map, List.length_map, hlen] at z
    obtain ⟨rows, h1, h2⟩ := exists_rows len (fun i (r : List Value) => E r ∧ r.length = sz ∧ ∀ k, k < sz → W.cell? ((x.add (i * sz)).add k) = r[k]?) (by
      intro i hi
      have h1 := hel i hi
      obtain ⟨y, hy⟩ : ∃ y, elems[i]? = some y := ⟨_, List.getElem?_eq_getElem (by omega)⟩
      rw [hy, hc] at h1
      obtain ⟨cs, h2, h3⟩ := Option.bind_eq_some_iff.1 h1
      obtain ⟨_, h4, h5⟩ := World.cells?_some h2
      exact ⟨cs, hE _ _ _ h3, h4, h5⟩)
    have hr : ∀ r ∈ rows, r.length = sz := by
      intro r hr
      obtain ⟨i, hi⟩ := List.mem_iff_getElem?.1 hr
      exact (h2 i r hi).2.1
    refine ⟨len, rows, h1, ?_, ⟨_, cap, rfl, ⟨hl, hm⟩, by rw [rows_flat_len rows sz hr, h1], by simp, fun ad e i u hu => ?_⟩, Nat.le_trans (Nat.mul_le_mul_right _ (Nat.le_add_right _ _)) z⟩
    · intro r hr'
      obtain ⟨i, hi⟩ := List.mem_iff_getElem?.1 hr'
      exact ⟨(h2 i r hi).1, (h2 i r hi).2.1⟩
    · simp only [Option.some.injEq] at e
      subst e
      rw [rows_flat_get rows sz hr, if_neg (by omega)] at hu
      obtain ⟨r, hr1, hr2⟩ := Option.bind_eq_some_iff.1 hu
      have h3 := (h2 _ r hr1).2.2 (i % sz) (Nat.mod_lt _ hpos)
      rw [Addr.add_add', Nat.div_add_mod'] at h3
      rw [h3]
      exact hr2
theorem rows_of {α : Type} (f : α → List Value) (p : α → Prop) (rows : List (List Value)) (h : ∀ r ∈ rows, ∃ o, r = f o ∧ p o) : ∃ os : List α, rows = os.map f ∧ ∀ o ∈ os, p o := by
  induction rows with
  | nil => exact ⟨[], rfl, by simp⟩
  | cons r rows ih =>
    obtain ⟨os, h1, h2⟩ := ih fun x hx => h x (by simp [hx])
    obtain ⟨o, h3, h4⟩ := h r (by simp)
    refine ⟨o :: os, by rw [h1, h3]; rfl, fun x hx => ?_⟩
    rcases List.mem_cons.1 hx with rfl | hx
    · exact h4
    · exact h2 x hx
end Go.Proofs.Ythgbkncanoknkaa
/-
  make of rows whose elements have several cells.
-/
set_option linter.unusedVariables false
set_option linter.unusedSimpArgs false
namespace Go.Proofs.Ythgbkncanoknkaa
open Go.RowKit
section
variable {B : Nat} {w0 w : World} {L F : List HL} {a b c d : HL}
theorem St.reindex (h : St B w0 w L) (f : Nat → Nat) (hf : ∀ i j, f i = f j → i = j) (L' : List HL) (hL : ∀ (i : Nat) c, L'[i]? = some c → L[f i]? = some c) : St B w0 w L' := by
  refine ⟨h.below, h.base, ?_, ?_, ?_⟩
  · intro c hc x hx
    obtain ⟨i, hi⟩ := List.mem_iff_getElem?.1 hc
    exact h.own c (List.mem_of_getElem? (hL i c hi)) x hx
  · intro i j ci cj hi hj x hx y hy e
    exact hf i j (h.dis (f i) (f j) ci cj (hL i ci hi) (hL j cj hj) x hx y hy e)
  · intro c hc
    obtain ⟨i, hi⟩ := List.mem_iff_getElem?.1 hc
    exact h.nd c (List.mem_of_getElem? (hL i c hi))
theorem St.tl (h : St B w0 w (a :: F)) : St B w0 w F := h.reindex (· + 1) (fun i j e => by omega) F fun i c hi => by simpa using hi
theorem St.swap (h : St B w0 w (a :: b :: F)) : St B w0 w (b :: a :: F) := by
  refine h.reindex (fun i => match i with | 0 => 1 | 1 => 0 | i + 2 => i + 2) ?_ _ ?_
  · intro i j e
    rcases i with _ | _ | i <;> rcases j with _ | _ | j <;> simp at e ⊢ <;> omega
  · intro i c hi
    match i, hi with
    | 0, hi => exact hi
    | 1, hi => exact hi
    | i + 2, hi => exact hi
/-- As reindex; what is empty may stand anywhere. -/
theorem St.reindexN (h : St B w0 w L) (f : Nat → Nat) (L' : List HL) (hf : ∀ i j, (∃ c, L'[i]? = some c ∧ c ≠ []) → (∃ c, L'[j]? = some c ∧ c ≠ []) → f i = f j → i = j) (hL : ∀ (i : Nat) c, L'[i]? = some c → c = [] ∨ L[f i]? = some c) : St B w0 w L' := by
  refine ⟨h.below, h.base, ?_, ?_, ?_⟩
  · intro c hc x hx
    obtain ⟨i, hi⟩ := List.mem_iff_getElem?.1 hc
    rcases hL i c hi with rfl | h1
    · simp at hx
    · exact h.own c (List.mem_of_getElem? h1) x hx
  · intro i j ci cj hi hj x hx y hy e
    have n1 : ci ≠ [] := by rintro rfl; simp at hx
    have n2 : cj ≠ [] := by rintro rfl; simp at hy
    have h1 := (hL i ci hi).resolve_left n1
    have h2 := (hL j cj hj).resolve_left n2
    exact hf i j ⟨ci, hi, n1⟩ ⟨cj, hj, n2⟩ (h.dis (f i) (f j) ci cj h1 h2 x hx y hy e)
  · intro c hc
    obtain ⟨i, hi⟩ := List.mem_iff_getElem?.1 hc
    rcases hL i c hi with rfl | h1
    · simp
    · exact h.nd c (List.mem_of_getElem? h1)
/-- So many empty ones behind the second. -/
theorem St.nils (h : St B w0 w (a :: b :: F)) (n : Nat) : St B w0 w (a :: b :: (List.replicate n [] ++ F)) := by
  refine h.reindexN (fun i => if i < 2 then i else i - n) _ ?_ ?_
  · intro i j ⟨ci, hi, n1⟩ ⟨cj, hj, n2⟩ e
    have key : ∀ (i : Nat) (c : HL), (a :: b :: (List.replicate n [] ++ F))[i]? = some c → c ≠ [] → i < 2 ∨ 2 + n ≤ i := by
      intro i c hi hn
      rcases Nat.lt_or_ge i 2 with h1 | h1
      · exact .inl h1
      · rcases Nat.lt_or_ge i (2 + n) with h2 | h2
        · exfalso
          obtain ⟨k, rfl⟩ : ∃ k, i = k + 2 := ⟨i - 2, by omega⟩
          simp only [List.getElem?_cons_succ] at hi
          rw [List.getElem?_append_left (by simp; omega), List.getElem?_replicate, if_pos (by omega)] at hi
          simp at hi
          exact hn hi
        · exact .inr h2
    have k1 := key i ci hi n1
    have k2 := key j cj hj n2
    revert e
    show (if i < 2 then i else i - n) = (if j < 2 then j else j - n) → i = j
    split <;> split <;> omega
  · intro i c hi
    rcases Nat.lt_or_ge i 2 with h1 | h1
    · right
      rw [if_pos h1]
      have : i = 0 ∨ i = 1 := by omega
      rcases this with rfl | rfl <;> exact hi
    · rw [if_neg (by omega)]
      obtain ⟨k, rfl⟩ : ∃ k, i = k + 2 := ⟨i - 2, by omega⟩
      simp only [List.getElem?_cons_succ] at hi
      rcases Nat.lt_or_ge k n with h2 | h2
      · left
        rw [List.getElem?_append_left (by simp; omega), List.getElem?_replicate, if_pos (by omega)] at hi
        simpa using hi
      · right
        rw [List.getElem?_append_right (by simp; omega), List.length_replicate] at hi
        rw [show k + 2 - n = (k - n) + 2 from by omega]
        simpa using hi
/-- The third one to the front. -/
theorem St.rot3 (h : St B w0 w (a :: b :: c :: F)) : St B w0 w (c :: a :: b :: F) := by
  refine h.reindex (fun i => match i with | 0 => 2 | 1 => 0 | 2 => 1 | i + 3 => i + 3) ?_ _ ?_
  · intro i j e
    rcases i with _ | _ | _ | i <;> rcases j with _ | _ | _ | j <;> simp at e ⊢ <;> omega
  · intro i x hi
    match i, hi with
    | 0, hi => exact hi
    | 1, hi => exact hi
    | 2, hi => exact hi
    | i + 3, hi => exact hi
end
/-- A row that has just been laid out. -/
theorem Rd.lits (w : World) (X : Array Value) (T : TypeId) (n : Nat) (hn : X.size = n) (hm : n ≤ maxLen) : Rd (w.alloc (.cells X T)) 1 (.slice (some ⟨w.heap.size, 0, none⟩) n n) n X.toList := by
  refine ⟨_, n, rfl, ⟨Nat.le_refl _, hm⟩, by simp [hn], fun e => by simp at e, fun ad e j u hu => ?_⟩
  simp only [Option.some.injEq] at e
  subst e
  rw [add_lit0]
  have h1 : (w.alloc (.cells X T)).heap[w.heap.size]? = some (.cells X T (0, 0)) := heap_alloc_new w _
  simp only [World.cell?, h1]
  simpa using hu
theorem toList_madeCells (zs : List Value) (n : Nat) (hp : 0 < zs.length) : (madeCells zs.toArray (n * zs.length)).toList = (List.replicate n zs).flatten := by
  apply List.ext_getElem?
  intro j
  rw [rows_flat_get (List.replicate n zs) zs.length (fun r hr => by rw [(List.mem_replicate.1 hr).2]), if_neg (by omega), List.getElem?_replicate]
  by_cases hj : j < n * zs.length
  · have h1 : j / zs.length < n := (Nat.div_lt_iff_lt_mul hp).2 hj
    rw [if_pos h1]
    have h2 : j % zs.length < zs.length := Nat.mod_lt _ hp
    simp [madeCells, hj, List.getElem?_eq_getElem h2, h2]
  · have h1 : ¬ j / zs.length < n := fun e => hj ((Nat.div_lt_iff_lt_mul hp).1 e)
    rw [if_neg h1]
    simp [madeCells]
    omega
section
variable {P : Program} {ops : Array Oper} {rest : List Oper} {o : Oper} {a : Act} {Q : Exit → Act → World → Prop} {B : Nat} {w0 w : World} {L : List HL} {T : TypeId} {n sz by_ : Nat}
/-- 'make([]T, n)', T of sz cells. -/
theorem wpList_mkN (t : TypeId) (i : TypeInfo) (z : Value) (zs : List Value) (l cc : Operand) (hg : o.guard = none) (hop : o.op = Op.makeSlice t l cc) (kl kc : IntKind) (X C : Int) (hl : a.eval l = .int kl X) (hc : a.eval cc = .int kc C)
    (h1 : P.underlying t = some (.slice T)) (h2 : P.info? T = some i) (h3 : i.zero = some z) (h4 : i.size = sz) (h5 : i.bytes = by_) (hzs : z.cells = zs.toArray) (hsz : zs.length = sz) (hp : 0 < sz) (hX : X = (n : Int)) (hC : C = (n : Int)) (b2 : by_ * n ≤ 281474976710656) (b3 : n ≤ maxLen)
    (hS : St B w0 w L) (hK : ∀ g c' w', RowC T sz (.slice (some ⟨g, 0, none⟩) n n) n (List.replicate n zs).flatten c' → St B w0 w' (c' :: L) → wpList P ops Q rest (a.put o.dst (.slice (some ⟨g, 0, none⟩) n n)) w') : wpList P ops Q (o :: rest) a w := by
  refine wpList_make_full w hg l cc t hop w.heap.size T i z sz h1 h2 h3 h4 kl kc X C n hl hc hX hC (by rw [h5]; exact b2) b3 (Nat.le_refl _) ?_
  intro w' hown hgr
  obtain ⟨c', r1, r2, r3⟩ := RowC.of_owns hown
  have e : (madeCells z.cells (n * sz)).toList = (List.replicate n zs).flatten := by rw [hzs, ← hsz]; exact toList_madeCells zs n (by omega)
  rw [e] at r1
  refine hK _ c' w' r1 ?_
  refine hS.join (L' := [c']) ⟨⟨hgr.os, hgr.tape, hgr.output, hgr.size, fun k hk => hgr.block k hk (by simp)⟩, hgr.size, ?_, ?_, by simpa using r1.nd⟩
  · intro cc hcc x hx
    simp only [List.mem_singleton] at hcc
    subst hcc
    exact ⟨r2 x hx, (r3 x hx).2⟩
  · intro i j ci cj hi hj _ _ _ _ _
    have h1 := (List.getElem?_eq_some_iff.1 hi).1
    have h2 := (List.getElem?_eq_some_iff.1 hj).1
    simp at h1 h2
    omega
end
section
variable {P : Program} {ops : Array Oper} {rest : List Oper} {o : Oper} {a : Act} {Q : Exit → Act → World → Prop} {B : Nat} {w0 w : World} {L : List HL} {c : HL} {T : TypeId} {v : Value} {n by_ g0 : Nat} {xs : List Value}
/-- 'append(s, u)', the new element's block told by another name. -/
theorem wpList_app1g (j : Nat) (t : TypeId) (i : TypeInfo) (z u : Value) (s x : Operand) (hgd : o.guard = none) (ho : o.op = .call { callee := .builtin .append, args := #[s, x], argTypes := #[t, t] })
    (hs : a.eval s = v) (hx : a.eval x = .slice (some ⟨g0, 0, none⟩) 1 1)
    (ht : P.underlying t = some (.slice T)) (hi : P.info? T = some i) (hz : i.zero = some z) (hsize : i.size = 1) (hby : i.bytes = by_) (hzs : z.cells.size = 1)
    (hS : St B w0 w L) (hj : L[j]? = some c) (hr : RowC T 1 v n xs c) (h1 : u.oneCell' = true) (hg : w.heap.size = g0) (h63 : n + 1 ≤ maxLen) (hbytes : (n + 1) * by_ ≤ 140737488355328)
    (h : ∀ v' c' w', RowC T 1 v' (n + 1) (xs ++ [u]) c' → St B w0 w' (L.set j c') → wpList P ops Q rest (a.put o.dst v') w') : wpList P ops Q (o :: rest) a (w.alloc (.cells #[u] T)) := by
  subst hg
  exact wpList_app1 j t i z u s x hgd ho hs hx ht hi hz hsize hby hzs hS hj hr h1 h63 hbytes h
end
section
variable {P : Program} {ops : Array Oper} {w : World}
/-- A guard: the temporary that it looks at is told; then what it says. -/
theorem wpStill_guard {Q : Act → Prop} {a : Act} {o oj : Oper} {rest : List Oper} {j t d : Nat} {b b' : Bool} (hg : o.guard = some (j, b)) (ho : ops[j]? = some oj) (hd : oj.dst = some t) (ht : a.tmps[t]? = some (.bool b')) (hp : plainOp o.op = true) (hdst : o.dst = some d)
    (h : cond (b' == b) (∀ K : Act → World → Prop, (∀ a', wpStill P ops w Q rest a' → K a' w) → o.wp P a w K (fun _ _ _ => False)) (wpStill P ops w Q rest (a.put (some d) undef))) : wpStill P ops w Q (o :: rest) a := by
  cases hbb : (b' == b) with
  | true =>
    rw [hbb] at h
    exact wpStill_want (by simp [Region.wanted, hg, yielded, ho, hd, ht, hbb]) hp h
  | false =>
    rw [hbb] at h
    refine wpStill_skip ?_ ?_
    · simp only [Region.wanted, hg, yielded, ho, hd, ht, Option.bind_some]
      cases b <;> cases b' <;> simp at hbb ⊢
    · rw [hdst]; exact h
theorem cond_yes {c : Bool} {A B : Prop} (h : c = true) (ha : A) : cond c A B := by subst h; exact ha
theorem cond_no {c : Bool} {A B : Prop} (h : c = false) (hb : B) : cond c A B := by subst h; exact hb
end
/-- Elements of sz cells, one behind the other, by number. -/
def rowsOf (f : Nat → List Value) (n : Nat) : List Value := ((List.range n).map f).flatten
theorem rowsOf_get (f : Nat → List Value) (n sz : Nat) (hp : 0 < sz) (h : ∀ i, (f i).length = sz) (i j : Nat) (hi : i < n) (hj : j < sz) : (rowsOf f n)[i * sz + j]? = (f i)[j]? := by
  unfold rowsOf
  rw [rows_flat_get _ sz (by intro r hr; obtain ⟨k, _, rfl⟩ := List.mem_map.1 hr; exact h k), if_neg (by omega)]
  rw [show (i * sz + j) / sz = i from by rw [Nat.mul_comm, Nat.mul_add_div hp, Nat.div_eq_of_lt hj, Nat.add_zero], show (i * sz + j) % sz = j from by rw [Nat.mul_comm, Nat.mul_add_mod, Nat.mod_eq_of_lt hj]]
  simp [hi]
theorem rowsOf_length (f : Nat → List Value) (n sz : Nat) (h : ∀ i, (f i).length = sz) : (rowsOf f n).length = n * sz := by
  unfold rowsOf
  rw [rows_flat_len _ sz (by intro r hr; obtain ⟨k, _, rfl⟩ := List.mem_map.1 hr; exact h k)]
  simp
theorem rowsOf_congr (f g : Nat → List Value) (n : Nat) (h : ∀ i, i < n → f i = g i) : rowsOf f n = rowsOf g n := by
  unfold rowsOf
  congr 1
  apply List.map_congr_left
  intro i hi
  exact h i (by simpa using hi)
/-- One element of two cells is laid. -/
theorem rowsOf_set2 (f : Nat → List Value) (n i : Nat) (a b : Value) (h : ∀ i, (f i).length = 2) (hi : i < n) : ((rowsOf f n).set (i * 2) a).set (i * 2 + 1) b = rowsOf (fun k => if k = i then [a, b] else f k) n := by
  have h' : ∀ k, (if k = i then [a, b] else f k).length = 2 := by intro k; split <;> simp [h]
  apply List.ext_getElem?
  intro j
  have hl := rowsOf_length f n 2 h
  by_cases hj : j < n * 2
  · obtain ⟨k, r, hr, rfl⟩ : ∃ k r, r < 2 ∧ j = k * 2 + r := ⟨j / 2, j % 2, Nat.mod_lt _ (by omega), by omega⟩
    have hk : k < n := by omega
    rw [rowsOf_get _ n 2 (by omega) h' k r hk hr]
    by_cases hki : k = i
    · subst hki
      rw [if_pos rfl]
      have : r = 0 ∨ r = 1 := by omega
      rcases this with rfl | rfl
      · rw [List.getElem?_set_ne (by omega), Nat.add_zero, List.getElem?_set_self (by omega)]; rfl
      · rw [List.getElem?_set_self (by rw [List.length_set]; omega)]; rfl
    · rw [if_neg hki, List.getElem?_set_ne (by omega), List.getElem?_set_ne (by omega)]
      exact rowsOf_get f n 2 (by omega) h k r hk hr
  · rw [List.getElem?_eq_none (by simp; omega), List.getElem?_eq_none (by rw [rowsOf_length _ n 2 h']; omega)]
theorem rowsOf_replicate (zs : List Value) (n : Nat) : (List.replicate n zs).flatten = rowsOf (fun _ => zs) n := by
  unfold rowsOf
  congr 1
  apply List.ext_getElem?
  intro j
  by_cases h : j < n <;> simp [List.getElem?_replicate, h]
end Go.Proofs.Ythgbkncanoknkaa
/-
  Moving to the front, in plain Lean.
-/
set_option linter.unusedVariables false
set_option linter.unusedSimpArgs false
namespace Go.Proofs.Ythgbkncanoknkaa
/-- The byte at a place moved to the front. -/
def frontL (l : List UInt8) (k : Nat) : List UInt8 := l.getD k 0 :: (l.take k ++ l.drop (k + 1))
def Full (l : List UInt8) : Prop := l.length = 256 ∧ ∀ x : UInt8, x ∈ l
theorem frontL_length {l : List UInt8} {k : Nat} (h : k < l.length) : (frontL l k).length = l.length := by simp [frontL]; omega
theorem frontL_perm {l : List UInt8} {k : Nat} (h : k < l.length) : (frontL l k).Perm l := by
  unfold frontL
  have e : l.getD k 0 = l[k] := by rw [List.getD_eq_getElem?_getD, List.getElem?_eq_getElem h]; rfl
  rw [e]
  refine List.Perm.trans List.perm_middle.symm ?_
  rw [← List.drop_eq_getElem_cons h, List.take_append_drop]
theorem Full.front {l : List UInt8} (h : Full l) {k : Nat} (hk : k < 256) : Full (frontL l k) :=
  ⟨by rw [frontL_length (by rw [h.1]; exact hk)]; exact h.1, fun x => (frontL_perm (by rw [h.1]; exact hk)).mem_iff.2 (h.2 x)⟩
theorem Full.idx {l : List UInt8} (h : Full l) (c : UInt8) : l.idxOf c < 256 ∧ l[l.idxOf c]? = some c ∧ ∀ j, j < l.idxOf c → ∃ y, l[j]? = some y ∧ y ≠ c := by
  have h1 : l.idxOf c < l.length := List.idxOf_lt_length_iff.2 (h.2 c)
  refine ⟨by rw [← h.1]; exact h1, ?_, ?_⟩
  · rw [List.getElem?_eq_getElem h1, List.getElem_idxOf h1]
  · intro j hj
    refine ⟨l[j]'(by omega), List.getElem?_eq_getElem (by omega), ?_⟩
    intro e
    have := List.not_of_lt_findIdx (p := (· == c)) (xs := l) (i := j) hj
    simp [e] at this
def mtf0 : List UInt8 := (List.range 256).map UInt8.ofNat
theorem mtf0_full : Full mtf0 := by
  refine ⟨by simp [mtf0], fun x => ?_⟩
  unfold mtf0
  rw [List.mem_map]
  exact ⟨x.toNat, List.mem_range.2 x.toNat_lt, by simp⟩
def lstE (l : List UInt8) (b : List UInt8) : List UInt8 := b.foldl (fun l c => frontL l (l.idxOf c)) l
def lstD (l : List UInt8) (b : List UInt8) : List UInt8 := b.foldl (fun l a => frontL l a.toNat) l
def mtfE : List UInt8 → List UInt8 → List UInt8
  | _, [] => []
  | l, c :: r => UInt8.ofNat (l.idxOf c) :: mtfE (frontL l (l.idxOf c)) r
def mtfD : List UInt8 → List UInt8 → List UInt8
  | _, [] => []
  | l, a :: r => l.getD a.toNat 0 :: mtfD (frontL l a.toNat) r
theorem mtfE_snoc (c : UInt8) : ∀ (b l : List UInt8), mtfE l (b ++ [c]) = mtfE l b ++ [UInt8.ofNat ((lstE l b).idxOf c)]
  | [], l => rfl
  | x :: r, l => by
    show UInt8.ofNat (l.idxOf x) :: mtfE _ (r ++ [c]) = _
    rw [mtfE_snoc c r]
    rfl
theorem mtfD_snoc (c : UInt8) : ∀ (b l : List UInt8), mtfD l (b ++ [c]) = mtfD l b ++ [(lstD l b).getD c.toNat 0]
  | [], l => rfl
  | x :: r, l => by
    show l.getD x.toNat 0 :: mtfD _ (r ++ [c]) = _
    rw [mtfD_snoc c r]
    rfl
theorem lstE_snoc (c : UInt8) (b l : List UInt8) : lstE l (b ++ [c]) = frontL (lstE l b) ((lstE l b).idxOf c) := by simp [lstE]
theorem lstD_snoc (c : UInt8) (b l : List UInt8) : lstD l (b ++ [c]) = frontL (lstD l b) c.toNat := by simp [lstD]
theorem lstE_full {l : List UInt8} (h : Full l) : ∀ b, Full (lstE l b) := by
  intro b
  induction b generalizing l with
  | nil => exact h
  | cons c r ih => exact ih (h.front (h.idx c).1)
theorem lstD_full {l : List UInt8} (h : Full l) : ∀ b, Full (lstD l b) := by
  intro b
  induction b generalizing l with
  | nil => exact h
  | cons c r ih => exact ih (h.front c.toNat_lt)
theorem mtfE_length : ∀ (b l : List UInt8), (mtfE l b).length = b.length
  | [], _ => rfl
  | c :: r, l => by simp [mtfE, mtfE_length r]
theorem mtfD_length : ∀ (b l : List UInt8), (mtfD l b).length = b.length
  | [], _ => rfl
  | c :: r, l => by simp [mtfD, mtfD_length r]
/-- It comes back. -/
theorem mtf_back : ∀ (b l : List UInt8), Full l → mtfD l (mtfE l b) = b
  | [], _, _ => rfl
  | c :: r, l, h => by
    obtain ⟨h1, h2, _⟩ := h.idx c
    have e : (UInt8.ofNat (l.idxOf c)).toNat = l.idxOf c := by simp; omega
    show l.getD (UInt8.ofNat (l.idxOf c)).toNat 0 :: mtfD (frontL l (UInt8.ofNat (l.idxOf c)).toNat) (mtfE (frontL l (l.idxOf c)) r) = c :: r
    rw [e, mtf_back r _ (h.front h1), List.getD_eq_getElem?_getD, h2]
    rfl
/-- Of equal bytes: the first one's place, then noughts. -/
theorem mtf_equal (c : UInt8) : ∀ (n : Nat) (l : List UInt8), mtfE (c :: l) (List.replicate n c) = List.replicate n 0
  | 0, _ => rfl
  | n + 1, l => by
    have e : (c :: l).idxOf c = 0 := by simp
    show UInt8.ofNat ((c :: l).idxOf c) :: mtfE (frontL (c :: l) ((c :: l).idxOf c)) (List.replicate n c) = _
    rw [e]
    have e2 : frontL (c :: l) 0 = c :: l := by simp [frontL]
    rw [e2, mtf_equal c n l]
    rfl
end Go.Proofs.Ythgbkncanoknkaa
/-
  Contracts of mtf.list, mtf.front, mtf.Encode, mtf.Decode.
-/
set_option linter.unusedVariables false
set_option linter.unusedSimpArgs false
namespace Go.Proofs.Ythgbkncanoknkaa
open Go.RowKit
set_option maxRecDepth 100000
theorem bv_snoc (l : List UInt8) (x : UInt8) : bv l ++ [.int .u8 (x.toNat : Int)] = bv (l ++ [x]) := by simp [bv]
def BytesOut (b : List UInt8) (w : World) (e : Ending) (w' : World) : Prop := ∃ v c, e = .returned v ∧ RowC 5 1 v b.length (bv b) c ∧ St w.heap.size w w' [c]
set_option maxHeartbeats 2000000 in
theorem mtflist_any (w : World) : Calls Try.prog 66 #[] w (BytesOut mtf0 w) := by
  obtain ⟨i0, i0a, i0b, i0c, i0d⟩ := info_parts infoU8
  have hS0 := (St.init w).one_nil
  have h0 : mtf0.length = 256 := mtf0_full.1
  go_enter Try.func66, Try.ntmps66
  go_wp2_with fail
  go_loopg [1, 3] 256 (fun m s1 s3 wr => ∃ i : Nat, i + m = 256 ∧ s3 = .int .i64 (i : Int) ∧ ∃ c, RowC 5 1 s1 i (bv (mtf0.take i)) c ∧ St w.heap.size w wr [c])
  case atStart => exact ⟨0, by omega, rfl, [], RowC.nil _ _, hS0⟩
  case round =>
    clear hS0
    obtain ⟨i, hi, rfl, c, hr, hS⟩ := hrel
    obtain ⟨ao1, cap1, rfl⟩ := hr.shape
    cases gk with
    | succ m =>
      have hif : (i : Int) < 256 := by omega
      have hx : mtf0[i]? = some (UInt8.ofNat i) := by unfold mtf0; rw [List.getElem?_map, List.getElem?_range (by omega)]; rfl
      have hu : (UInt8.ofNat i).toNat = i := by simp; omega
      have HT : Hid (bv (mtf0.take i) ++ [.int .u8 (i : Int)] = bv (mtf0.take (i + 1))) := Lib.hid (by
        rw [List.take_add_one, hx, show (i : Int) = ((UInt8.ofNat i).toNat : Int) from by rw [hu], bv_snoc]
        rfl)
      have hw : IntKind.u8.wrap (i : Int) = (i : Int) := by rw [IntKind.wrap_u8]; omega
      clear hx hu
      go_wp2_with (at_builtin; (refine wpList_app1 0 29 i0 (.int .u8 0) _ _ _ rfl rfl rfl rfl Try.underlying29 i0a i0b i0c i0d rfl hS rfl hr rfl ?_ ?_ ?_); (unfold maxLen; omega); omega; intro v1 c1 w3 hr1 hS1)
      rw [HT.out] at hr1
      go_roundg m
      case measure => omega
      case rel => exact ⟨i + 1, by omega, by go_num, c1, hr1, hS1⟩
    | zero =>
      obtain rfl : i = 256 := by omega
      have hz : ¬ (256 : Int) < 256 := by omega
      have HF := Lib.hid (And.intro hr hS)
      clear hr hS
      go_wp2_with fail
      go_ret
      refine ⟨_, c, rfl, ?_, HF.out.2⟩
      rw [h0]
      have := HF.out.1
      rwa [List.take_of_length_le (by omega)] at this
theorem front_list (l : List UInt8) (k : Nat) (x : UInt8) (hk : k < l.length) (hx : l[k]? = some x) : ((bv l).take 1 ++ ((bv l).take k).take k ++ (bv l).drop (1 + k)).set 0 (.int .u8 (x.toNat : Int)) = bv (frontL l k) := by
  have e : l.getD k 0 = x := by rw [List.getD_eq_getElem?_getD, hx]; rfl
  unfold frontL
  rw [e]
  cases l with
  | nil => simp at hk
  | cons a r => simp [bv, List.take_take, Nat.add_comm 1 k]
theorem St.swap0 {B : Nat} {w0 w : World} {c : List (Nat × Obj)} (h : St B w0 w [c]) : St B w0 w [c, []] := h.one_nil.pick [1, 0] (by decide) [c, []] rfl
def FrontOut (l : List UInt8) (k g cap B : Nat) (w0 : World) (F : List (List (Nat × Obj))) (e : Ending) (w' : World) : Prop :=
  e = .returned (.tuple #[]) ∧ ∃ c, RowC 5 1 (.slice (some ⟨g, 0, none⟩) 256 cap) 256 (bv (frontL l k)) c ∧ St B w0 w' (c :: F)
set_option maxHeartbeats 4000000 in
theorem front_any {B : Nat} {w0 : World} {F : List (List (Nat × Obj))} {c : List (Nat × Obj)} (l : List UInt8) (k g cap : Nat) (w : World) (hl : l.length = 256) (hk : k < 256) (hr : RowC 5 1 (.slice (some ⟨g, 0, none⟩) 256 cap) 256 (bv l) c) (hS : St B w0 w (c :: F)) :
    Calls Try.prog 67 #[.slice (some ⟨g, 0, none⟩) 256 cap, .int .i64 (k : Int)] w (FrontOut l k g cap B w0 F) := by
  obtain ⟨i1, hi1, hz1, hs1, hb1⟩ := info_parts infoU8
  have hsz : (Try.prog.info? 5).map (·.size) = some 1 := by rw [hi1]; simp [hs1]
  obtain ⟨hc1, hc2⟩ := hr.cap
  obtain ⟨x, hx⟩ : ∃ x, l[k]? = some x := ⟨_, List.getElem?_eq_getElem (by omega)⟩
  have hcx := hr.cellAt hS 0 rfl (bv_get l k x hx)
  have hki : (k : Int) < 256 := by omega
  have hw1 : IntKind.i64.wrap ((k : Int) + 1) = (k : Int) + 1 := IntWalk.i64_in _ (by omega)
  have hw2 : (1 : Int) ≤ (k : Int) + 1 := by omega
  have hw3 : ((k : Int) + 1).toNat = k + 1 := by omega
  have hw4 : (k : Int) + 1 ≤ (cap : Int) := by omega
  have hw5 : ¬ cap = 1 := by omega
  have hw6 : (k : Int) ≤ (cap : Int) := by omega
  have hw7 : k + 1 ≤ cap := by omega
  have hw8 : k ≤ cap := by omega
  have HS := Lib.hid (And.intro hr hS)
  have HX := Lib.hid hx
  clear hx
  go_enter Try.func67, Try.ntmps67
  go_wp2_with fail
  have hSd := HS.out.2.drew
  have HSRC : Hid (Rd w.drew 1 (.slice (some ⟨g, 0, none⟩) k cap) k ((bv l).take k)) := Lib.hid (by
    have := (HS.out.1.rd hSd 0 rfl).take k (by omega)
    rwa [Nat.mul_one] at this)
  have hbl : (bv l).length = 256 := by rw [bv_length, hl]
  go_region_law (refine step_copyC (g := g) (n := 256) (cap := cap) (xs := bv l) (ys := (bv l).take k) (dl := k) (dd := 1) (dc := cap - 1) (sl := k) (sc := cap) (ad := ⟨g, 0, none⟩) 0 29 29 (.tmp 12) (.tmp 15) rfl rfl (by kernel_rfl) (by kernel_rfl) Try.underlying29 hsz hSd rfl HS.out.1 HSRC.out k (fun z hz => bv_one l z (List.mem_of_mem_take (List.mem_of_mem_take hz))) (by omega) (by omega) (fun c1 w1 hr1 hS1 => ?_))
  all_goals (
    have hf := hr1.freeAt hS1 0 rfl 0
    have hlen := hr1.len
    obtain ⟨y, hy⟩ : ∃ y, ((bv l).take 1 ++ ((bv l).take k).take k ++ (bv l).drop (1 + k))[0]? = some y := ⟨_, List.getElem?_eq_getElem (by omega)⟩
    have hcy := hr1.cellAt hS1 0 rfl hy
    have HF : Hid (∃ c, RowC 5 1 (.slice (some ⟨g, 0, none⟩) 256 cap) 256 (bv (frontL l k)) c ∧ St B w0 (w1.setCell ⟨g, 0, none⟩ (.int .u8 (x.toNat : Int))) (c :: F)) := Lib.hid (by
      obtain ⟨c2, h1, h2⟩ := hr1.store hS1 0 rfl rfl 0 (.int .u8 (x.toNat : Int))
      refine ⟨c2, ?_, h2⟩
      rw [← front_list l k x (by omega) HX.out]
      exact h1)
    clear hr1 hS1 hy hlen
    go_wp2_with fail
    go_end0
    exact ⟨rfl, HF.out⟩)
set_option maxHeartbeats 4000000 in
theorem mtfenc_any (v : Value) (b : List UInt8) (w : World) (h : Rd w 1 v b.length (bv b)) (hn : b.length ≤ 1000000) :
    Calls Try.prog 58 #[v] w (BytesOut (mtfE mtf0 b) w) := by
  obtain ⟨i0, i0a, i0b, i0c, i0d⟩ := info_parts infoU8
  obtain ⟨ao, cap, rfl⟩ := h.shape
  have H0 := Lib.hid h
  have hni : (b.length : Int) ≤ 1000000 := by omega
  clear h
  go_enter Try.func58, Try.ntmps58
  go_wp2_with fail
  refine (mtflist_any w).mono ?_
  rintro e w1 ⟨vl, cl, rfl, hl, hS1⟩
  have hl' : RowC 5 1 vl 256 (bv mtf0) cl := by have := hl; rwa [mtf0_full.1] at this
  obtain ⟨aol, capl, rfl⟩ := hl'.shape
  obtain ⟨gl, rfl⟩ := hl'.head (by omega)
  have hS0 := hS1.swap0
  clear hl hS1
  go_wp2_with fail
  go_loopg [4, 11] b.length (fun m s4 s11 wr => ∃ i : Nat, i + m = b.length ∧ s11 = .int .i64 (i : Int) ∧ ∃ cl co, RowC 5 1 (.slice (some ⟨gl, 0, none⟩) 256 capl) 256 (bv (lstE mtf0 (b.take i))) cl ∧ RowC 5 1 s4 i (bv (mtfE mtf0 (b.take i))) co ∧ St w.heap.size w wr [cl, co])
  case atStart => exact ⟨0, by omega, rfl, cl, [], hl', RowC.nil _ _, hS0⟩
  case round =>
    clear hS0 hl'
    obtain ⟨i, hi, rfl, cl, co, hl, ho, hS⟩ := hrel
    obtain ⟨ao4, cap4, rfl⟩ := ho.shape
    cases gk with
    | succ m =>
      have hif : (i : Int) < (b.length : Int) := by omega
      obtain ⟨x, hx⟩ : ∃ x, b[i]? = some x := ⟨_, List.getElem?_eq_getElem (by omega)⟩
      obtain ⟨ad, rfl, hc⟩ := (H0.out.st hS).at (bv_get b i x hx)
      have hfull := lstE_full mtf0_full (b.take i)
      obtain ⟨x1, x2, x3⟩ := hfull.idx x
      have HT : Hid (b.take (i + 1) = b.take i ++ [x]) := Lib.hid (by rw [List.take_add_one, hx]; rfl)
      have HE : Hid (mtfE mtf0 (b.take (i + 1)) = mtfE mtf0 (b.take i) ++ [UInt8.ofNat ((lstE mtf0 (b.take i)).idxOf x)] ∧ lstE mtf0 (b.take (i + 1)) = frontL (lstE mtf0 (b.take i)) ((lstE mtf0 (b.take i)).idxOf x)) := Lib.hid ⟨by rw [HT.out, mtfE_snoc], by rw [HT.out, lstE_snoc]⟩
      clear hx
      obtain ⟨E2, L2, HQ⟩ : ∃ E2 L2, Hid (mtfE mtf0 (b.take (i + 1)) = E2 ∧ lstE mtf0 (b.take (i + 1)) = L2) := ⟨_, _, Lib.hid ⟨rfl, rfl⟩⟩
      rw [HQ.out.1, HQ.out.2] at HE
      generalize mtfE mtf0 (b.take i) = E at *
      generalize lstE mtf0 (b.take i) = L at *
      generalize L.idxOf x = K at *
      have HX := Lib.hid (And.intro x2 x3)
      have HR := Lib.hid (And.intro hl (And.intro ho hS))
      have HFU := Lib.hid hfull.1
      clear hl ho hS x2 x3 hfull
      go_wp2_with fail
      go_loopg [7] K (fun m s7 wk => ∃ j : Nat, j + m = K ∧ s7 = .int .i64 (j : Int) ∧ wr = wk)
      case atStart => exact ⟨0, by omega, rfl, rfl⟩
      case round =>
        obtain ⟨j, hj, rfl, rfl⟩ := hrel
        have hj256 : (j : Int) < 256 := by omega
        cases gk with
        | succ m2 =>
          obtain ⟨y, hy, hne⟩ := HX.out.2 j (by omega)
          have hcy := HR.out.1.cellAt HR.out.2.2 0 rfl (bv_get L j y hy)
          have hne2 : ((y.toNat : Int) != (x.toNat : Int)) = true := by
            rw [bne_iff_ne]
            intro e
            exact hne (UInt8.toNat_inj.1 (by omega))
          clear hy hne
          go_wp2_with fail
          go_roundg m2
          case measure => omega
          case rel => exact ⟨j + 1, by omega, by go_num, rfl⟩
        | zero =>
          obtain rfl : j = K := by omega
          have hcy := HR.out.1.cellAt HR.out.2.2 0 rfl (bv_get L j x HX.out.1)
          have hne2 : ((x.toNat : Int) != (x.toNat : Int)) = false := by simp
          have hw : IntKind.u8.wrap (j : Int) = (j : Int) := by rw [IntKind.wrap_u8]; omega
          have hu : (UInt8.ofNat j).toNat = j := by simp; omega
          have HU : Hid (bv E ++ [.int .u8 (j : Int)] = bv E2) := Lib.hid (by rw [HE.out.1, ← bv_snoc, hu])
          have ho := HR.out.2.1
          have hS := HR.out.2.2
          clear hu
          go_wp2_with (at_builtin; (refine wpList_app1 1 29 i0 (.int .u8 0) _ _ _ rfl rfl rfl rfl Try.underlying29 i0a i0b i0c i0d rfl hS rfl ho rfl ?_ ?_ ?_); (unfold maxLen; omega); omega; intro v1 c1 w3 hr1 hS1)
          rw [HU.out] at hr1
          refine (front_any L j gl capl w3 HFU.out (by omega) HR.out.1 hS1).mono ?_
          rintro e w5 ⟨rfl, cl2, hl2, hS2⟩
          rw [← HE.out.2] at hl2
          have HF := Lib.hid (And.intro hl2 (And.intro hr1 hS2))
          clear hl2 hr1 hS2 hS1 ho hS
          go_wp2_with fail
          go_roundg m
          case measure => omega
          case rel => exact ⟨i + 1, by omega, by go_num, cl2, c1, by rw [HQ.out.2]; exact HF.out.1, by rw [HQ.out.1]; exact HF.out.2.1, HF.out.2.2⟩
    | zero =>
      obtain rfl : i = b.length := by omega
      have hz : ¬ (b.length : Int) < (b.length : Int) := by omega
      have HF := Lib.hid (And.intro ho (hS.pick [1] (by decide) [co] rfl))
      clear hl ho hS
      go_wp2_with fail
      go_ret
      refine ⟨_, co, rfl, ?_, HF.out.2⟩
      rw [mtfE_length]
      have := HF.out.1
      rwa [List.take_length] at this
set_option maxHeartbeats 4000000 in
theorem mtfdec_any (v : Value) (b : List UInt8) (w : World) (h : Rd w 1 v b.length (bv b)) (hn : b.length ≤ 1000000) :
    Calls Try.prog 87 #[v] w (BytesOut (mtfD mtf0 b) w) := by
  obtain ⟨i0, i0a, i0b, i0c, i0d⟩ := info_parts infoU8
  obtain ⟨ao, cap, rfl⟩ := h.shape
  have H0 := Lib.hid h
  have hni : (b.length : Int) ≤ 1000000 := by omega
  clear h
  go_enter Try.func87, Try.ntmps87
  go_wp2_with fail
  refine (mtflist_any w).mono ?_
  rintro e w1 ⟨vl, cl, rfl, hl, hS1⟩
  have hl' : RowC 5 1 vl 256 (bv mtf0) cl := by have := hl; rwa [mtf0_full.1] at this
  obtain ⟨aol, capl, rfl⟩ := hl'.shape
  obtain ⟨gl, rfl⟩ := hl'.head (by omega)
  have hS0 := hS1.swap0
  clear hl hS1
  go_wp2_with fail
  go_loopg [4, 10] b.length (fun m s4 s10 wr => ∃ i : Nat, i + m = b.length ∧ s10 = .int .i64 (i : Int) ∧ ∃ cl co, RowC 5 1 (.slice (some ⟨gl, 0, none⟩) 256 capl) 256 (bv (lstD mtf0 (b.take i))) cl ∧ RowC 5 1 s4 i (bv (mtfD mtf0 (b.take i))) co ∧ St w.heap.size w wr [cl, co])
  case atStart => exact ⟨0, by omega, rfl, cl, [], hl', RowC.nil _ _, hS0⟩
  case round =>
    clear hS0 hl'
    obtain ⟨i, hi, rfl, cl, co, hl, ho, hS⟩ := hrel
    obtain ⟨ao4, cap4, rfl⟩ := ho.shape
    cases gk with
    | succ m =>
      have hif : (i : Int) < (b.length : Int) := by omega
      obtain ⟨x, hx⟩ : ∃ x, b[i]? = some x := ⟨_, List.getElem?_eq_getElem (by omega)⟩
      obtain ⟨ad, rfl, hc⟩ := (H0.out.st hS).at (bv_get b i x hx)
      have hfull := lstD_full mtf0_full (b.take i)
      have hx256 : x.toNat < 256 := x.toNat_lt
      have HT : Hid (b.take (i + 1) = b.take i ++ [x]) := Lib.hid (by rw [List.take_add_one, hx]; rfl)
      have HE : Hid (mtfD mtf0 (b.take (i + 1)) = mtfD mtf0 (b.take i) ++ [(lstD mtf0 (b.take i)).getD x.toNat 0] ∧ lstD mtf0 (b.take (i + 1)) = frontL (lstD mtf0 (b.take i)) x.toNat) := Lib.hid ⟨by rw [HT.out, mtfD_snoc], by rw [HT.out, lstD_snoc]⟩
      clear hx
      obtain ⟨E2, L2, HQ⟩ : ∃ E2 L2, Hid (mtfD mtf0 (b.take (i + 1)) = E2 ∧ lstD mtf0 (b.take (i + 1)) = L2) := ⟨_, _, Lib.hid ⟨rfl, rfl⟩⟩
      rw [HQ.out.1, HQ.out.2] at HE
      generalize mtfD mtf0 (b.take i) = E at *
      generalize lstD mtf0 (b.take i) = L at *
      have HFU := Lib.hid hfull.1
      have hgx : L[x.toNat]? = some (L.getD x.toNat 0) := by rw [List.getD_eq_getElem?_getD, List.getElem?_eq_getElem (by rw [HFU.out]; exact hx256)]; rfl
      have hcy := hl.cellAt hS 0 rfl (bv_get L x.toNat _ hgx)
      clear hgx hfull
      generalize L.getD x.toNat 0 = y at *
      generalize x.toNat = K at *
      have hKi : (K : Int) < 256 := by omega
      have HU : Hid (bv E ++ [.int .u8 (y.toNat : Int)] = bv E2) := Lib.hid (by rw [HE.out.1, ← bv_snoc])
      go_wp2_with (at_builtin; (refine wpList_app1 1 29 i0 (.int .u8 0) _ _ _ rfl rfl rfl rfl Try.underlying29 i0a i0b i0c i0d rfl hS rfl ho rfl ?_ ?_ ?_); (unfold maxLen; omega); omega; intro v1 c1 w3 hr1 hS1)
      rw [HU.out] at hr1
      refine (front_any L K gl capl w3 HFU.out hx256 hl hS1).mono ?_
      rintro e w5 ⟨rfl, cl2, hl2, hS2⟩
      rw [← HE.out.2] at hl2
      have HF := Lib.hid (And.intro hl2 (And.intro hr1 hS2))
      clear hl2 hr1 hS2 hS1 ho hS hl
      go_wp2_with fail
      go_roundg m
      case measure => omega
      case rel => exact ⟨i + 1, by omega, by go_num, cl2, c1, by rw [HQ.out.2]; exact HF.out.1, by rw [HQ.out.1]; exact HF.out.2.1, HF.out.2.2⟩
    | zero =>
      obtain rfl : i = b.length := by omega
      have hz : ¬ (b.length : Int) < (b.length : Int) := by omega
      have HF := Lib.hid (And.intro ho (hS.pick [1] (by decide) [co] rfl))
      clear hl ho hS
      go_wp2_with fail
      go_ret
      refine ⟨_, co, rfl, ?_, HF.out.2⟩
      rw [mtfD_length]
      have := HF.out.1
      rwa [List.take_length] at this
end Go.Proofs.Ythgbkncanoknkaa

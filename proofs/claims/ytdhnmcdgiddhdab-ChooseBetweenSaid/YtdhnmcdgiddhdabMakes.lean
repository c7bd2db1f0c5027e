/-
  A region that draws its order and makes five rows in whatever order.
-/
import Derived.Test.YtdhnmcdgiddhdabMake
import Derived.Deep.RegionHeld3
set_option linter.unusedVariables false
set_option linter.unusedSimpArgs false
namespace Go.Proofs.Ytdhnmcdgiddhdab
open Go.RowKit
/-- The operation 'make([]T, n)', T of one cell. -/
structure MkOp (P : Program) (ops : Array Oper) (pos : Nat) (d : Option Tmp) (T : TypeId) (n : Nat) (z : Value) (a : Act) : Prop where
  out : ∃ (o : Oper) (t : TypeId) (i : TypeInfo) (l cc : Operand) (kl kc : IntKind), ops[pos]? = some o ∧ o.guard = none ∧ o.dst = d ∧ o.op = Op.makeSlice t l cc ∧ a.eval l = .int kl (n : Int) ∧ a.eval cc = .int kc (n : Int) ∧
    P.underlying t = some (.slice T) ∧ P.info? T = some i ∧ i.zero = some z ∧ i.size = 1 ∧ i.bytes * n ≤ 281474976710656
  len : n ≤ maxLen
  cells : z.cells = #[z]
section
variable {P : Program} {ops : Array Oper} {Q : Exit → Act → World → Prop} {B : Nat} {w0 w : World} {L : List HL}
theorem MkOp.step {pos : Nat} {d : Option Tmp} {T : TypeId} {n : Nat} {z : Value} {a : Act} (h : MkOp P ops pos d T n z a) (hS : St B w0 w L) {fuel : Nat} {listed : Array Bool} {S : World → Prop}
    (hK : ∀ v c' w', RowC T 1 v n (List.replicate n z) c' → St B w0 w' (c' :: L) → S w' ∧ wpAnyH P .any ops Q S fuel (listed.setIfInBounds pos true) (a.put d v) w') :
    wpOp P ops Q pos (fun a' w' => S w' ∧ wpAnyH P .any ops Q S fuel (listed.setIfInBounds pos true) a' w') a w := by
  obtain ⟨o, t, i, l, cc, kl, kc, h1, h2, h3, h4, h5, h6, h7, h8, h9, h10, h11⟩ := h.out
  subst h3
  refine wpOp_step h1 fun K' hK' => ?_
  rw [if_pos (by simp [Region.wanted, h2])]
  obtain ⟨w', hrun, r1, r2⟩ := run_make_full (P := P) w w.heap.size t T i z 1 h7 h8 h9 h10 kl kc n h11 h.len (Nat.le_refl _)
  obtain ⟨c', q1, q2, q3⟩ := RowC.of_owns r1
  have e : (madeCells z.cells (n * 1)).toList = List.replicate n z := by rw [h.cells, Nat.mul_one]; exact toList_madeCells_one z n
  rw [e] at q1
  unfold Oper.wp
  simp [execOp, h4, h5, h6, hrun, Result.andThen]
  refine hK' _ _ (hK _ c' w' q1 ?_)
  refine hS.join (L' := [c']) ⟨⟨r2.os, r2.tape, r2.output, r2.size, fun k hk => r2.block k hk (by simp)⟩, r2.size, ?_, ?_, by simpa using q1.nd⟩
  · intro cc hcc x hx
    simp only [List.mem_singleton] at hcc
    subst hcc
    exact ⟨q2 x hx, (q3 x hx).2⟩
  · intro i j ci cj hi hj _ _ _ _ _
    have h1 := (List.getElem?_eq_some_iff.1 hi).1
    have h2 := (List.getElem?_eq_some_iff.1 hj).1
    simp at h1 h2
    omega
/-- A new one in the place of an empty one. -/
theorem St.fill {c' : HL} (h : St B w0 w (c' :: L)) (i : Nat) (hi : L[i]? = some []) : St B w0 w (L.set i c') := by
  have hil := (List.getElem?_eq_some_iff.1 hi).1
  refine h.reindexN (fun j => if j = i then 0 else j + 1) _ ?_ ?_
  · intro a b _ _ e
    revert e
    show (if a = i then 0 else a + 1) = (if b = i then 0 else b + 1) → a = b
    split <;> split <;> omega
  · intro j c hj
    right
    rw [List.getElem?_set] at hj
    by_cases e : i = j
    · subst e
      rw [if_pos rfl, if_pos hil] at hj
      simpa using hj
    · rw [if_neg e] at hj
      rw [if_neg (fun x => e x.symm), List.getElem?_cons_succ]
      exact hj
/-- A maker that is done, or not yet. -/
def Mkd (b : Bool) (T : TypeId) (n : Nat) (z v : Value) (c : HL) : Prop := (b = true → RowC T 1 v n (List.replicate n z) c) ∧ (b = false → c = [])
theorem makes5 (A : Value → Value → Value → Value → Value → Act) (Ls : Bool → Bool → Bool → Bool → Bool → Array Bool) {p1 p2 p3 p4 p5 : Nat} {d1 d2 d3 d4 d5 : Option Tmp} {T1 T2 T3 T4 T5 : TypeId} {n1 n2 n3 n4 n5 : Nat} {z1 z2 z3 z4 z5 : Value} {m : Nat}
    (m1 : ∀ x1 x2 x3 x4 x5, MkOp P ops p1 d1 T1 n1 z1 (A x1 x2 x3 x4 x5)) (m2 : ∀ x1 x2 x3 x4 x5, MkOp P ops p2 d2 T2 n2 z2 (A x1 x2 x3 x4 x5)) (m3 : ∀ x1 x2 x3 x4 x5, MkOp P ops p3 d3 T3 n3 z3 (A x1 x2 x3 x4 x5)) (m4 : ∀ x1 x2 x3 x4 x5, MkOp P ops p4 d4 T4 n4 z4 (A x1 x2 x3 x4 x5)) (m5 : ∀ x1 x2 x3 x4 x5, MkOp P ops p5 d5 T5 n5 z5 (A x1 x2 x3 x4 x5))
    (u1 : ∀ x1 x2 x3 x4 x5 v, (A x1 x2 x3 x4 x5).put d1 v = A v x2 x3 x4 x5) (u2 : ∀ x1 x2 x3 x4 x5 v, (A x1 x2 x3 x4 x5).put d2 v = A x1 v x3 x4 x5) (u3 : ∀ x1 x2 x3 x4 x5 v, (A x1 x2 x3 x4 x5).put d3 v = A x1 x2 v x4 x5) (u4 : ∀ x1 x2 x3 x4 x5 v, (A x1 x2 x3 x4 x5).put d4 v = A x1 x2 x3 v x5) (u5 : ∀ x1 x2 x3 x4 x5 v, (A x1 x2 x3 x4 x5).put d5 v = A x1 x2 x3 x4 v)
    (s1 : ∀ b1 b2 b3 b4 b5, (Ls b1 b2 b3 b4 b5).setIfInBounds p1 true = Ls true b2 b3 b4 b5) (s2 : ∀ b1 b2 b3 b4 b5, (Ls b1 b2 b3 b4 b5).setIfInBounds p2 true = Ls b1 true b3 b4 b5) (s3 : ∀ b1 b2 b3 b4 b5, (Ls b1 b2 b3 b4 b5).setIfInBounds p3 true = Ls b1 b2 true b4 b5) (s4 : ∀ b1 b2 b3 b4 b5, (Ls b1 b2 b3 b4 b5).setIfInBounds p4 true = Ls b1 b2 b3 true b5) (s5 : ∀ b1 b2 b3 b4 b5, (Ls b1 b2 b3 b4 b5).setIfInBounds p5 true = Ls b1 b2 b3 b4 true)
    (ready : ∀ b1 b2 b3 b4 b5, (b1 && b2 && b3 && b4 && b5) = false → Region.ready .any ops (Ls b1 b2 b3 b4 b5) = (if b1 then [] else [p1]) ++ ((if b2 then [] else [p2]) ++ ((if b3 then [] else [p3]) ++ ((if b4 then [] else [p4]) ++ (if b5 then [] else [p5])))))
    (hend : ∀ x1 x2 x3 x4 x5 c1 c2 c3 c4 c5 w', RowC T1 1 x1 n1 (List.replicate n1 z1) c1 → RowC T2 1 x2 n2 (List.replicate n2 z2) c2 → RowC T3 1 x3 n3 (List.replicate n3 z3) c3 → RowC T4 1 x4 n4 (List.replicate n4 z4) c4 → RowC T5 1 x5 n5 (List.replicate n5 z5) c5 →
      St B w0 w' (c1 :: c2 :: c3 :: c4 :: c5 :: L) → wpAnyH P .any ops Q (fun _ => True) m (Ls true true true true true) (A x1 x2 x3 x4 x5) w') :
    ∀ k b1 b2 b3 b4 b5, (!b1).toNat + (!b2).toNat + (!b3).toNat + (!b4).toNat + (!b5).toNat = k → ∀ x1 x2 x3 x4 x5 c1 c2 c3 c4 c5 w', Mkd b1 T1 n1 z1 x1 c1 → Mkd b2 T2 n2 z2 x2 c2 → Mkd b3 T3 n3 z3 x3 c3 → Mkd b4 T4 n4 z4 x4 c4 → Mkd b5 T5 n5 z5 x5 c5 →
      St B w0 w' (c1 :: c2 :: c3 :: c4 :: c5 :: L) → wpAnyH P .any ops Q (fun _ => True) (m + k) (Ls b1 b2 b3 b4 b5) (A x1 x2 x3 x4 x5) w' := by
  intro k
  induction k with
  | zero =>
    intro b1 b2 b3 b4 b5 hk x1 x2 x3 x4 x5 c1 c2 c3 c4 c5 w' h1 h2 h3 h4 h5 hS
    have e1 : b1 = true := by cases b1 <;> simp at hk ⊢
    have e2 : b2 = true := by cases b2 <;> simp at hk ⊢
    have e3 : b3 = true := by cases b3 <;> simp at hk ⊢
    have e4 : b4 = true := by cases b4 <;> simp at hk ⊢
    have e5 : b5 = true := by cases b5 <;> simp at hk ⊢
    subst e1 e2 e3 e4 e5
    exact hend _ _ _ _ _ _ _ _ _ _ _ (h1.1 rfl) (h2.1 rfl) (h3.1 rfl) (h4.1 rfl) (h5.1 rfl) hS
  | succ k ih =>
    intro b1 b2 b3 b4 b5 hk x1 x2 x3 x4 x5 c1 c2 c3 c4 c5 w' h1 h2 h3 h4 h5 hS
    have hne : (b1 && b2 && b3 && b4 && b5) = false := by
      cases b1 <;> cases b2 <;> cases b3 <;> cases b4 <;> cases b5 <;> first | rfl | simp at hk
    refine wpAnyH_ready (ready b1 b2 b3 b4 b5 hne) ?_ ?_
    · cases b1 <;> cases b2 <;> cases b3 <;> cases b4 <;> cases b5 <;> first | exact absurd hne (by decide) | simp
    · intro j hj
      simp only [List.mem_append] at hj
      rcases hj with hj | hj | hj | hj | hj
      · cases b1 with
        | true => simp at hj
        | false =>
          simp at hj
          subst hj
          refine (m1 x1 x2 x3 x4 x5).step hS fun v c' w'' hr hS' => ⟨trivial, ?_⟩
          rw [u1, s1]
          have he := h1.2 rfl
          subst he
          exact ih true b2 b3 b4 b5 (by simp at hk ⊢; omega) v x2 x3 x4 x5 c' c2 c3 c4 c5 w'' ⟨fun _ => hr, fun h => by cases h⟩ h2 h3 h4 h5 (hS'.fill 0 rfl)
      · cases b2 with
        | true => simp at hj
        | false =>
          simp at hj
          subst hj
          refine (m2 x1 x2 x3 x4 x5).step hS fun v c' w'' hr hS' => ⟨trivial, ?_⟩
          rw [u2, s2]
          have he := h2.2 rfl
          subst he
          exact ih b1 true b3 b4 b5 (by simp at hk ⊢; omega) x1 v x3 x4 x5 c1 c' c3 c4 c5 w'' h1 ⟨fun _ => hr, fun h => by cases h⟩ h3 h4 h5 (hS'.fill 1 rfl)
      · cases b3 with
        | true => simp at hj
        | false =>
          simp at hj
          subst hj
          refine (m3 x1 x2 x3 x4 x5).step hS fun v c' w'' hr hS' => ⟨trivial, ?_⟩
          rw [u3, s3]
          have he := h3.2 rfl
          subst he
          exact ih b1 b2 true b4 b5 (by simp at hk ⊢; omega) x1 x2 v x4 x5 c1 c2 c' c4 c5 w'' h1 h2 ⟨fun _ => hr, fun h => by cases h⟩ h4 h5 (hS'.fill 2 rfl)
      · cases b4 with
        | true => simp at hj
        | false =>
          simp at hj
          subst hj
          refine (m4 x1 x2 x3 x4 x5).step hS fun v c' w'' hr hS' => ⟨trivial, ?_⟩
          rw [u4, s4]
          have he := h4.2 rfl
          subst he
          exact ih b1 b2 b3 true b5 (by simp at hk ⊢; omega) x1 x2 x3 v x5 c1 c2 c3 c' c5 w'' h1 h2 h3 ⟨fun _ => hr, fun h => by cases h⟩ h5 (hS'.fill 3 rfl)
      · cases b5 with
        | true => simp at hj
        | false =>
          simp at hj
          subst hj
          refine (m5 x1 x2 x3 x4 x5).step hS fun v c' w'' hr hS' => ⟨trivial, ?_⟩
          rw [u5, s5]
          have he := h5.2 rfl
          subst he
          exact ih b1 b2 b3 b4 true (by simp at hk ⊢; omega) x1 x2 x3 x4 v c1 c2 c3 c4 c' w'' h1 h2 h3 h4 ⟨fun _ => hr, fun h => by cases h⟩ (hS'.fill 4 rfl)
end
/-! The same, the act and the marks of what is done out of the goal -/
theorem put_same (a : Act) (d : Nat) (x v : Value) : (a.put (some d) x).put (some d) v = a.put (some d) v := by
  simp [Act.put]
theorem setb_same (l : Array Bool) (i : Nat) (b c : Bool) : (l.setIfInBounds i b).setIfInBounds i c = l.setIfInBounds i c := by simp
theorem put_swap (a : Act) (d e : Nat) (x y : Value) (h : d ≠ e) : (a.put (some d) x).put (some e) y = (a.put (some e) y).put (some d) x := by
  simp only [Act.put]
  rw [Array.setIfInBounds_comm _ _ h]
theorem set_own {α : Type} (l : Array α) (i : Nat) (x : α) (h : l[i]? = some x) : l.setIfInBounds i x = l := by
  apply Array.ext_getElem?
  intro j
  rw [Array.getElem?_setIfInBounds]
  by_cases e : i = j
  · subst e
    rw [if_pos rfl, if_pos (Array.getElem?_eq_some_iff.1 h).1, h]
  · rw [if_neg e]
theorem put_own (a : Act) (d : Nat) (x : Value) (h : a.tmps[d]? = some x) : a.put (some d) x = a := by
  simp only [Act.put]
  rw [set_own _ _ _ h]
def putA (a : Act) (d1 d2 d3 d4 d5 : Nat) (x1 x2 x3 x4 x5 : Value) : Act := ((((a.put (some d1) x1).put (some d2) x2).put (some d3) x3).put (some d4) x4).put (some d5) x5
def setL (l : Array Bool) (p1 p2 p3 p4 p5 : Nat) (b1 b2 b3 b4 b5 : Bool) : Array Bool := ((((l.setIfInBounds p1 b1).setIfInBounds p2 b2).setIfInBounds p3 b3).setIfInBounds p4 b4).setIfInBounds p5 b5
theorem put_over (a : Act) (d : Nat) (x v : Value) : (a.put (some d) x).put (some d) v = a.put (some d) v := put_same a d x v
/-- wpAnyH_take, the temporary told. -/
theorem take_d {P : Program} {md : Region.Mode} {ops : Array Oper} {Q : Exit → Act → World → Prop} {S : World → Prop} {i : Nat} {oi : Oper} {fuel : Nat} {listed : Array Bool} {a : Act} {w : World} (d : Nat) (v : Value) (hi : ops[i]? = some oi) (hd : oi.dst = some d)
    (hs : Region.noSelect ops = true) (hf : Region.free md ops listed i = true) (hr : (Region.ready md ops listed).contains i = true)
    (hQ : ∀ c a w, Q (.panic c) (a.put (some d) v) w → Q (.panic c) a w) (hy : YieldsIf P ops S oi v a) (hS : S w)
    (h : wpAnyH P md ops Q S fuel (listed.setIfInBounds i true) (a.put (some d) v) w) : wpAnyH P md ops Q S (fuel + 1) listed a w :=
  wpAnyH_take hi hs hf hr (by rw [hd]; exact hQ) hy hS (by rw [hd]; exact h)
theorem makes5g {P : Program} {ops : Array Oper} {Q : Exit → Act → World → Prop} {B : Nat} {w0 w : World} {L : List HL} {a : Act} {l : Array Bool} (p1 p2 p3 p4 p5 d1 d2 d3 d4 d5 : Nat) {T1 T2 T3 T4 T5 : TypeId} {n1 n2 n3 n4 n5 : Nat} {z1 z2 z3 z4 z5 : Value} (m : Nat)
    (hp : [p1, p2, p3, p4, p5].Nodup) (hd : [d1, d2, d3, d4, d5].Nodup) {y1 y2 y3 y4 y5 : Value}
    (hy1 : a.tmps[d1]? = some y1) (hy2 : a.tmps[d2]? = some y2) (hy3 : a.tmps[d3]? = some y3) (hy4 : a.tmps[d4]? = some y4) (hy5 : a.tmps[d5]? = some y5)
    (hl1 : l[p1]? = some false) (hl2 : l[p2]? = some false) (hl3 : l[p3]? = some false) (hl4 : l[p4]? = some false) (hl5 : l[p5]? = some false)
    (m1 : ∀ x1 x2 x3 x4 x5, MkOp P ops p1 (some d1) T1 n1 z1 (putA a d1 d2 d3 d4 d5 x1 x2 x3 x4 x5)) (m2 : ∀ x1 x2 x3 x4 x5, MkOp P ops p2 (some d2) T2 n2 z2 (putA a d1 d2 d3 d4 d5 x1 x2 x3 x4 x5)) (m3 : ∀ x1 x2 x3 x4 x5, MkOp P ops p3 (some d3) T3 n3 z3 (putA a d1 d2 d3 d4 d5 x1 x2 x3 x4 x5)) (m4 : ∀ x1 x2 x3 x4 x5, MkOp P ops p4 (some d4) T4 n4 z4 (putA a d1 d2 d3 d4 d5 x1 x2 x3 x4 x5)) (m5 : ∀ x1 x2 x3 x4 x5, MkOp P ops p5 (some d5) T5 n5 z5 (putA a d1 d2 d3 d4 d5 x1 x2 x3 x4 x5))
    (ready : ∀ b1 b2 b3 b4 b5, (b1 && b2 && b3 && b4 && b5) = false → Region.ready .any ops (setL l p1 p2 p3 p4 p5 b1 b2 b3 b4 b5) = (if b1 then [] else [p1]) ++ ((if b2 then [] else [p2]) ++ ((if b3 then [] else [p3]) ++ ((if b4 then [] else [p4]) ++ (if b5 then [] else [p5])))))
    (hS : St B w0 w L)
    (hend : ∀ x1 x2 x3 x4 x5 c1 c2 c3 c4 c5 w', RowC T1 1 x1 n1 (List.replicate n1 z1) c1 → RowC T2 1 x2 n2 (List.replicate n2 z2) c2 → RowC T3 1 x3 n3 (List.replicate n3 z3) c3 → RowC T4 1 x4 n4 (List.replicate n4 z4) c4 → RowC T5 1 x5 n5 (List.replicate n5 z5) c5 →
      St B w0 w' (c1 :: c2 :: c3 :: c4 :: c5 :: L) → wpAnyH P .any ops Q (fun _ => True) m (setL l p1 p2 p3 p4 p5 true true true true true) (putA a d1 d2 d3 d4 d5 x1 x2 x3 x4 x5) w') :
    wpAnyH P .any ops Q (fun _ => True) (m + 5) l a w := by
  simp only [List.nodup_cons, List.mem_cons, List.not_mem_nil, or_false, not_or, List.nodup_nil, and_true, not_false_eq_true] at hp hd
  obtain ⟨⟨e12, e13, e14, e15⟩, ⟨e23, e24, e25⟩, ⟨e34, e35⟩, e45⟩ := hd
  obtain ⟨⟨f12, f13, f14, f15⟩, ⟨f23, f24, f25⟩, ⟨f34, f35⟩, f45⟩ := hp
  have key := makes5 (P := P) (ops := ops) (Q := Q) (B := B) (w0 := w0) (L := L) (putA a d1 d2 d3 d4 d5) (setL l p1 p2 p3 p4 p5) (m := m) m1 m2 m3 m4 m5
    (fun x1 x2 x3 x4 x5 v => by unfold putA; rw [put_swap _ d5 d1 _ _ (Ne.symm e15), put_swap _ d4 d1 _ _ (Ne.symm e14), put_swap _ d3 d1 _ _ (Ne.symm e13), put_swap _ d2 d1 _ _ (Ne.symm e12), put_same])
    (fun x1 x2 x3 x4 x5 v => by unfold putA; rw [put_swap _ d5 d2 _ _ (Ne.symm e25), put_swap _ d4 d2 _ _ (Ne.symm e24), put_swap _ d3 d2 _ _ (Ne.symm e23), put_same])
    (fun x1 x2 x3 x4 x5 v => by unfold putA; rw [put_swap _ d5 d3 _ _ (Ne.symm e35), put_swap _ d4 d3 _ _ (Ne.symm e34), put_same])
    (fun x1 x2 x3 x4 x5 v => by unfold putA; rw [put_swap _ d5 d4 _ _ (Ne.symm e45), put_same])
    (fun x1 x2 x3 x4 x5 v => by unfold putA; rw [put_same])
    (fun b1 b2 b3 b4 b5 => by unfold setL; rw [Array.setIfInBounds_comm _ _ (Ne.symm f15), Array.setIfInBounds_comm _ _ (Ne.symm f14), Array.setIfInBounds_comm _ _ (Ne.symm f13), Array.setIfInBounds_comm _ _ (Ne.symm f12), setb_same])
    (fun b1 b2 b3 b4 b5 => by unfold setL; rw [Array.setIfInBounds_comm _ _ (Ne.symm f25), Array.setIfInBounds_comm _ _ (Ne.symm f24), Array.setIfInBounds_comm _ _ (Ne.symm f23), setb_same])
    (fun b1 b2 b3 b4 b5 => by unfold setL; rw [Array.setIfInBounds_comm _ _ (Ne.symm f35), Array.setIfInBounds_comm _ _ (Ne.symm f34), setb_same])
    (fun b1 b2 b3 b4 b5 => by unfold setL; rw [Array.setIfInBounds_comm _ _ (Ne.symm f45), setb_same])
    (fun b1 b2 b3 b4 b5 => by unfold setL; rw [setb_same])
    ready hend 5 false false false false false rfl y1 y2 y3 y4 y5 [] [] [] [] [] w ⟨(fun h => by cases h), fun _ => rfl⟩ ⟨(fun h => by cases h), fun _ => rfl⟩ ⟨(fun h => by cases h), fun _ => rfl⟩ ⟨(fun h => by cases h), fun _ => rfl⟩ ⟨(fun h => by cases h), fun _ => rfl⟩
    hS.one_nil.one_nil.one_nil.one_nil.one_nil
  have ea : putA a d1 d2 d3 d4 d5 y1 y2 y3 y4 y5 = a := by
    unfold putA
    rw [put_own a d1 y1 hy1, put_own a d2 y2 hy2, put_own a d3 y3 hy3, put_own a d4 y4 hy4, put_own a d5 y5 hy5]
  have el : setL l p1 p2 p3 p4 p5 false false false false false = l := by
    unfold setL
    rw [set_own l p1 _ hl1, set_own l p2 _ hl2, set_own l p3 _ hl3, set_own l p4 _ hl4, set_own l p5 _ hl5]
  rw [ea, el] at key
  exact key
end Go.Proofs.Ytdhnmcdgiddhdab

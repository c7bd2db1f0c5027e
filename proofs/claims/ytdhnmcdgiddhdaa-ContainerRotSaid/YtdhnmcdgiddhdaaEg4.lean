/-
  Texts joined: LenA, Makes, LenOf, PureBits.
-/
import Derived.Test.YtdhnmcdgiddhdaaEg2
import Derived.Test.YtdhnmcdgiddhdaaEg3
import Derived.Test.YtdhnmcdgiddhdaaEg1
import Derived.Deep.RegionHeld3
/-
  lengths.Of: what it asks of the frequencies; how it compares coins.
-/
set_option linter.unusedVariables false
set_option linter.unusedSimpArgs false
namespace Go.Proofs.Ytdhnmcdgiddhdaa
open Go.RowKit
set_option maxRecDepth 100000
def badF (x : Int) : Bool := decide (x < 0) || decide (1073741824 < x)
theorem lenof1_any (x : Int) (w : World) : Calls Try.prog 44 #[.int .i64 x] w fun e w' => e = .returned (.bool (badF x)) ∧ w = w' := by
  unfold badF
  by_cases q1 : x < 0
  · go_enter Try.func44, Try.ntmps44
    go_wp2_with fail
    go_ret
    exact ⟨by simp [q1], rfl⟩
  · by_cases q2 : 1073741824 < x
    · go_enter Try.func44, Try.ntmps44
      go_wp2_with fail
      go_ret
      exact ⟨by simp [q1, q2], rfl⟩
    · go_enter Try.func44, Try.ntmps44
      go_wp2_with fail
      go_ret
      exact ⟨by simp [q1, q2], rfl⟩
def IdxOut (l : List Int) (w : World) (e : Ending) (w' : World) : Prop := ∃ r : Int, e = .returned (.int .i64 r) ∧ (0 ≤ r ↔ l.any badF = true) ∧ w = w'
set_option maxHeartbeats 1000000 in
theorem indexf_any (v : Value) (l : List Int) (w : World) (h : Rd w 1 v l.length (iv l)) (hn : l.length ≤ 1000000) :
    Calls Try.prog 64 #[v, .func (.func 44) #[] #[]] w (IdxOut l w) := by
  obtain ⟨ao, cap, rfl⟩ := h.shape
  have hnl : (l.length : Int) ≤ 1000000 := by omega
  have H := Lib.hid h
  clear h
  go_enter Try.func64, Try.ntmps64
  go_wp2_with fail
  go_loopg [8] l.length (fun m s8 wr => ∃ i : Nat, i + m = l.length ∧ s8 = .int .i64 (i : Int) ∧ Hid ((l.take i).any badF = false) ∧ w = wr)
  case atStart => exact ⟨0, by omega, rfl, Lib.hid rfl, rfl⟩
  case round =>
    obtain ⟨i, hi, rfl, HN, rfl⟩ := hrel
    cases gk with
    | zero =>
      have hil : i = l.length := by omega
      have hz : ¬ (i : Int) < (l.length : Int) := by omega
      have HI := Lib.hid hil
      clear hi hil
      go_wp2_with fail
      go_ret
      refine ⟨-1, rfl, ?_, rfl⟩
      have := HN.out
      rw [HI.out, List.take_length] at this
      rw [this]
      simp
    | succ m =>
      have hil : (i : Int) < (l.length : Int) := by omega
      obtain ⟨x, hx⟩ : ∃ x, l[i]? = some x := ⟨_, List.getElem?_eq_getElem (by omega)⟩
      obtain ⟨ad, rfl, hc⟩ := H.out.at (iv_get l i x hx)
      have htk : (l.take (i + 1)).any badF = badF x := by rw [List.take_add_one, hx, List.any_append, HN.out]; simp
      have HX := Lib.hid (And.intro hx htk)
      clear hx htk
      go_wp2_with fail
      refine (lenof1_any x w).mono ?_
      rintro e w2 ⟨rfl, rfl⟩
      cases hb : badF x with
      | true =>
        have HB := Lib.hid hb
        clear hb
        go_wp2_with fail
        go_ret
        refine ⟨(i : Int), rfl, ?_, rfl⟩
        rw [List.any_eq_true.2 ⟨x, List.mem_of_getElem? HX.out.1, HB.out⟩]
        simp
      | false =>
        have HB := Lib.hid hb
        clear hb
        go_wp2_with fail
        go_roundg m
        case measure => omega
        case rel => exact ⟨i + 1, by omega, by go_num, Lib.hid (by rw [HX.out.2]; exact HB.out), rfl⟩
theorem containsf_any (v : Value) (l : List Int) (w : World) (h : Rd w 1 v l.length (iv l)) (hn : l.length ≤ 1000000) :
    Calls Try.prog 43 #[v, .func (.func 44) #[] #[]] w fun e w' => e = .returned (.bool (l.any badF)) ∧ w = w' := by
  have H := Lib.hid h
  obtain ⟨ao, cap, rfl⟩ := h.shape
  clear h
  go_enter Try.func43, Try.ntmps43
  go_wp2_with fail
  refine (indexf_any _ l w H.out hn).mono ?_
  rintro e w2 ⟨r, rfl, hr, rfl⟩
  cases hb : l.any badF with
  | true =>
    have q : 0 ≤ r := hr.2 hb
    have HB := Lib.hid hb
    clear hr hb
    go_wp2_with fail
    go_ret
    refine ⟨?_, rfl⟩
    rw [HB.out]
    simp [q]
  | false =>
    have q : ¬ 0 ≤ r := fun h => by rw [hr.1 h] at hb; cases hb
    have HB := Lib.hid hb
    clear hr hb
    go_wp2_with fail
    go_ret
    refine ⟨?_, rfl⟩
    rw [HB.out]
    simp [q]
/-- How coins are compared. -/
def cfC (K : Nat → Coin) (p q : Nat) : Int := if (K p).worth < (K q).worth then -1 else if (K q).worth < (K p).worth then 1 else 0
set_option maxHeartbeats 1000000 in
theorem lenof2_any (p q : Nat) (a b : Nat) (w : World) (hp : w.cell? ⟨p, 0, none⟩ = some (.int .i64 (a : Int))) (hq : w.cell? ⟨q, 0, none⟩ = some (.int .i64 (b : Int))) :
    Calls Try.prog 46 #[.pointer (some ⟨p, 0, none⟩), .pointer (some ⟨q, 0, none⟩)] w fun e w' => e = .returned (.int .i64 (if a < b then -1 else if b < a then 1 else 0)) ∧ ∃ k, w' = w.drewN k := by
  by_cases q1 : a < b
  · have q1i : (a : Int) < (b : Int) := by omega
    go_enter Try.func46, Try.ntmps46
    go_wp2_with (first | ((with_reducible refine wpStill_plain ?_ ?_ (fun _ _ => ?_)); rfl; rfl) | (with_reducible refine wpStill_nil ?_) | ((with_reducible refine wp_draw_all (id := 1) mixed ?_ (fun _ _ => ?_)); kernel_rfl) | ((with_reducible refine wp_draw_all (id := 3) mixed ?_ (fun _ _ => ?_)); kernel_rfl))
    go_ret
    exact ⟨rfl, 1, rfl⟩
  · have q1i : ¬ (a : Int) < (b : Int) := by omega
    by_cases q2 : b < a
    · have q2i : (b : Int) < (a : Int) := by omega
      go_enter Try.func46, Try.ntmps46
      go_wp2_with (first | ((with_reducible refine wpStill_plain ?_ ?_ (fun _ _ => ?_)); rfl; rfl) | (with_reducible refine wpStill_nil ?_) | ((with_reducible refine wp_draw_all (id := 1) mixed ?_ (fun _ _ => ?_)); kernel_rfl) | ((with_reducible refine wp_draw_all (id := 3) mixed ?_ (fun _ _ => ?_)); kernel_rfl))
      go_ret
      exact ⟨rfl, 2, rfl⟩
    · have q2i : ¬ (b : Int) < (a : Int) := by omega
      go_enter Try.func46, Try.ntmps46
      go_wp2_with (first | ((with_reducible refine wpStill_plain ?_ ?_ (fun _ _ => ?_)); rfl; rfl) | (with_reducible refine wpStill_nil ?_) | ((with_reducible refine wp_draw_all (id := 1) mixed ?_ (fun _ _ => ?_)); kernel_rfl) | ((with_reducible refine wp_draw_all (id := 3) mixed ?_ (fun _ _ => ?_)); kernel_rfl))
      go_ret
      exact ⟨rfl, 2, rfl⟩
theorem mergeK_map : ∀ a b : List (Nat × Coin), (mergeK keyP a b).map Prod.snd = mergeK Coin.worth (a.map Prod.snd) (b.map Prod.snd) := by
  apply mergeK_ind
  · intro b; rw [mergeK_nil, List.map_nil, mergeK_nil]
  · intro x a; rw [mergeK_nil2, List.map_nil, mergeK_nil2]
  · intro x a y b h1 h2
    rw [mergeK_cons, List.map_cons, List.map_cons, mergeK_cons]
    by_cases h : x.2.worth ≤ y.2.worth
    · rw [if_pos (show keyP x ≤ keyP y from h), if_pos h, List.map_cons, h1, List.map_cons]
    · rw [if_neg (show ¬ keyP x ≤ keyP y from h), if_neg h, List.map_cons, h2, List.map_cons]
theorem level_bounds {l : List Coin} {n M : Nat} (h : ∀ x ∈ l, x.symsLt n ∧ x.worth ≤ M ∧ x.size ≤ 1) : ∀ k, ∀ x ∈ levelC l k, x.symsLt n ∧ x.worth ≤ 2 ^ k * M ∧ x.size ≤ 2 ^ k
  | 0, x, hx => by have := h x hx; simpa using this
  | k + 1, x, hx => by
    rw [levelC] at hx
    have hx2 := (mergeK_perm Coin.worth l (pairsC (levelC l k))).subset hx
    rw [List.mem_append] at hx2
    have hpw : 1 ≤ 2 ^ k := Nat.one_le_two_pow
    rcases hx2 with h1 | h1
    · obtain ⟨a, b, c⟩ := h x h1
      refine ⟨a, Nat.le_trans b ?_, by rw [Nat.pow_succ]; omega⟩
      exact Nat.le_mul_of_pos_left M (Nat.two_pow_pos _)
    · obtain ⟨p, hp⟩ := List.mem_iff_getElem?.1 h1
      have hl := (List.getElem?_eq_some_iff.1 hp).1
      rw [pairsC_length] at hl
      obtain ⟨u, v, e1, e2, e3⟩ := pairsC_get (levelC l k) p (by omega)
      rw [hp] at e3
      cases e3
      obtain ⟨a1, b1, c1⟩ := level_bounds h k u (List.mem_of_getElem? e1)
      obtain ⟨a2, b2, c2⟩ := level_bounds h k v (List.mem_of_getElem? e2)
      refine ⟨⟨a1, a2⟩, ?_, ?_⟩
      · simp only [Coin.worth, Nat.pow_succ]
        rw [Nat.mul_comm (2 ^ k) 2, Nat.mul_assoc]
        omega
      · simp only [Coin.size, Nat.pow_succ]
        omega
end Go.Proofs.Ytdhnmcdgiddhdaa
/-
  A region that draws its order and makes five rows in whatever order.
-/
set_option linter.unusedVariables false
set_option linter.unusedSimpArgs false
namespace Go.Proofs.Ytdhnmcdgiddhdaa
open Go.RowKit
/-- The operation 'make([]T, n)', T of one cell. -/
structure MkOp (P : Program) (ops : Array Oper) (pos : Nat) (d : Option Tmp) (T : TypeId) (n : Nat) (z : Value) (a : Act) : Prop where
  out : ∃ (o : Oper) (t : TypeId) (i : TypeInfo) (l cc : Operand) (kl kc : IntKind), ops[pos]? = some o ∧ o.guard = none ∧ o.dst = d ∧ o.op = Op.makeSlice t l cc ∧ a.eval l = .int kl (n : Int) ∧ a.eval cc = .int kc (n : Int) ∧
    P.underlying t = some (.slice T) ∧ P.info? T = some i ∧ i.zero = some z ∧ i.size = 1 ∧ i.bytes * n ≤ 281474976710656
  len : n ≤ maxLen
  cells : z.cells = #[z]
section
variable {P : Program} {ops : Array Oper} {Q : Exit → Act → World → Prop} {B : Nat} {w0 w : World} {L : List HL}
theorem MkOp.step {pos : Nat} {d : Option Tmp} {T : TypeId} {n : Nat} {z : Value} {a : Act} (h : MkOp P ops pos d T n z a) (hS : St B w0 w L) {fuel : Nat} {listed : Array Bool} {S : World → Prop}
    (hK : ∀ v c' w', RowC T 1 v n (List.replicate n z) c' → St B w0 w' (c' :: L) → S w' ∧ wpAnyH P .any ops Q S fuel (listed.setIfInBounds pos true) (a.put d v) w') :
    wpOp P ops Q pos (fun a' w' => S w' ∧ wpAnyH P .any ops Q S fuel (listed.setIfInBounds pos true) a' w') a w := by
  obtain ⟨o, t, i, l, cc, kl, kc, h1, h2, h3, h4, h5, h6, h7, h8, h9, h10, h11⟩ := h.out
  subst h3
  refine wpOp_step h1 fun K' hK' => ?_
  rw [if_pos (by simp [Region.wanted, h2])]
  obtain ⟨w', hrun, r1, r2⟩ := run_make_full (P := P) w w.heap.size t T i z 1 h7 h8 h9 h10 kl kc n h11 h.len (Nat.le_refl _)
  obtain ⟨c', q1, q2, q3⟩ := RowC.of_owns r1
  have e : (madeCells z.cells (n * 1)).toList = List.replicate n z := by rw [h.cells, Nat.mul_one]; exact toList_madeCells_one z n
  rw [e] at q1
  unfold Oper.wp
  simp [execOp, h4, h5, h6, hrun, Result.andThen]
  refine hK' _ _ (hK _ c' w' q1 ?_)
  refine hS.join (L' := [c']) ⟨⟨r2.os, r2.tape, r2.output, r2.size, fun k hk => r2.block k hk (by simp)⟩, r2.size, ?_, ?_, by simpa using q1.nd⟩
  · intro cc hcc x hx
    simp only [List.mem_singleton] at hcc
    subst hcc
    exact ⟨q2 x hx, (q3 x hx).2⟩
  · intro i j ci cj hi hj _ _ _ _ _
    have h1 := (List.getElem?_eq_some_iff.1 hi).1
    have h2 := (List.getElem?_eq_some_iff.1 hj).1
    simp at h1 h2
    omega
/-- A new one in the place of an empty one. -/
theorem St.fill {c' : HL} (h : St B w0 w (c' :: L)) (i : Nat) (hi : L[i]? = some []) : St B w0 w (L.set i c') := by
  have hil := (List.getElem?_eq_some_iff.1 hi).1
  refine h.reindexN (fun j => if j = i then 0 else j + 1) _ ?_ ?_
  · intro a b _ _ e
    revert e
    show (if a = i then 0 else a + 1) = (if b = i then 0 else b + 1) → a = b
    split <;> split <;> omega
  · intro j c hj
    right
    rw [List.getElem?_set] at hj
    by_cases e : i = j
    · subst e
      rw [if_pos rfl, if_pos hil] at hj
      simpa using hj
    · rw [if_neg e] at hj
      rw [if_neg (fun x => e x.symm), List.getElem?_cons_succ]
      exact hj
/-- A maker that is done, or not yet. -/
def Mkd (b : Bool) (T : TypeId) (n : Nat) (z v : Value) (c : HL) : Prop := (b = true → RowC T 1 v n (List.replicate n z) c) ∧ (b = false → c = [])
theorem makes5 (A : Value → Value → Value → Value → Value → Act) (Ls : Bool → Bool → Bool → Bool → Bool → Array Bool) {p1 p2 p3 p4 p5 : Nat} {d1 d2 d3 d4 d5 : Option Tmp} {T1 T2 T3 T4 T5 : TypeId} {n1 n2 n3 n4 n5 : Nat} {z1 z2 z3 z4 z5 : Value} {m : Nat}
    (m1 : ∀ x1 x2 x3 x4 x5, MkOp P ops p1 d1 T1 n1 z1 (A x1 x2 x3 x4 x5)) (m2 : ∀ x1 x2 x3 x4 x5, MkOp P ops p2 d2 T2 n2 z2 (A x1 x2 x3 x4 x5)) (m3 : ∀ x1 x2 x3 x4 x5, MkOp P ops p3 d3 T3 n3 z3 (A x1 x2 x3 x4 x5)) (m4 : ∀ x1 x2 x3 x4 x5, MkOp P ops p4 d4 T4 n4 z4 (A x1 x2 x3 x4 x5)) (m5 : ∀ x1 x2 x3 x4 x5, MkOp P ops p5 d5 T5 n5 z5 (A x1 x2 x3 x4 x5))
    (u1 : ∀ x1 x2 x3 x4 x5 v, (A x1 x2 x3 x4 x5).put d1 v = A v x2 x3 x4 x5) (u2 : ∀ x1 x2 x3 x4 x5 v, (A x1 x2 x3 x4 x5).put d2 v = A x1 v x3 x4 x5) (u3 : ∀ x1 x2 x3 x4 x5 v, (A x1 x2 x3 x4 x5).put d3 v = A x1 x2 v x4 x5) (u4 : ∀ x1 x2 x3 x4 x5 v, (A x1 x2 x3 x4 x5).put d4 v = A x1 x2 x3 v x5) (u5 : ∀ x1 x2 x3 x4 x5 v, (A x1 x2 x3 x4 x5).put d5 v = A x1 x2 x3 x4 v)
    (s1 : ∀ b1 b2 b3 b4 b5, (Ls b1 b2 b3 b4 b5).setIfInBounds p1 true = Ls true b2 b3 b4 b5) (s2 : ∀ b1 b2 b3 b4 b5, (Ls b1 b2 b3 b4 b5).setIfInBounds p2 true = Ls b1 true b3 b4 b5) (s3 : ∀ b1 b2 b3 b4 b5, (Ls b1 b2 b3 b4 b5).setIfInBounds p3 true = Ls b1 b2 true b4 b5) (s4 : ∀ b1 b2 b3 b4 b5, (Ls b1 b2 b3 b4 b5).setIfInBounds p4 true = Ls b1 b2 b3 true b5) (s5 : ∀ b1 b2 b3 b4 b5, (Ls b1 b2 b3 b4 b5).setIfInBounds p5 true = Ls b1 b2 b3 b4 true)
    (ready : ∀ b1 b2 b3 b4 b5, (b1 && b2 && b3 && b4 && b5) = false → Region.ready .any ops (Ls b1 b2 b3 b4 b5) = (if b1 then [] else [p1]) ++ ((if b2 then [] else [p2]) ++ ((if b3 then [] else [p3]) ++ ((if b4 then [] else [p4]) ++ (if b5 then [] else [p5])))))
    (hend : ∀ x1 x2 x3 x4 x5 c1 c2 c3 c4 c5 w', RowC T1 1 x1 n1 (List.replicate n1 z1) c1 → RowC T2 1 x2 n2 (List.replicate n2 z2) c2 → RowC T3 1 x3 n3 (List.replicate n3 z3) c3 → RowC T4 1 x4 n4 (List.replicate n4 z4) c4 → RowC T5 1 x5 n5 (List.replicate n5 z5) c5 →
      St B w0 w' (c1 :: c2 :: c3 :: c4 :: c5 :: L) → wpAnyH P .any ops Q (fun _ => True) m (Ls true true true true true) (A x1 x2 x3 x4 x5) w') :
    ∀ k b1 b2 b3 b4 b5, (!b1).toNat + (!b2).toNat + (!b3).toNat + (!b4).toNat + (!b5).toNat = k → ∀ x1 x2 x3 x4 x5 c1 c2 c3 c4 c5 w', Mkd b1 T1 n1 z1 x1 c1 → Mkd b2 T2 n2 z2 x2 c2 → Mkd b3 T3 n3 z3 x3 c3 → Mkd b4 T4 n4 z4 x4 c4 → Mkd b5 T5 n5 z5 x5 c5 →
      St B w0 w' (c1 :: c2 :: c3 :: c4 :: c5 :: L) → wpAnyH P .any ops Q (fun _ => True) (m + k) (Ls b1 b2 b3 b4 b5) (A x1 x2 x3 x4 x5) w' := by
  intro k
  induction k with
  | zero =>
    intro b1 b2 b3 b4 b5 hk x1 x2 x3 x4 x5 c1 c2 c3 c4 c5 w' h1 h2 h3 h4 h5 hS
    have e1 : b1 = true := by cases b1 <;> simp at hk ⊢
    have e2 : b2 = true := by cases b2 <;> simp at hk ⊢
    have e3 : b3 = true := by cases b3 <;> simp at hk ⊢
    have e4 : b4 = true := by cases b4 <;> simp at hk ⊢
    have e5 : b5 = true := by cases b5 <;> simp at hk ⊢
    subst e1 e2 e3 e4 e5
    exact hend _ _ _ _ _ _ _ _ _ _ _ (h1.1 rfl) (h2.1 rfl) (h3.1 rfl) (h4.1 rfl) (h5.1 rfl) hS
  | succ k ih =>
    intro b1 b2 b3 b4 b5 hk x1 x2 x3 x4 x5 c1 c2 c3 c4 c5 w' h1 h2 h3 h4 h5 hS
    have hne : (b1 && b2 && b3 && b4 && b5) = false := by
      cases b1 <;> cases b2 <;> cases b3 <;> cases b4 <;> cases b5 <;> first | rfl | simp at hk
    refine wpAnyH_ready (ready b1 b2 b3 b4 b5 hne) ?_ ?_
    · cases b1 <;> cases b2 <;> cases b3 <;> cases b4 <;> cases b5 <;> first | exact absurd hne (by decide) | simp
    · intro j hj
      simp only [List.mem_append] at hj
      rcases hj with hj | hj | hj | hj | hj
      · cases b1 with
        | true => simp at hj
        | false =>
          simp at hj
          subst hj
          refine (m1 x1 x2 x3 x4 x5).step hS fun v c' w'' hr hS' => ⟨trivial, ?_⟩
          rw [u1, s1]
          have he := h1.2 rfl
          subst he
          exact ih true b2 b3 b4 b5 (by simp at hk ⊢; omega) v x2 x3 x4 x5 c' c2 c3 c4 c5 w'' ⟨fun _ => hr, fun h => by cases h⟩ h2 h3 h4 h5 (hS'.fill 0 rfl)
      · cases b2 with
        | true => simp at hj
        | false =>
          simp at hj
          subst hj
          refine (m2 x1 x2 x3 x4 x5).step hS fun v c' w'' hr hS' => ⟨trivial, ?_⟩
          rw [u2, s2]
          have he := h2.2 rfl
          subst he
          exact ih b1 true b3 b4 b5 (by simp at hk ⊢; omega) x1 v x3 x4 x5 c1 c' c3 c4 c5 w'' h1 ⟨fun _ => hr, fun h => by cases h⟩ h3 h4 h5 (hS'.fill 1 rfl)
      · cases b3 with
        | true => simp at hj
        | false =>
          simp at hj
          subst hj
          refine (m3 x1 x2 x3 x4 x5).step hS fun v c' w'' hr hS' => ⟨trivial, ?_⟩
          rw [u3, s3]
          have he := h3.2 rfl
          subst he
          exact ih b1 b2 true b4 b5 (by simp at hk ⊢; omega) x1 x2 v x4 x5 c1 c2 c' c4 c5 w'' h1 h2 ⟨fun _ => hr, fun h => by cases h⟩ h4 h5 (hS'.fill 2 rfl)
      · cases b4 with
        | true => simp at hj
        | false =>
          simp at hj
          subst hj
          refine (m4 x1 x2 x3 x4 x5).step hS fun v c' w'' hr hS' => ⟨trivial, ?_⟩
          rw [u4, s4]
          have he := h4.2 rfl
          subst he
          exact ih b1 b2 b3 true b5 (by simp at hk ⊢; omega) x1 x2 x3 v x5 c1 c2 c3 c' c5 w'' h1 h2 h3 ⟨fun _ => hr, fun h => by cases h⟩ h5 (hS'.fill 3 rfl)
      · cases b5 with
        | true => simp at hj
        | false =>
          simp at hj
          subst hj
          refine (m5 x1 x2 x3 x4 x5).step hS fun v c' w'' hr hS' => ⟨trivial, ?_⟩
          rw [u5, s5]
          have he := h5.2 rfl
          subst he
          exact ih b1 b2 b3 b4 true (by simp at hk ⊢; omega) x1 x2 x3 x4 v c1 c2 c3 c4 c' w'' h1 h2 h3 h4 ⟨fun _ => hr, fun h => by cases h⟩ (hS'.fill 4 rfl)
end
/-! The same, the act and the marks of what is done out of the goal -/
theorem put_same (a : Act) (d : Nat) (x v : Value) : (a.put (some d) x).put (some d) v = a.put (some d) v := by
  simp [Act.put]
theorem setb_same (l : Array Bool) (i : Nat) (b c : Bool) : (l.setIfInBounds i b).setIfInBounds i c = l.setIfInBounds i c := by simp
theorem put_swap (a : Act) (d e : Nat) (x y : Value) (h : d ≠ e) : (a.put (some d) x).put (some e) y = (a.put (some e) y).put (some d) x := by
  simp only [Act.put]
  rw [Array.setIfInBounds_comm _ _ h]
theorem set_own {α : Type} (l : Array α) (i : Nat) (x : α) (h : l[i]? = some x) : l.setIfInBounds i x = l := by
  apply Array.ext_getElem?
  intro j
  rw [Array.getElem?_setIfInBounds]
  by_cases e : i = j
  · subst e
    rw [if_pos rfl, if_pos (Array.getElem?_eq_some_iff.1 h).1, h]
  · rw [if_neg e]
theorem put_own (a : Act) (d : Nat) (x : Value) (h : a.tmps[d]? = some x) : a.put (some d) x = a := by
  simp only [Act.put]
  rw [set_own _ _ _ h]
def putA (a : Act) (d1 d2 d3 d4 d5 : Nat) (x1 x2 x3 x4 x5 : Value) : Act := ((((a.put (some d1) x1).put (some d2) x2).put (some d3) x3).put (some d4) x4).put (some d5) x5
def setL (l : Array Bool) (p1 p2 p3 p4 p5 : Nat) (b1 b2 b3 b4 b5 : Bool) : Array Bool := ((((l.setIfInBounds p1 b1).setIfInBounds p2 b2).setIfInBounds p3 b3).setIfInBounds p4 b4).setIfInBounds p5 b5
theorem put_over (a : Act) (d : Nat) (x v : Value) : (a.put (some d) x).put (some d) v = a.put (some d) v := put_same a d x v
/-- wpAnyH_take, the temporary told. -/
theorem take_d {P : Program} {md : Region.Mode} {ops : Array Oper} {Q : Exit → Act → World → Prop} {S : World → Prop} {i : Nat} {oi : Oper} {fuel : Nat} {listed : Array Bool} {a : Act} {w : World} (d : Nat) (v : Value) (hi : ops[i]? = some oi) (hd : oi.dst = some d)
    (hs : Region.noSelect ops = true) (hf : Region.free md ops listed i = true) (hr : (Region.ready md ops listed).contains i = true)
    (hQ : ∀ c a w, Q (.panic c) (a.put (some d) v) w → Q (.panic c) a w) (hy : YieldsIf P ops S oi v a) (hS : S w)
    (h : wpAnyH P md ops Q S fuel (listed.setIfInBounds i true) (a.put (some d) v) w) : wpAnyH P md ops Q S (fuel + 1) listed a w :=
  wpAnyH_take hi hs hf hr (by rw [hd]; exact hQ) hy hS (by rw [hd]; exact h)
theorem makes5g {P : Program} {ops : Array Oper} {Q : Exit → Act → World → Prop} {B : Nat} {w0 w : World} {L : List HL} {a : Act} {l : Array Bool} (p1 p2 p3 p4 p5 d1 d2 d3 d4 d5 : Nat) {T1 T2 T3 T4 T5 : TypeId} {n1 n2 n3 n4 n5 : Nat} {z1 z2 z3 z4 z5 : Value} (m : Nat)
    (hp : [p1, p2, p3, p4, p5].Nodup) (hd : [d1, d2, d3, d4, d5].Nodup) {y1 y2 y3 y4 y5 : Value}
    (hy1 : a.tmps[d1]? = some y1) (hy2 : a.tmps[d2]? = some y2) (hy3 : a.tmps[d3]? = some y3) (hy4 : a.tmps[d4]? = some y4) (hy5 : a.tmps[d5]? = some y5)
    (hl1 : l[p1]? = some false) (hl2 : l[p2]? = some false) (hl3 : l[p3]? = some false) (hl4 : l[p4]? = some false) (hl5 : l[p5]? = some false)
    (m1 : ∀ x1 x2 x3 x4 x5, MkOp P ops p1 (some d1) T1 n1 z1 (putA a d1 d2 d3 d4 d5 x1 x2 x3 x4 x5)) (m2 : ∀ x1 x2 x3 x4 x5, MkOp P ops p2 (some d2) T2 n2 z2 (putA a d1 d2 d3 d4 d5 x1 x2 x3 x4 x5)) (m3 : ∀ x1 x2 x3 x4 x5, MkOp P ops p3 (some d3) T3 n3 z3 (putA a d1 d2 d3 d4 d5 x1 x2 x3 x4 x5)) (m4 : ∀ x1 x2 x3 x4 x5, MkOp P ops p4 (some d4) T4 n4 z4 (putA a d1 d2 d3 d4 d5 x1 x2 x3 x4 x5)) (m5 : ∀ x1 x2 x3 x4 x5, MkOp P ops p5 (some d5) T5 n5 z5 (putA a d1 d2 d3 d4 d5 x1 x2 x3 x4 x5))
    (ready : ∀ b1 b2 b3 b4 b5, (b1 && b2 && b3 && b4 && b5) = false → Region.ready .any ops (setL l p1 p2 p3 p4 p5 b1 b2 b3 b4 b5) = (if b1 then [] else [p1]) ++ ((if b2 then [] else [p2]) ++ ((if b3 then [] else [p3]) ++ ((if b4 then [] else [p4]) ++ (if b5 then [] else [p5])))))
    (hS : St B w0 w L)
    (hend : ∀ x1 x2 x3 x4 x5 c1 c2 c3 c4 c5 w', RowC T1 1 x1 n1 (List.replicate n1 z1) c1 → RowC T2 1 x2 n2 (List.replicate n2 z2) c2 → RowC T3 1 x3 n3 (List.replicate n3 z3) c3 → RowC T4 1 x4 n4 (List.replicate n4 z4) c4 → RowC T5 1 x5 n5 (List.replicate n5 z5) c5 →
      St B w0 w' (c1 :: c2 :: c3 :: c4 :: c5 :: L) → wpAnyH P .any ops Q (fun _ => True) m (setL l p1 p2 p3 p4 p5 true true true true true) (putA a d1 d2 d3 d4 d5 x1 x2 x3 x4 x5) w') :
    wpAnyH P .any ops Q (fun _ => True) (m + 5) l a w := by
  simp only [List.nodup_cons, List.mem_cons, List.not_mem_nil, or_false, not_or, List.nodup_nil, and_true, not_false_eq_true] at hp hd
  obtain ⟨⟨e12, e13, e14, e15⟩, ⟨e23, e24, e25⟩, ⟨e34, e35⟩, e45⟩ := hd
  obtain ⟨⟨f12, f13, f14, f15⟩, ⟨f23, f24, f25⟩, ⟨f34, f35⟩, f45⟩ := hp
  have key := makes5 (P := P) (ops := ops) (Q := Q) (B := B) (w0 := w0) (L := L) (putA a d1 d2 d3 d4 d5) (setL l p1 p2 p3 p4 p5) (m := m) m1 m2 m3 m4 m5
    (fun x1 x2 x3 x4 x5 v => by unfold putA; rw [put_swap _ d5 d1 _ _ (Ne.symm e15), put_swap _ d4 d1 _ _ (Ne.symm e14), put_swap _ d3 d1 _ _ (Ne.symm e13), put_swap _ d2 d1 _ _ (Ne.symm e12), put_same])
    (fun x1 x2 x3 x4 x5 v => by unfold putA; rw [put_swap _ d5 d2 _ _ (Ne.symm e25), put_swap _ d4 d2 _ _ (Ne.symm e24), put_swap _ d3 d2 _ _ (Ne.symm e23), put_same])
    (fun x1 x2 x3 x4 x5 v => by unfold putA; rw [put_swap _ d5 d3 _ _ (Ne.symm e35), put_swap _ d4 d3 _ _ (Ne.symm e34), put_same])
    (fun x1 x2 x3 x4 x5 v => by unfold putA; rw [put_swap _ d5 d4 _ _ (Ne.symm e45), put_same])
    (fun x1 x2 x3 x4 x5 v => by unfold putA; rw [put_same])
    (fun b1 b2 b3 b4 b5 => by unfold setL; rw [Array.setIfInBounds_comm _ _ (Ne.symm f15), Array.setIfInBounds_comm _ _ (Ne.symm f14), Array.setIfInBounds_comm _ _ (Ne.symm f13), Array.setIfInBounds_comm _ _ (Ne.symm f12), setb_same])
    (fun b1 b2 b3 b4 b5 => by unfold setL; rw [Array.setIfInBounds_comm _ _ (Ne.symm f25), Array.setIfInBounds_comm _ _ (Ne.symm f24), Array.setIfInBounds_comm _ _ (Ne.symm f23), setb_same])
    (fun b1 b2 b3 b4 b5 => by unfold setL; rw [Array.setIfInBounds_comm _ _ (Ne.symm f35), Array.setIfInBounds_comm _ _ (Ne.symm f34), setb_same])
    (fun b1 b2 b3 b4 b5 => by unfold setL; rw [Array.setIfInBounds_comm _ _ (Ne.symm f45), setb_same])
    (fun b1 b2 b3 b4 b5 => by unfold setL; rw [setb_same])
    ready hend 5 false false false false false rfl y1 y2 y3 y4 y5 [] [] [] [] [] w ⟨(fun h => by cases h), fun _ => rfl⟩ ⟨(fun h => by cases h), fun _ => rfl⟩ ⟨(fun h => by cases h), fun _ => rfl⟩ ⟨(fun h => by cases h), fun _ => rfl⟩ ⟨(fun h => by cases h), fun _ => rfl⟩
    hS.one_nil.one_nil.one_nil.one_nil.one_nil
  have ea : putA a d1 d2 d3 d4 d5 y1 y2 y3 y4 y5 = a := by
    unfold putA
    rw [put_own a d1 y1 hy1, put_own a d2 y2 hy2, put_own a d3 y3 hy3, put_own a d4 y4 hy4, put_own a d5 y5 hy5]
  have el : setL l p1 p2 p3 p4 p5 false false false false false = l := by
    unfold setL
    rw [set_own l p1 _ hl1, set_own l p2 _ hl2, set_own l p3 _ hl3, set_own l p4 _ hl4, set_own l p5 _ hl5]
  rw [ea, el] at key
  exact key
end Go.Proofs.Ytdhnmcdgiddhdaa
/-
  Contract of lengths.Of.
-/
set_option linter.unusedVariables false
set_option linter.unusedSimpArgs false
namespace Go.Proofs.Ytdhnmcdgiddhdaa
open Go.RowKit
set_option maxRecDepth 100000
theorem CoinAt.lt {B : Nat} {w0 w : World} {L : List HL} {A : List (Nat × Obj)} {p : Nat} {c : Coin} (h : CoinAt A p c) (hS : St B w0 w L) (hA : A ∈ L) : p < w.heap.size := by
  cases h with
  | leaf h => exact hS.lt hA h
  | pack h _ _ => exact hS.lt hA h
/-- The frequencies as numbers. -/
def fN (l : List Int) : List Nat := l.map Int.toNat
theorem fN_length (l : List Int) : (fN l).length = l.length := by simp [fN]
theorem fN_get (l : List Int) (i : Nat) (x : Int) (h : l[i]? = some x) : (fN l).getD i 0 = x.toNat := by
  unfold fN
  rw [List.getD_eq_getElem?_getD, List.getElem?_map, h]
  rfl
def badL (l : List Int) : Bool := decide (300 < l.length) || l.any badF
def OfOut (l : List Int) (w : World) (e : Ending) (w' : World) : Prop :=
  (badL l = true ∧ e = .returned (.tuple #[.slice none 0 0, .int .i64 7]) ∧ w = w') ∨
  (badL l = false ∧ ∃ v c, e = .returned (.tuple #[v, .int .i64 0]) ∧ RowC 3 1 v l.length (iv (mkI (fun s => (lenP (fN l) s : Int)) l.length)) c ∧ St w.heap.size w w' [c])
/-- The leaves of the first places. -/
def lvs (F : List Nat) (i : Nat) : List Coin := ((List.range i).filter fun s => decide (0 < F.getD s 0)).map fun s => Coin.leaf (F.getD s 0) s
theorem lvs_succ (F : List Nat) (i : Nat) : lvs F (i + 1) = lvs F i ++ if 0 < F.getD i 0 then [Coin.leaf (F.getD i 0) i] else [] := by
  unfold lvs
  rw [List.range_succ, List.filter_append, List.map_append]
  congr 1
  by_cases h : 0 < F.getD i 0
  · rw [if_pos h, List.filter_cons, if_pos (by simpa using h)]; rfl
  · rw [if_neg h, List.filter_cons, if_neg (by simpa using h)]; rfl
theorem lvs_length (F : List Nat) (i : Nat) : (lvs F i).length ≤ i := by
  unfold lvs
  rw [List.length_map]
  exact Nat.le_trans (List.length_filter_le _ _) (by simp)
/-- Coins in memory, each in a block of its own. -/
structure CoinsIn (A : List (Nat × Obj)) (l : List (Nat × Coin)) : Prop where
  at_ : ∀ x ∈ l, CoinAt A x.1 x.2
theorem ok_bad {l : List Int} (h : badL l = false) {i : Nat} {x : Int} (hx : l[i]? = some x) : 0 ≤ x ∧ x ≤ 1073741824 := by
  unfold badL at h
  rw [Bool.or_eq_false_iff] at h
  have := List.any_eq_false.1 h.2 x (List.mem_of_getElem? hx)
  unfold badF at this
  simp at this
  omega
theorem pv_snoc (l : List (Nat × Coin)) (p : Nat) (c : Coin) : pv l ++ [.pointer (some ⟨p, 0, none⟩)] = pv (l ++ [(p, c)]) := by simp [pv]
theorem len_one {F : List Nat} {w s : Nat} (h : leavesP F = [.leaf w s]) : ∀ t, lenP F t = if t = s then 1 else 0 := by
  intro t
  have hp := srt_perm F
  have hl : (srt F).length = 1 := by rw [hp.length_eq, h]; rfl
  have hone : srt F = [.leaf w s] := by rw [h] at hp; exact List.perm_singleton.1 hp
  unfold lenP
  rw [if_pos (by omega)]
  by_cases e : 0 < F.getD t 0
  · rw [if_pos e]
    obtain ⟨i, hi⟩ := srt_has e
    rw [hone] at hi
    have : i = 0 := by
      have := (List.getElem?_eq_some_iff.1 hi).1
      simp at this
      omega
    subst this
    simp at hi
    rw [if_pos hi.2.symm]
  · rw [if_neg e, if_neg]
    rintro rfl
    obtain ⟨t', _, h2, e2⟩ := srt_mem (F := F) (x := .leaf w t) (by rw [hone]; exact List.mem_cons_self ..)
    injection e2 with e3 e4
    subst e4
    exact e h2
theorem len_none {F : List Nat} (h : leavesP F = []) : ∀ t, lenP F t = 0 := by
  intro t
  have hp := srt_perm F
  have hone : srt F = [] := by rw [h] at hp; exact List.perm_nil.1 hp
  unfold lenP
  rw [hone, if_pos (by simp), if_neg]
  intro e
  obtain ⟨i, hi⟩ := srt_has e
  rw [hone] at hi
  simp at hi
/-! The coins by their blocks -/
def kOf (q : List (Nat × Coin)) (p : Nat) : Coin := ((q.find? fun x => x.1 == p).map Prod.snd).getD (.leaf 0 0)
def fOf (q : List (Nat × Coin)) (k : Nat) : Nat := (q.getD k (0, .leaf 0 0)).1
theorem kOf_mem : ∀ {q : List (Nat × Coin)}, (q.map Prod.fst).Nodup → ∀ {x : Nat × Coin}, x ∈ q → kOf q x.1 = x.2
  | [], _, x, h => by cases h
  | y :: q, hn, x, h => by
    rw [List.map_cons, List.nodup_cons] at hn
    unfold kOf
    rw [List.find?_cons]
    by_cases e : y.1 = x.1
    · have e2 : (y.1 == x.1) = true := by simpa using e
      rw [e2]
      rcases List.mem_cons.1 h with rfl | h
      · rfl
      · exact absurd (List.mem_map.2 ⟨x, h, e.symm⟩) hn.1
    · have e2 : (y.1 == x.1) = false := by simpa using e
      rw [e2]
      rcases List.mem_cons.1 h with rfl | h
      · exact absurd rfl e
      · exact kOf_mem hn.2 h
theorem fOf_get {q : List (Nat × Coin)} {k : Nat} (h : k < q.length) : q[k]? = some (fOf q k, (q.getD k (0, .leaf 0 0)).2) := by
  unfold fOf
  rw [List.getD_eq_getElem?_getD, List.getElem?_eq_getElem h]
  rfl
theorem rw_fOf (q : List (Nat × Coin)) : rwC (fOf q) q.length = pv q := by
  apply List.ext_getElem?
  intro k
  by_cases h : k < q.length
  · rw [rwC_get _ _ _ h, pv_get q k _ (fOf_get h)]
  · rw [List.getElem?_eq_none (by rw [rwC_length]; omega), List.getElem?_eq_none (by rw [pv_length]; omega)]
def qOf (q : List (Nat × Coin)) (f : Nat → Nat) : List (Nat × Coin) := (List.range q.length).map fun k => (f k, kOf q (f k))
theorem pv_qOf (q : List (Nat × Coin)) (f : Nat → Nat) : pv (qOf q f) = rwC f q.length := by
  unfold pv qOf rwC
  rw [List.map_map]
  rfl
theorem qOf_length (q : List (Nat × Coin)) (f : Nat → Nat) : (qOf q f).length = q.length := by simp [qOf]
theorem fOf_mem {q : List (Nat × Coin)} {k : Nat} (h : k < q.length) : ∃ x ∈ q, x.1 = fOf q k := ⟨_, List.mem_of_getElem? (fOf_get h), rfl⟩
theorem k_fOf {q : List (Nat × Coin)} (hn : (q.map Prod.fst).Nodup) {k : Nat} (h : k < q.length) : (q.map Prod.snd)[k]? = some (kOf q (fOf q k)) := by
  rw [List.getElem?_map, fOf_get h]
  have := kOf_mem hn (List.mem_of_getElem? (fOf_get h))
  simp only at this
  rw [this]
  rfl
theorem range_zero (n : Nat) : List.range' 0 (n - 0) = List.range n := by rw [Nat.sub_zero, List.range_eq_range']
theorem sorted_coins {q : List (Nat × Coin)} {F : List Nat} (hq : q.map Prod.snd = leavesP F) (hn : (q.map Prod.fst).Nodup) {f' : Nat → Nat} (hp : Pm 0 q.length (fOf q) f') (hs : Srt (fun a b => lexC (kOf q a) (kOf q b)) 0 q.length f') :
    (qOf q f').map Prod.snd = srt F ∧ ∀ x ∈ qOf q f', x ∈ q := by
  have e1 : (qOf q f').map Prod.snd = (List.range q.length).map fun k => kOf q (f' k) := by unfold qOf; rw [List.map_map]; rfl
  have e2 : (List.range q.length).map (fun k => kOf q (fOf q k)) = q.map Prod.snd := by
    apply List.ext_getElem?
    intro k
    by_cases h : k < q.length
    · rw [k_fOf hn h, List.getElem?_map, List.getElem?_range h]; rfl
    · rw [List.getElem?_eq_none (by simpa using h), List.getElem?_eq_none (by simpa using h)]
  constructor
  · rw [e1]
    refine lexC_unique ?_ ?_ (srt_lex F)
    · have h1 := hp.2
      rw [range_zero] at h1
      have h2 := h1.map (kOf q)
      rw [List.map_map, List.map_map] at h2
      refine List.Perm.trans h2 ?_
      have e3 : (List.range q.length).map (kOf q ∘ fOf q) = q.map Prod.snd := e2
      rw [e3, hq]
      exact (srt_perm F).symm
    · rw [List.pairwise_map, List.pairwise_iff_getElem]
      intro i j hi hj hij
      simp only [List.getElem_range]
      simp at hj
      exact hs i j (Nat.zero_le _) hij hj
  · intro x hx
    unfold qOf at hx
    obtain ⟨k, hk, rfl⟩ := List.mem_map.1 hx
    simp at hk
    obtain ⟨j, _, hj, e⟩ := hp.mem (Nat.zero_le k) hk
    obtain ⟨y, hy, hy2⟩ := fOf_mem hj
    have := kOf_mem hn hy
    rw [hy2] at this
    rw [e, this, ← hy2]
    exact hy
theorem lex_trans (K : Nat → Coin) : ∀ x y z, lexC (K x) (K y) → lexC (K y) (K z) → lexC (K x) (K z) := by
  intro x y z h1 h2
  unfold lexC at *
  omega
theorem tell_coins {q : List (Nat × Coin)} {F : List Nat} (hq : q.map Prod.snd = leavesP F) (hn : (q.map Prod.fst).Nodup) : ∀ a b, a < b → b < q.length → Tell (fun a b => lexC (kOf q a) (kOf q b)) (cfC (kOf q)) (fOf q a) (fOf q b) := by
  intro a b hab hb
  have h1 := k_fOf hn (show a < q.length by omega)
  have h2 := k_fOf hn hb
  have hs := leavesP_syms F
  rw [← hq, List.pairwise_iff_getElem] at hs
  obtain ⟨la, ea⟩ := List.getElem?_eq_some_iff.1 h1
  obtain ⟨lb, eb⟩ := List.getElem?_eq_some_iff.1 h2
  have h3 := hs a b la lb hab
  rw [ea, eb] at h3
  unfold Tell cfC lexC
  constructor
  · intro h
    split at h
    · left; assumption
    · split at h <;> omega
  · intro h
    split at h
    · omega
    · omega
theorem level_len (l : List Coin) : ∀ k, (levelC l k).length ≤ 2 * l.length
  | 0 => by rw [levelC]; omega
  | k + 1 => by rw [levelC_length]; have := level_len l k; omega
theorem sumC_cnt_le (s S : Nat) : ∀ l : List Coin, (∀ x ∈ l, x.size ≤ S) → sumC (Coin.cnt s) l ≤ l.length * S
  | [], _ => by simp [sumC]
  | x :: l, h => by
    have h1 := sumC_cnt_le s S l fun y hy => h y (List.mem_cons_of_mem _ hy)
    have h2 := h x (List.mem_cons_self ..)
    have h3 := Coin.cnt_le s x
    simp only [sumC, List.map_cons, List.sum_cons, List.length_cons, Nat.add_mul] at *
    omega
theorem srt_bounds {l : List Int} (h : badL l = false) : ∀ x ∈ srt (fN l), x.symsLt l.length ∧ x.worth ≤ 1073741824 ∧ x.size ≤ 1 := by
  intro x hx
  obtain ⟨s, h1, h2, rfl⟩ := srt_mem hx
  rw [fN_length] at h1
  refine ⟨h1, ?_, Nat.le_refl _⟩
  obtain ⟨y, hy⟩ : ∃ y, l[s]? = some y := ⟨_, List.getElem?_eq_getElem h1⟩
  rw [fN_get l s y hy]
  have := ok_bad h hy
  show y.toNat ≤ _
  omega
set_option maxHeartbeats 8000000 in
theorem lof_bad (l : List Int) (v : Value) (w : World) (hn : l.length ≤ 1000000) (hb : Rd w 1 v l.length (iv l)) (hbad : badL l = true) :
    Calls Try.prog 26 #[v] w (OfOut l w) := by
  obtain ⟨ao, cap, rfl⟩ := hb.shape
  have H := Lib.hid (And.intro hb hbad)
  by_cases q : 300 < l.length
  · have qi : (300 : Int) < (l.length : Int) := by omega
    clear hb hbad
    go_enter Try.func26, Try.ntmps26
    go_wp2_with fail
    go_ret2
    exact .inl ⟨H.out.2, rfl, rfl⟩
  · have qi : ¬ (300 : Int) < (l.length : Int) := by omega
    have hany : l.any badF = true := by
      unfold badL at hbad
      rw [show decide (300 < l.length) = false from by simp; omega, Bool.false_or] at hbad
      exact hbad
    have HA := Lib.hid hany
    clear hb hbad hany
    go_enter Try.func26, Try.ntmps26
    go_wp2_with fail
    refine (containsf_any _ l w H.out.1 hn).mono ?_
    rintro e w2 ⟨rfl, rfl⟩
    rw [HA.out]
    go_wp2_with fail
    go_ret2
    exact .inl ⟨H.out.2, rfl, rfl⟩
set_option maxHeartbeats 8000000 in
theorem of_good (l : List Int) (v : Value) (w : World) (hb : Rd w 1 v l.length (iv l)) (hgood : badL l = false) :
    Calls Try.prog 26 #[v] w (OfOut l w) := by
  obtain ⟨j0, j0a, j0b, j0c, j0d⟩ := info_parts infoInt
  obtain ⟨i0, i0a, i0b, i0c, i0d⟩ := info_parts infoCoinP
  obtain ⟨ao, cap, rfl⟩ := hb.shape
  have hl300 : l.length ≤ 300 := by
    unfold badL at hgood
    rw [Bool.or_eq_false_iff] at hgood
    simpa using hgood.1
  have hany : l.any badF = false := by
    unfold badL at hgood
    rw [Bool.or_eq_false_iff] at hgood
    exact hgood.2
  have hli : ¬ (300 : Int) < (l.length : Int) := by omega
  have hli2 : (l.length : Int) ≤ 300 := by omega
  have H := Lib.hid (And.intro hb (And.intro hgood hany))
  have hS0 := St.init w
  clear hb hgood hany
  go_enter Try.func26, Try.ntmps26
  go_wp2_with fail
  refine (containsf_any _ l w H.out.1 (by omega)).mono ?_
  rintro e w2 ⟨rfl, rfl⟩
  rw [H.out.2.2]
  go_wp2_with (at_make; (refine wpList_mk (n := l.length) 36 j0 (.int .i64 0) _ _ rfl rfl _ _ _ _ rfl rfl Try.underlying36 j0a j0b j0c j0d rfl ?_ ?_ ?_ ?_ hS0 ?_); omega; omega; omega; (unfold maxLen; omega); intro g cl w1 hr hS1)
  have HQ : Hid (RowC 3 1 (.slice (some ⟨g, 0, none⟩) l.length l.length) l.length (iv (mkI (fun s => ((0 : Nat) : Int)) l.length)) cl) := Lib.hid (by
    rw [mkI_const, iv_replicate]
    exact hr)
  have hS2 : St w.heap.size w w1 [[], [], cl] := by
    have := (hS1.one_nil).one_nil
    exact this
  clear hr hS1 hS0
  go_wp2_with fail
  go_loopg [5, 25] l.length (fun m s5 s25 wr => ∃ i : Nat, i + m = l.length ∧ s25 = .int .i64 (i : Int) ∧ ∃ (q : List (Nat × Coin)) (A c : List (Nat × Obj)), RowC 74 1 s5 q.length (pv q) c ∧ St w.heap.size w wr [c, A, cl] ∧ q.length ≤ i ∧ Hid (CoinsIn A q ∧ q.map Prod.snd = lvs (fN l) i ∧ (q.map Prod.fst).Nodup))
  case atStart => exact ⟨0, by omega, rfl, [], [], [], RowC.nil _ _, hS2, by simp, Lib.hid ⟨⟨by simp⟩, rfl, by simp⟩⟩
  case round =>
    clear hS2
    obtain ⟨i, hi, rfl, q, A, c, hr, hS, hqi, HP⟩ := hrel
    obtain ⟨ao5, cap5, rfl⟩ := hr.shape
    cases gk with
    | succ m =>
      have hil : i < l.length := by omega
      have hii : (i : Int) < (l.length : Int) := by omega
      obtain ⟨x, hx⟩ : ∃ x, l[i]? = some x := ⟨_, List.getElem?_eq_getElem hil⟩
      obtain ⟨hx0, hx1⟩ := ok_bad H.out.2.1 hx
      obtain ⟨ad, rfl, hc⟩ := (H.out.1.st hS).at (iv_get l i x hx)
      have hgx := fN_get l i x hx
      have hlv := lvs_succ (fN l) i
      rw [hgx] at hlv
      have HV := Lib.hid (And.intro hgx hlv)
      clear hgx hlv hx
      by_cases hpos : 0 < x
      · have hS3 := ((hS.alloc (.cells #[.int .i64 x, .int .i64 (i : Int), .pointer none, .pointer none] 76)).pick [0, 2, 1, 3] (by decide) [_, A, c, cl] rfl).merge
        have hS4 := hS3.pick [1, 0, 2] (by decide) [c, _, cl] rfl
        have hnew : ∀ y ∈ q, y.1 < wr.heap.size := by
          intro y hy
          exact (HP.out.1.at_ y hy).lt hS (by simp)
        have HN := Lib.hid hnew
        clear hS3 hnew
        go_wp2_with (at_builtin; (refine wpList_app1g 0 73 i0 (.pointer none) _ _ _ rfl rfl rfl rfl Try.underlying73 i0a i0b i0c i0d rfl hS4 rfl hr rfl ?_ ?_ ?_ ?_); (focus (simp; done)); (unfold maxLen; omega); omega; intro v1 c1 w5 hr1 hS5)
        go_roundg m
        case measure => omega
        case rel =>
          rw [pv_snoc q wr.heap.size (.leaf x.toNat i)] at hr1
          refine ⟨i + 1, by omega, by go_num, q ++ [(wr.heap.size, .leaf x.toNat i)], _, c1, by simpa using hr1, hS5, by simp; omega, Lib.hid ⟨⟨?_⟩, ?_, ?_⟩⟩
          · intro y hy
            rcases List.mem_append.1 hy with h | h
            · exact (HP.out.1.at_ y h).mono (List.subset_append_right _ _)
            · simp at h
              subst h
              refine .leaf (List.mem_append_left _ ?_)
              rw [show ((x.toNat : Nat) : Int) = x from by omega]
              simp
          · rw [List.map_append, HP.out.2.1, HV.out.2, if_pos (by omega)]
            rfl
          · rw [List.map_append, List.nodup_append]
            refine ⟨HP.out.2.2, by simp, ?_⟩
            intro a ha b hb
            simp at hb
            subst hb
            obtain ⟨y, hy, rfl⟩ := List.mem_map.1 ha
            have := HN.out y hy
            omega
      · go_wp2_with fail
        go_roundg m
        case measure => omega
        case rel =>
          refine ⟨i + 1, by omega, by go_num, q, A, c, hr, hS, by omega, Lib.hid ⟨HP.out.1, ?_, HP.out.2.2⟩⟩
          rw [HV.out.2, if_neg (by omega), List.append_nil]
          exact HP.out.2.1
    | zero =>
      have hil : i = l.length := by omega
      have hz : ¬ (i : Int) < (l.length : Int) := by omega
      have hlv : q.map Prod.snd = leavesP (fN l) := by
        rw [HP.out.2.1, hil, ← fN_length l]
        rfl
      have HI := Lib.hid (And.intro hil hlv)
      have hro := HQ.out
      clear hi hil hlv
      by_cases q0 : q.length = 0
      · have hq : q = [] := List.eq_nil_of_length_eq_zero q0
        subst hq
        have hnone := len_none HI.out.2.symm
        have HN := Lib.hid hnone
        clear hnone q0
        go_wp2_with fail
        go_ret2
        refine .inr ⟨H.out.2.1, _, cl, rfl, ?_, hS.pick [2] (by decide) [cl] rfl⟩
        rw [mkI_congr _ (fun s => ((0 : Nat) : Int)) _ (fun s _ => by rw [HN.out s])]
        exact hro
      · by_cases q1 : q.length = 1
        · obtain ⟨⟨p, cn⟩, hq⟩ : ∃ x, q = [x] := by
            match q, q1 with
            | [x], _ => exact ⟨x, rfl⟩
          subst hq
          have hlp := HI.out.2
          have hmem : cn ∈ leavesP (fN l) := by rw [← hlp]; simp
          obtain ⟨s, hs1, hs2, rfl⟩ := srt_mem ((srt_perm (fN l)).symm.subset hmem)
          rw [fN_length] at hs1
          have hone := len_one (F := fN l) (w := (fN l).getD s 0) (s := s) hlp.symm
          have HN := Lib.hid hone
          have hsi : (s : Int) < (l.length : Int) := by omega
          obtain ⟨g5, hg5⟩ := hr.head (by simp)
          subst hg5
          have hcp := hr.cellAt hS 0 rfl (pv_get [(p, Coin.leaf ((fN l).getD s 0) s)] 0 _ rfl)
          have hcs : wr.cell? ⟨p, 1, none⟩ = some (.int .i64 (s : Int)) := by
            have := HP.out.1.at_ (p, Coin.leaf ((fN l).getD s 0) s) (by simp)
            cases this with
            | leaf h => exact hS.cell 1 rfl h 1
          have hlo := hro.cellAt hS 2 rfl (iv_get _ s _ (mkI_get _ _ s hs1))
          have hfr := hro.freeAt hS 2 rfl s
          have HF : Hid (∃ c', RowC 3 1 (.slice (some ⟨g, 0, none⟩) l.length l.length) l.length (iv (mkI (fun t => (lenP (fN l) t : Int)) l.length)) c' ∧ St w.heap.size w (wr.setCell ⟨g, s, none⟩ (.int .i64 1)) [c']) := Lib.hid (by
            obtain ⟨c', h1, h2⟩ := hro.store hS 2 rfl rfl s (.int .i64 1)
            refine ⟨c', ?_, h2.pick [2] (by decide) [c'] rfl⟩
            rw [iv_set, mkI_set] at h1
            rw [mkI_congr _ _ _ (fun t ht => ?_)]
            · exact h1
            · rw [HN.out t]
              by_cases e : t = s
              · rw [if_pos e, if_pos e]; rfl
              · rw [if_neg e, if_neg e])
          clear hlp hmem hone hro q0 q1
          go_wp2_with fail
          go_ret2
          obtain ⟨c', h1, h2⟩ := HF.out
          exact .inr ⟨H.out.2.1, _, c', rfl, h1, h2⟩
        · have hq2 : 2 ≤ q.length := by omega
          have hq2i : ¬ (q.length : Int) < 2 := by omega
          have hq1i : ((q.length : Int) == 1) = false := by rw [beq_eq_false_iff_ne]; omega
          obtain ⟨g5, hg5⟩ := hr.head (by omega)
          subst hg5
          have HRO := Lib.hid hro
          have HR5 := Lib.hid (And.intro hr hS)
          clear q0 q1 hro hr hS HQ
          have hcmp : CmpC w.heap.size w [A, cl] (fun p => ∃ x ∈ q, x.1 = p) (cfC (kOf q)) := by
            rintro wx cd hSx _ _ ⟨x, hx, rfl⟩ ⟨y, hy, rfl⟩
            have e1 := kOf_mem HP.out.2.2 hx
            have e2 := kOf_mem HP.out.2.2 hy
            have := lenof2_any x.1 y.1 x.2.worth y.2.worth wx ((HP.out.1.at_ x hx).worth hSx 1 rfl) ((HP.out.1.at_ y hy).worth hSx 1 rfl)
            unfold cfC
            rw [e1, e2]
            exact this
          have HC := Lib.hid (stableC_any (n := q.length) (g := g5) (cap := cap5) (lex_trans (kOf q)) hcmp (fOf q) c wr (by unfold RowSC; rw [rw_fOf]; exact HR5.out.1) HR5.out.2 (by have := HI.out.1; omega) (fun k hk => fOf_mem hk) (tell_coins HI.out.2 HP.out.2.2))
          clear hcmp
          go_wp2_with fail
          refine HC.out.mono ?_
          rintro e w3 ⟨rfl, f', c5, p1, p2, p3, p4⟩
          obtain ⟨k1, k2⟩ := sorted_coins HI.out.2 HP.out.2.2 p1 p2
          have hq2l : (qOf q f').length = q.length := qOf_length q f'
          have hrow : RowC 74 1 (.slice (some ⟨g5, 0, none⟩) q.length cap5) (qOf q f').length (pv (qOf q f')) c5 := by rw [pv_qOf, hq2l]; exact p3
          have hci : CoinsIn A (qOf q f') := ⟨fun x hx => HP.out.1.at_ x (k2 x hx)⟩
          have H3 := Lib.hid (And.intro k1 (And.intro hq2l (And.intro hci (And.intro hrow p4))))
          clear p1 p2 p3 p4 k1 k2 hq2l hrow hci HC HR5
          generalize qOf q f' = q2 at *
          have hqn : q.length ≤ 300 := by have := HI.out.1; omega
          have hSR := srt_sorted (fN l)
          have hSl : (srt (fN l)).length = q.length := by rw [← H3.out.1, List.length_map]; exact H3.out.2.1
          have HSL := Lib.hid (And.intro hSR (And.intro hSl (level_bounds (srt_bounds H.out.2.1))))
          clear hSR hSl
          -- the leaves, read wherever nothing old is turned
          have hS4 := H3.out.2.2.2.2
          have HRL : Hid (Rd w3 1 (.slice (some ⟨g5, 0, none⟩) q.length cap5) q2.length (pv q2)) := Lib.hid (H3.out.2.2.2.1.rd hS4 0 rfl)
          go_wp2_with fail
          go_loopg [8, 58] 14 (fun m s8 s58 wr => ∃ k : Nat, k + m = 14 ∧ s58 = .int .i64 (k : Int) ∧ ∃ (lk : List (Nat × Coin)) (A' c8 : List (Nat × Obj)), RowC 74 1 s8 lk.length (pv lk) c8 ∧ St w.heap.size w wr [c8, A', cl] ∧ lk.length ≤ 600 ∧ Hid (CoinsIn A' lk ∧ lk.map Prod.snd = levelC (srt (fN l)) k ∧ CoinsIn A' q2) ∧ Hid (Rd wr 1 (.slice (some ⟨g5, 0, none⟩) q.length cap5) q2.length (pv q2)))
          case atStart => exact ⟨0, by omega, rfl, q2, A, c5, by rw [← H3.out.2.1] at *; exact H3.out.2.2.2.1, hS4, by have := H3.out.2.1; omega, Lib.hid ⟨H3.out.2.2.1, H3.out.1, H3.out.2.2.1⟩, HRL⟩
          case round =>
            clear hS4 HRL
            obtain ⟨k, hk, rfl, lk, A', c8, hr8, hS, hlk, HL, HRL⟩ := hrel
            obtain ⟨ao8, cap8, rfl⟩ := hr8.shape
            cases gk with
            | succ m =>
              have hki : (k : Int) < 14 := by omega
              have hk14 : k < 14 := by omega
              generalize wr = wa at *
              have hrd : Reads wa lk := by
                intro x hx
                refine ⟨(HL.out.1.at_ x hx).worth hS 1 rfl, ?_⟩
                have h1 := (HSL.out.2.2 k x.2 (by rw [← HL.out.2.1]; exact List.mem_map.2 ⟨x, hx, rfl⟩)).2.1
                have h2 : 2 ^ k ≤ 2 ^ 14 := Nat.pow_le_pow_right (by omega) (by omega)
                have h3 := Nat.mul_le_mul_right 1073741824 h2
                omega
              have HRK := Lib.hid (And.intro hrd (hr8.rd hS 0 rfl))
              have HR8 := Lib.hid (And.intro hr8 hS)
              have hlki : (lk.length : Int) ≤ 600 := by omega
              clear hrd hr8 hS
              go_wp2_with fail
              go_loopg [9, 10] (lk.length / 2) (fun m2 s9 s10 wz => ∃ j : Nat, j + m2 = lk.length / 2 ∧ s10 = .int .i64 (2 * (j : Int)) ∧ ∃ (pq : List (Nat × Coin)) (A2 cq : List (Nat × Obj)), RowC 74 1 s9 pq.length (pv pq) cq ∧ St wa.heap.size wa wz [cq, A2] ∧ Hid (pq.length = j) ∧ Hid (CoinsIn (A2 ++ A') pq ∧ pq.map Prod.snd = (pairsC (lk.map Prod.snd)).take j))
              case atStart => exact ⟨0, by omega, rfl, [], [], [], RowC.nil _ _, ((St.init wa).one_nil).one_nil, Lib.hid rfl, Lib.hid ⟨⟨by simp⟩, by simp⟩⟩
              case round =>
                obtain ⟨j, hj, rfl, pq, A2, cq, hr9, hSz, HPL, HP9⟩ := hrel
                obtain ⟨ao9, cap9, rfl⟩ := hr9.shape
                cases gk with
                | succ m2 =>
                  have hj1 : 2 * j + 1 < lk.length := by omega
                  have hji : 2 * (j : Int) + 1 < (lk.length : Int) := by omega
                  obtain ⟨x, hx⟩ : ∃ x, lk[2 * j]? = some x := ⟨_, List.getElem?_eq_getElem (by omega)⟩
                  obtain ⟨y, hy⟩ : ∃ y, lk[2 * j + 1]? = some y := ⟨_, List.getElem?_eq_getElem hj1⟩
                  obtain ⟨ad8, rfl, hca1⟩ := (HRK.out.2).at (pv_get lk (2 * j) x hx)
                  obtain ⟨ad8', e8, hca2⟩ := (HRK.out.2).at (pv_get lk (2 * j + 1) y hy)
                  cases e8
                  replace hca2 : wa.cell? ⟨ad8.block, ad8.off + (2 * j + 1), none⟩ = some (.pointer (some ⟨y.1, 0, none⟩)) := hca2
                  obtain ⟨hxa1, hx2⟩ := HRK.out.1 x (List.mem_of_getElem? hx)
                  obtain ⟨hya1, hy2⟩ := HRK.out.1 y (List.mem_of_getElem? hy)
                  obtain ⟨u, v2, g1, g2, g3⟩ := pairsC_get (lk.map Prod.snd) j (by simpa using hj1)
                  rw [List.getElem?_map, hx] at g1
                  rw [List.getElem?_map, hy] at g2
                  simp only [Option.map_some, Option.some.injEq] at g1 g2
                  subst g1
                  subst g2
                  have HG := Lib.hid (And.intro g3 (And.intro hx hy))
                  have hS5 := ((hSz.drew.alloc (.cells #[.int .i64 ((x.2.worth : Int) + (y.2.worth : Int)), .int .i64 0, .pointer (some ⟨x.1, 0, none⟩), .pointer (some ⟨y.1, 0, none⟩)] 76)).pick [0, 2, 1] (by decide) [_, A2, cq] rfl).merge.pick [1, 0] (by decide) [cq, _] rfl
                  have hpl : pq.length ≤ 600 := by have := HPL.out; omega
                  clear g3 hx hy
                  have HCELL : Hid (∀ w', Below wa.heap.size wa w' → w'.cell? (ad8.add (2 * j)) = some (.pointer (some ⟨x.1, 0, none⟩)) ∧ w'.cell? ⟨ad8.block, ad8.off + (2 * j + 1), none⟩ = some (.pointer (some ⟨y.1, 0, none⟩)) ∧ w'.cell? ⟨x.1, 0, none⟩ = some (.int .i64 (x.2.worth : Int)) ∧ w'.cell? ⟨y.1, 0, none⟩ = some (.int .i64 (y.2.worth : Int))) := Lib.hid (by
                    intro w' hw'
                    refine ⟨?_, ?_, ?_, ?_⟩
                    · rw [hw'.cell (World.block_lt_of_cell? _ _ hca1)]; exact hca1
                    · rw [hw'.cell (World.block_lt_of_cell? _ _ hca2)]; exact hca2
                    · rw [hw'.cell (World.block_lt_of_cell? _ _ hxa1)]; exact hxa1
                    · rw [hw'.cell (World.block_lt_of_cell? _ _ hya1)]; exact hya1)
                  clear hca1 hca2 hxa1 hya1
                  go_wp2_with fail
                  have hj0 : (0 : Int) ≤ 2 * (j : Int) := by omega
                  have hj1 : 2 * (j : Int) < (lk.length : Int) := by omega
                  have hj2 : (0 : Int) ≤ 2 * (j : Int) + 1 := by omega
                  have hj3 : 2 * (j : Int) + 1 < (lk.length : Int) := hji
                  have htn : (2 * (j : Int)).toNat = 2 * j := by omega
                  have htn1 : (2 * (j : Int) + 1).toNat = 2 * j + 1 := by omega
                  have hwr1 : IntKind.i64.wrap (2 * (j : Int) + 1) = 2 * (j : Int) + 1 := IntWalk.i64_in _ (by omega)
                  have hwr2 : IntKind.i64.wrap ((x.2.worth : Int) + (y.2.worth : Int)) = (x.2.worth : Int) + (y.2.worth : Int) := IntWalk.i64_in _ (by omega)
                  refine wp_region_held_drew (S := fun w' => Below wa.heap.size wa w') mixed hSz.below.drew (fun hSS => ?_)
                  refine take_d (i := 0) 67 (.slice ao9 pq.length cap9) rfl rfl (by kernel_rfl) (by kernel_rfl) (by kernel_rfl) (fun _ _ _ h => h) (Or.inl ⟨by rfl, ?_⟩) hSS ?_
                  (focus (intro w' hw'; have hb1 := HCELL.out w' hw'; obtain ⟨hb1, hb2, hb3, hb4⟩ := hb1; first | (go_simp; done) | (go_simp; simp [hj0, hj1, hj2, hj3, htn, htn1, hwr1, hwr2]; done)))
                  simp only [Act.put, List.setIfInBounds_toArray, List.set_cons_zero, List.set_cons_succ]
                  refine take_d (i := 1) 68 (.slice (some ad8) lk.length cap8) rfl rfl (by kernel_rfl) (by kernel_rfl) (by kernel_rfl) (fun _ _ _ h => h) (Or.inl ⟨by rfl, ?_⟩) hSS ?_
                  (focus (intro w' hw'; have hb1 := HCELL.out w' hw'; obtain ⟨hb1, hb2, hb3, hb4⟩ := hb1; first | (go_simp; done) | (go_simp; simp [hj0, hj1, hj2, hj3, htn, htn1, hwr1, hwr2]; done)))
                  simp only [Act.put, List.setIfInBounds_toArray, List.set_cons_zero, List.set_cons_succ]
                  refine take_d (i := 2) 69 (.int .i64 (2 * (j : Int))) rfl rfl (by kernel_rfl) (by kernel_rfl) (by kernel_rfl) (fun _ _ _ h => h) (Or.inl ⟨by rfl, ?_⟩) hSS ?_
                  (focus (intro w' hw'; have hb1 := HCELL.out w' hw'; obtain ⟨hb1, hb2, hb3, hb4⟩ := hb1; first | (go_simp; done) | (go_simp; simp [hj0, hj1, hj2, hj3, htn, htn1, hwr1, hwr2]; done)))
                  simp only [Act.put, List.setIfInBounds_toArray, List.set_cons_zero, List.set_cons_succ]
                  refine take_d (i := 3) 70 (.pointer (some (ad8.add (2 * j)))) rfl rfl (by kernel_rfl) (by kernel_rfl) (by kernel_rfl) (fun _ _ _ h => h) (Or.inl ⟨by rfl, ?_⟩) hSS ?_
                  (focus (intro w' hw'; have hb1 := HCELL.out w' hw'; obtain ⟨hb1, hb2, hb3, hb4⟩ := hb1; first | (go_simp; done) | (go_simp; simp [hj0, hj1, hj2, hj3, htn, htn1, hwr1, hwr2]; done)))
                  simp only [Act.put, List.setIfInBounds_toArray, List.set_cons_zero, List.set_cons_succ]
                  refine take_d (i := 4) 71 (.pointer (some ⟨x.1, 0, none⟩)) rfl rfl (by kernel_rfl) (by kernel_rfl) (by kernel_rfl) (fun _ _ _ h => h) (Or.inl ⟨by rfl, ?_⟩) hSS ?_
                  (focus (intro w' hw'; have hb1 := HCELL.out w' hw'; obtain ⟨hb1, hb2, hb3, hb4⟩ := hb1; first | (go_simp; done) | (go_simp; simp [hj0, hj1, hj2, hj3, htn, htn1, hwr1, hwr2]; done)))
                  simp only [Act.put, List.setIfInBounds_toArray, List.set_cons_zero, List.set_cons_succ]
                  refine take_d (i := 5) 72 (.pointer (some ⟨x.1, 0, none⟩)) rfl rfl (by kernel_rfl) (by kernel_rfl) (by kernel_rfl) (fun _ _ _ h => h) (Or.inl ⟨by rfl, ?_⟩) hSS ?_
                  (focus (intro w' hw'; have hb1 := HCELL.out w' hw'; obtain ⟨hb1, hb2, hb3, hb4⟩ := hb1; first | (go_simp; done) | (go_simp; simp [hj0, hj1, hj2, hj3, htn, htn1, hwr1, hwr2]; done)))
                  simp only [Act.put, List.setIfInBounds_toArray, List.set_cons_zero, List.set_cons_succ]
                  refine take_d (i := 6) 73 (.pointer (some ⟨x.1, 0, none⟩)) rfl rfl (by kernel_rfl) (by kernel_rfl) (by kernel_rfl) (fun _ _ _ h => h) (Or.inl ⟨by rfl, ?_⟩) hSS ?_
                  (focus (intro w' hw'; have hb1 := HCELL.out w' hw'; obtain ⟨hb1, hb2, hb3, hb4⟩ := hb1; first | (go_simp; done) | (go_simp; simp [hj0, hj1, hj2, hj3, htn, htn1, hwr1, hwr2]; done)))
                  simp only [Act.put, List.setIfInBounds_toArray, List.set_cons_zero, List.set_cons_succ]
                  refine take_d (i := 7) 74 (.int .i64 (x.2.worth : Int)) rfl rfl (by kernel_rfl) (by kernel_rfl) (by kernel_rfl) (fun _ _ _ h => h) (Or.inl ⟨by rfl, ?_⟩) hSS ?_
                  (focus (intro w' hw'; have hb1 := HCELL.out w' hw'; obtain ⟨hb1, hb2, hb3, hb4⟩ := hb1; first | (go_simp; done) | (go_simp; simp [hj0, hj1, hj2, hj3, htn, htn1, hwr1, hwr2]; done)))
                  simp only [Act.put, List.setIfInBounds_toArray, List.set_cons_zero, List.set_cons_succ]
                  refine take_d (i := 8) 75 (.slice (some ad8) lk.length cap8) rfl rfl (by kernel_rfl) (by kernel_rfl) (by kernel_rfl) (fun _ _ _ h => h) (Or.inl ⟨by rfl, ?_⟩) hSS ?_
                  (focus (intro w' hw'; have hb1 := HCELL.out w' hw'; obtain ⟨hb1, hb2, hb3, hb4⟩ := hb1; first | (go_simp; done) | (go_simp; simp [hj0, hj1, hj2, hj3, htn, htn1, hwr1, hwr2]; done)))
                  simp only [Act.put, List.setIfInBounds_toArray, List.set_cons_zero, List.set_cons_succ]
                  refine take_d (i := 9) 76 (.int .i64 (2 * (j : Int))) rfl rfl (by kernel_rfl) (by kernel_rfl) (by kernel_rfl) (fun _ _ _ h => h) (Or.inl ⟨by rfl, ?_⟩) hSS ?_
                  (focus (intro w' hw'; have hb1 := HCELL.out w' hw'; obtain ⟨hb1, hb2, hb3, hb4⟩ := hb1; first | (go_simp; done) | (go_simp; simp [hj0, hj1, hj2, hj3, htn, htn1, hwr1, hwr2]; done)))
                  simp only [Act.put, List.setIfInBounds_toArray, List.set_cons_zero, List.set_cons_succ]
                  refine take_d (i := 10) 77 (.int .i64 (2 * (j : Int) + 1)) rfl rfl (by kernel_rfl) (by kernel_rfl) (by kernel_rfl) (fun _ _ _ h => h) (Or.inl ⟨by rfl, ?_⟩) hSS ?_
                  (focus (intro w' hw'; have hb1 := HCELL.out w' hw'; obtain ⟨hb1, hb2, hb3, hb4⟩ := hb1; first | (go_simp; done) | (go_simp; simp [hj0, hj1, hj2, hj3, htn, htn1, hwr1, hwr2]; done)))
                  simp only [Act.put, List.setIfInBounds_toArray, List.set_cons_zero, List.set_cons_succ]
                  refine take_d (i := 11) 78 (.pointer (some (ad8.add (2 * j + 1)))) rfl rfl (by kernel_rfl) (by kernel_rfl) (by kernel_rfl) (fun _ _ _ h => h) (Or.inl ⟨by rfl, ?_⟩) hSS ?_
                  (focus (intro w' hw'; have hb1 := HCELL.out w' hw'; obtain ⟨hb1, hb2, hb3, hb4⟩ := hb1; first | (go_simp; done) | (go_simp; simp [hj0, hj1, hj2, hj3, htn, htn1, hwr1, hwr2]; done)))
                  simp only [Act.put, List.setIfInBounds_toArray, List.set_cons_zero, List.set_cons_succ]
                  refine take_d (i := 12) 79 (.pointer (some ⟨y.1, 0, none⟩)) rfl rfl (by kernel_rfl) (by kernel_rfl) (by kernel_rfl) (fun _ _ _ h => h) (Or.inl ⟨by rfl, ?_⟩) hSS ?_
                  (focus (intro w' hw'; have hb1 := HCELL.out w' hw'; obtain ⟨hb1, hb2, hb3, hb4⟩ := hb1; first | (go_simp; done) | (go_simp; simp [hj0, hj1, hj2, hj3, htn, htn1, hwr1, hwr2]; done)))
                  simp only [Act.put, List.setIfInBounds_toArray, List.set_cons_zero, List.set_cons_succ]
                  refine take_d (i := 13) 80 (.pointer (some ⟨y.1, 0, none⟩)) rfl rfl (by kernel_rfl) (by kernel_rfl) (by kernel_rfl) (fun _ _ _ h => h) (Or.inl ⟨by rfl, ?_⟩) hSS ?_
                  (focus (intro w' hw'; have hb1 := HCELL.out w' hw'; obtain ⟨hb1, hb2, hb3, hb4⟩ := hb1; first | (go_simp; done) | (go_simp; simp [hj0, hj1, hj2, hj3, htn, htn1, hwr1, hwr2]; done)))
                  simp only [Act.put, List.setIfInBounds_toArray, List.set_cons_zero, List.set_cons_succ]
                  refine take_d (i := 14) 81 (.pointer (some ⟨y.1, 0, none⟩)) rfl rfl (by kernel_rfl) (by kernel_rfl) (by kernel_rfl) (fun _ _ _ h => h) (Or.inl ⟨by rfl, ?_⟩) hSS ?_
                  (focus (intro w' hw'; have hb1 := HCELL.out w' hw'; obtain ⟨hb1, hb2, hb3, hb4⟩ := hb1; first | (go_simp; done) | (go_simp; simp [hj0, hj1, hj2, hj3, htn, htn1, hwr1, hwr2]; done)))
                  simp only [Act.put, List.setIfInBounds_toArray, List.set_cons_zero, List.set_cons_succ]
                  refine take_d (i := 15) 82 (.int .i64 (y.2.worth : Int)) rfl rfl (by kernel_rfl) (by kernel_rfl) (by kernel_rfl) (fun _ _ _ h => h) (Or.inl ⟨by rfl, ?_⟩) hSS ?_
                  (focus (intro w' hw'; have hb1 := HCELL.out w' hw'; obtain ⟨hb1, hb2, hb3, hb4⟩ := hb1; first | (go_simp; done) | (go_simp; simp [hj0, hj1, hj2, hj3, htn, htn1, hwr1, hwr2]; done)))
                  simp only [Act.put, List.setIfInBounds_toArray, List.set_cons_zero, List.set_cons_succ]
                  refine take_d (i := 16) 83 (.int .i64 ((x.2.worth : Int) + (y.2.worth : Int))) rfl rfl (by kernel_rfl) (by kernel_rfl) (by kernel_rfl) (fun _ _ _ h => h) (Or.inl ⟨by rfl, ?_⟩) hSS ?_
                  (focus (intro w' hw'; have hb1 := HCELL.out w' hw'; obtain ⟨hb1, hb2, hb3, hb4⟩ := hb1; first | (go_simp; done) | (go_simp; simp [hj0, hj1, hj2, hj3, htn, htn1, hwr1, hwr2]; done)))
                  simp only [Act.put, List.setIfInBounds_toArray, List.set_cons_zero, List.set_cons_succ]
                  refine take_d (i := 17) 84 (.slice (some ad8) lk.length cap8) rfl rfl (by kernel_rfl) (by kernel_rfl) (by kernel_rfl) (fun _ _ _ h => h) (Or.inl ⟨by rfl, ?_⟩) hSS ?_
                  (focus (intro w' hw'; have hb1 := HCELL.out w' hw'; obtain ⟨hb1, hb2, hb3, hb4⟩ := hb1; first | (go_simp; done) | (go_simp; simp [hj0, hj1, hj2, hj3, htn, htn1, hwr1, hwr2]; done)))
                  simp only [Act.put, List.setIfInBounds_toArray, List.set_cons_zero, List.set_cons_succ]
                  refine take_d (i := 18) 85 (.int .i64 (2 * (j : Int))) rfl rfl (by kernel_rfl) (by kernel_rfl) (by kernel_rfl) (fun _ _ _ h => h) (Or.inl ⟨by rfl, ?_⟩) hSS ?_
                  (focus (intro w' hw'; have hb1 := HCELL.out w' hw'; obtain ⟨hb1, hb2, hb3, hb4⟩ := hb1; first | (go_simp; done) | (go_simp; simp [hj0, hj1, hj2, hj3, htn, htn1, hwr1, hwr2]; done)))
                  simp only [Act.put, List.setIfInBounds_toArray, List.set_cons_zero, List.set_cons_succ]
                  refine take_d (i := 19) 86 (.pointer (some (ad8.add (2 * j)))) rfl rfl (by kernel_rfl) (by kernel_rfl) (by kernel_rfl) (fun _ _ _ h => h) (Or.inl ⟨by rfl, ?_⟩) hSS ?_
                  (focus (intro w' hw'; have hb1 := HCELL.out w' hw'; obtain ⟨hb1, hb2, hb3, hb4⟩ := hb1; first | (go_simp; done) | (go_simp; simp [hj0, hj1, hj2, hj3, htn, htn1, hwr1, hwr2]; done)))
                  simp only [Act.put, List.setIfInBounds_toArray, List.set_cons_zero, List.set_cons_succ]
                  refine take_d (i := 20) 87 (.pointer (some ⟨x.1, 0, none⟩)) rfl rfl (by kernel_rfl) (by kernel_rfl) (by kernel_rfl) (fun _ _ _ h => h) (Or.inl ⟨by rfl, ?_⟩) hSS ?_
                  (focus (intro w' hw'; have hb1 := HCELL.out w' hw'; obtain ⟨hb1, hb2, hb3, hb4⟩ := hb1; first | (go_simp; done) | (go_simp; simp [hj0, hj1, hj2, hj3, htn, htn1, hwr1, hwr2]; done)))
                  simp only [Act.put, List.setIfInBounds_toArray, List.set_cons_zero, List.set_cons_succ]
                  refine take_d (i := 21) 88 (.slice (some ad8) lk.length cap8) rfl rfl (by kernel_rfl) (by kernel_rfl) (by kernel_rfl) (fun _ _ _ h => h) (Or.inl ⟨by rfl, ?_⟩) hSS ?_
                  (focus (intro w' hw'; have hb1 := HCELL.out w' hw'; obtain ⟨hb1, hb2, hb3, hb4⟩ := hb1; first | (go_simp; done) | (go_simp; simp [hj0, hj1, hj2, hj3, htn, htn1, hwr1, hwr2]; done)))
                  simp only [Act.put, List.setIfInBounds_toArray, List.set_cons_zero, List.set_cons_succ]
                  refine take_d (i := 22) 89 (.int .i64 (2 * (j : Int))) rfl rfl (by kernel_rfl) (by kernel_rfl) (by kernel_rfl) (fun _ _ _ h => h) (Or.inl ⟨by rfl, ?_⟩) hSS ?_
                  (focus (intro w' hw'; have hb1 := HCELL.out w' hw'; obtain ⟨hb1, hb2, hb3, hb4⟩ := hb1; first | (go_simp; done) | (go_simp; simp [hj0, hj1, hj2, hj3, htn, htn1, hwr1, hwr2]; done)))
                  simp only [Act.put, List.setIfInBounds_toArray, List.set_cons_zero, List.set_cons_succ]
                  refine take_d (i := 23) 90 (.int .i64 (2 * (j : Int) + 1)) rfl rfl (by kernel_rfl) (by kernel_rfl) (by kernel_rfl) (fun _ _ _ h => h) (Or.inl ⟨by rfl, ?_⟩) hSS ?_
                  (focus (intro w' hw'; have hb1 := HCELL.out w' hw'; obtain ⟨hb1, hb2, hb3, hb4⟩ := hb1; first | (go_simp; done) | (go_simp; simp [hj0, hj1, hj2, hj3, htn, htn1, hwr1, hwr2]; done)))
                  simp only [Act.put, List.setIfInBounds_toArray, List.set_cons_zero, List.set_cons_succ]
                  refine take_d (i := 24) 91 (.pointer (some (ad8.add (2 * j + 1)))) rfl rfl (by kernel_rfl) (by kernel_rfl) (by kernel_rfl) (fun _ _ _ h => h) (Or.inl ⟨by rfl, ?_⟩) hSS ?_
                  (focus (intro w' hw'; have hb1 := HCELL.out w' hw'; obtain ⟨hb1, hb2, hb3, hb4⟩ := hb1; first | (go_simp; done) | (go_simp; simp [hj0, hj1, hj2, hj3, htn, htn1, hwr1, hwr2]; done)))
                  simp only [Act.put, List.setIfInBounds_toArray, List.set_cons_zero, List.set_cons_succ]
                  refine take_d (i := 25) 92 (.pointer (some ⟨y.1, 0, none⟩)) rfl rfl (by kernel_rfl) (by kernel_rfl) (by kernel_rfl) (fun _ _ _ h => h) (Or.inl ⟨by rfl, ?_⟩) hSS ?_
                  (focus (intro w' hw'; have hb1 := HCELL.out w' hw'; obtain ⟨hb1, hb2, hb3, hb4⟩ := hb1; first | (go_simp; done) | (go_simp; simp [hj0, hj1, hj2, hj3, htn, htn1, hwr1, hwr2]; done)))
                  simp only [Act.put, List.setIfInBounds_toArray, List.set_cons_zero, List.set_cons_succ]
                  refine wpAnyH_ready (rs := [26]) (by kernel_rfl) (by simp) (AllReadyH.cons rfl (fun K1 hK1 => ?_) AllReadyH.nil)
                  rw [if_pos (by rfl)]
                  go_simp
                  refine hK1.out _ _ hSS (fun _ => ?_)
                  refine wpAnyH_ready (rs := [27]) (by kernel_rfl) (by simp) (AllReadyH.cons rfl (fun K2 hK2 => ?_) AllReadyH.nil)
                  rw [if_pos (by rfl)]
                  go_simp
                  refine hK2.out _ _ (hS5.below) (fun _ => ?_)
                  refine wpAnyH_ready (rs := [28]) (by kernel_rfl) (by simp) (AllReadyH.cons rfl (fun K3 hK3 => ?_) AllReadyH.nil)
                  rw [if_pos (by rfl)]
                  go_simp
                  have hS6 := hS5.alloc' (.cells #[.pointer (some ⟨wr.heap.size, 0, none⟩)] 74)
                  have hone : Rd ((wr.drew.alloc (.cells #[.int .i64 ((x.2.worth : Int) + (y.2.worth : Int)), .int .i64 0, .pointer (some ⟨x.1, 0, none⟩), .pointer (some ⟨y.1, 0, none⟩)] 76)).alloc (.cells #[.pointer (some ⟨wr.heap.size, 0, none⟩)] 74)) 1 (.slice (some ⟨wr.heap.size + 1, 0, none⟩) 1 1) 1 [.pointer (some ⟨wr.heap.size, 0, none⟩)] := by
                    have := Rd.one (wr.drew.alloc (.cells #[.int .i64 ((x.2.worth : Int) + (y.2.worth : Int)), .int .i64 0, .pointer (some ⟨x.1, 0, none⟩), .pointer (some ⟨y.1, 0, none⟩)] 76)) (.pointer (some ⟨wr.heap.size, 0, none⟩)) 74
                    rw [show (wr.drew.alloc (.cells #[.int .i64 ((x.2.worth : Int) + (y.2.worth : Int)), .int .i64 0, .pointer (some ⟨x.1, 0, none⟩), .pointer (some ⟨y.1, 0, none⟩)] 76)).heap.size = wr.heap.size + 1 from by simp] at this
                    exact this
                  refine hK3.out _ _ (hS6.below) (fun _ => ?_)
                  refine wpAnyH_ready (rs := [29]) (by kernel_rfl) (by simp) (AllReadyH.cons rfl (fun K4 hK4 => ?_) AllReadyH.nil)
                  refine step_app (n := pq.length) (m := 1) (xs := pv pq) (news := [.pointer (some ⟨wr.heap.size, 0, none⟩)]) 0 73 i0 (.pointer none) _ _ rfl rfl rfl rfl Try.underlying73 i0a i0b i0c i0d rfl (by decide) hS6 rfl hr9 hone (by simp [Value.oneCell']) (by unfold maxLen; omega) (by omega) (fun v1 c1 w5 hr1 hS7 => ?_)
                  refine hK4.out _ _ hS7.below (fun _ => ?_)
                  simp only [Act.put, List.setIfInBounds_toArray, List.set_cons_zero, List.set_cons_succ]
                  refine wpAnyH_ready (rs := [30]) (by kernel_rfl) (by simp) (AllReadyH.cons rfl (fun K5 hK5 => ?_) AllReadyH.nil)
                  rw [if_pos (by rfl)]
                  go_simp
                  refine hK5.out _ _ hS7.below (fun _ => ?_)
                  refine wpAnyH_done (by kernel_rfl) ?_ _
                  go_wp2_with fail
                  go_roundg m2
                  case measure => omega
                  case rel =>
                    rw [pv_snoc pq wr.heap.size (.pack x.2 y.2)] at hr1
                    refine ⟨j + 1, by omega, by go_num, pq ++ [(wr.heap.size, .pack x.2 y.2)], _, c1, by simpa using hr1, hS7, Lib.hid (by have := HPL.out; simp; omega), Lib.hid ⟨⟨?_⟩, ?_⟩⟩
                    · intro z hz
                      rcases List.mem_append.1 hz with h | h
                      · refine (HP9.out.1.at_ z h).mono ?_
                        rw [List.append_assoc]
                        exact List.subset_append_right _ _
                      · simp at h
                        subst h
                        refine .pack ?_ ((HL.out.1.at_ x (List.mem_of_getElem? HG.out.2.1)).mono (List.subset_append_right _ _)) ((HL.out.1.at_ y (List.mem_of_getElem? HG.out.2.2)).mono (List.subset_append_right _ _))
                        rw [List.append_assoc]
                        refine List.mem_append_left _ ?_
                        simp
                    · rw [List.map_append, HP9.out.2, List.take_add_one, HG.out.1]
                      rfl
                | zero =>
                  have hjl : j = lk.length / 2 := by omega
                  have hz : ¬ 2 * (j : Int) + 1 < (lk.length : Int) := by omega
                  have hjb : (j : Int) ≤ 300 := by omega
                  have hplen := HPL.out
                  have hpq : pq.map Prod.snd = pairsC (levelC (srt (fN l)) k) := by
                    rw [HP9.out.2, HL.out.2.1, List.take_of_length_le]
                    rw [pairsC_length, ← HL.out.2.1, List.length_map]
                    omega
                  have hJ := (HR8.out.2.join hSz).pick [1, 3, 0, 2, 4] (by decide) [A2, A', cq, c8, cl] rfl
                  have hJ2 := hJ.merge
                  have hrp : Reads wr pq := by
                    intro x hx
                    refine ⟨(HP9.out.1.at_ x hx).worth hJ2 0 rfl, ?_⟩
                    have hm : x.2 ∈ levelC (srt (fN l)) (k + 1) := by
                      rw [levelC]
                      refine (mergeK_perm _ _ _).symm.subset (List.mem_append_right _ ?_)
                      rw [← hpq]
                      exact List.mem_map.2 ⟨x, hx, rfl⟩
                    have h1 := (HSL.out.2.2 (k + 1) x.2 hm).2.1
                    have h2 : 2 ^ (k + 1) ≤ 2 ^ 14 := Nat.pow_le_pow_right (by omega) (by omega)
                    have h3 := Nat.mul_le_mul_right 1073741824 h2
                    omega
                  have hrl : Reads wr q2 := by
                    intro x hx
                    have h0 : Reads wa q2 := by
                      intro x hx
                      refine ⟨(HL.out.2.2.at_ x hx).worth HR8.out.2 1 rfl, ?_⟩
                      have h1 := (HSL.out.2.2 0 x.2 (by rw [levelC, ← H3.out.1]; exact List.mem_map.2 ⟨x, hx, rfl⟩)).2.1
                      omega
                    exact (h0.keep hSz.below) x hx
                  have hq2n : q2.length = q.length := H3.out.2.1
                  have hq2l : q2.length + pq.length ≤ 1000000 := by omega
                  have HJ := Lib.hid (And.intro hJ2 (And.intro hpq (And.intro hplen hq2n)))
                  have HM := Lib.hid (merged_any q2 pq _ _ wr (HRL.out.st hSz) (hr9.rd hSz 0 rfl) hrl hrp hq2l)
                  have HRZ := Lib.hid (HRL.out.st hSz)
                  have HJL := Lib.hid hjl
                  clear hJ hJ2 hrp hrl hpq hj hplen hq2l hq2n hjl hr9 hSz
                  go_wp2_with fail
                  refine HM.out.mono ?_
                  rintro e w6 ⟨v8, c9, rfl, hr10, hS10⟩
                  have hJ3 := (HJ.out.1.join hS10).pick [0, 1, 4] (by decide) [c9, A2 ++ A', cl] rfl
                  have HF := Lib.hid (And.intro hr10 (And.intro hJ3 (HRZ.out.keep hS10.below)))
                  clear hr10 hJ3 hS10 HM
                  go_wp2_with fail
                  go_roundg m
                  case measure => omega
                  case rel =>
                    refine ⟨k + 1, by omega, by go_num, mergeK keyP q2 pq, A2 ++ A', c9, HF.out.1, HF.out.2.1, ?_, Lib.hid ⟨⟨?_⟩, ?_, ⟨fun x hx => (HL.out.2.2.at_ x hx).mono (List.subset_append_right _ _)⟩⟩, Lib.hid HF.out.2.2⟩
                    · rw [mergeK_length]
                      have := HJ.out.2.2.1
                      have := HJ.out.2.2.2
                      have := HJL.out
                      omega
                    · intro x hx
                      rcases List.mem_append.1 ((mergeK_perm keyP q2 pq).subset hx) with h | h
                      · exact (HL.out.2.2.at_ x h).mono (List.subset_append_right _ _)
                      · exact HP9.out.1.at_ x h
                    · rw [mergeK_map, H3.out.1, HJ.out.2.1]
                      rfl
            | zero =>
              have hk14 : k = 14 := by omega
              have hz : ¬ (k : Int) < 14 := by omega
              have hlv : lk.map Prod.snd = levelC (srt (fN l)) 14 := by rw [HL.out.2.1, hk14]
              have hlen : 2 * q.length - 2 ≤ lk.length := by
                have h1 := level14_length (srt (fN l)) (by rw [HSL.out.2.1]; exact hq2) (by rw [HSL.out.2.1]; exact hqn)
                rw [← hlv, List.length_map, HSL.out.2.1] at h1
                exact h1
              obtain ⟨N, hN⟩ : ∃ N : Nat, N + 2 = 2 * q.length := ⟨2 * q.length - 2, by omega⟩
              have hNi : 2 * (q.length : Int) - 2 = (N : Int) := by omega
              have hN1 : N ≤ lk.length := by omega
              have hN3 : N ≤ 600 := by omega
              have hN2 : 2 ≤ N := by omega
              obtain ⟨g8, hg8⟩ := hr8.head (by omega)
              subst hg8
              have hcap8 := hr8.cap
              have hNc : (N : Int) ≤ (cap8 : Int) := by omega
              have hNc2 : N ≤ cap8 := by omega
              have hS9 := hS.pick [2, 0, 1] (by decide) [cl, c8, A'] rfl
              have HLV := Lib.hid (And.intro hlv (And.intro hN (And.intro hr8 hS9)))
              have HL0 : Hid (RowC 3 1 (.slice (some ⟨g, 0, none⟩) l.length l.length) l.length (iv (mkI (fun s => ((sumC (Coin.cnt s) ((lk.map Prod.snd).take 0) : Nat) : Int)) l.length)) cl) := HRO
              clear hk14 hlv hlen hr8 hS hS9 hk hcap8
              go_wp2_with fail
              go_loopg [108] N (fun m s108 wx => ∃ i2 : Nat, i2 + m = N ∧ s108 = .int .i64 (i2 : Int) ∧ ∃ clx, Hid (RowC 3 1 (.slice (some ⟨g, 0, none⟩) l.length l.length) l.length (iv (mkI (fun s => ((sumC (Coin.cnt s) ((lk.map Prod.snd).take i2) : Nat) : Int)) l.length)) clx ∧ St w.heap.size w wx [clx, c8, A']))
              case atStart => exact ⟨0, by omega, rfl, cl, Lib.hid ⟨HL0.out, HLV.out.2.2.2⟩⟩
              case round =>
                obtain ⟨i2, hi2, rfl, clx, HQ2⟩ := hrel
                cases gk with
                | zero =>
                  have hiN : i2 = N := by omega
                  have hz2 : ¬ (i2 : Int) < (N : Int) := by omega
                  have HIN := Lib.hid hiN
                  clear hi2 hiN
                  go_wp2_with fail
                  go_ret2
                  refine .inr ⟨H.out.2.1, _, clx, rfl, ?_, HQ2.out.2.pick [0] (by decide) [clx] rfl⟩
                  have h1 := HQ2.out.1
                  rw [mkI_congr _ (fun s => (lenP (fN l) s : Int)) _ (fun s _ => by
                    unfold lenP
                    have h3 := HSL.out.2.1
                    have h4 := HLV.out.2.1
                    rw [if_neg (by omega), HIN.out, HLV.out.1, show 2 * (srt (fN l)).length - 2 = N from by omega])] at h1
                  exact h1
                | succ m2 =>
                  have hiN : (i2 : Int) < (N : Int) := by omega
                  have hiN2 : i2 < N := by omega
                  obtain ⟨x, hx⟩ : ∃ x, lk[i2]? = some x := ⟨_, List.getElem?_eq_getElem (by omega)⟩
                  have hcp := HLV.out.2.2.1.cellAt HQ2.out.2 1 rfl (pv_get lk i2 x hx)
                  obtain ⟨b1, b2, b3⟩ := HSL.out.2.2 14 x.2 (by rw [← HLV.out.1]; exact List.mem_map.2 ⟨x, List.mem_of_getElem? hx, rfl⟩)
                  have hbd : ∀ s, sumC (Coin.cnt s) ((lk.map Prod.snd).take i2) + x.2.size ≤ 1000000000 := by
                    intro s
                    have h1 := sumC_cnt_le s (2 ^ 14) ((lk.map Prod.snd).take i2) (by
                      intro y hy
                      exact (HSL.out.2.2 14 y (by rw [← HLV.out.1]; exact List.mem_of_mem_take hy)).2.2)
                    have h2 : ((lk.map Prod.snd).take i2).length ≤ 600 := by rw [List.length_take]; omega
                    have h3 := Nat.mul_le_mul_right (2 ^ 14) h2
                    omega
                  have HC2 := Lib.hid (count_any (F := [c8, A']) (n := l.length) 1 rfl (by omega) x.2 x.1 clx wr (fun s => sumC (Coin.cnt s) ((lk.map Prod.snd).take i2)) (HL.out.1.at_ x (List.mem_of_getElem? hx)) HQ2.out.1 HQ2.out.2 b1 hbd)
                  have hstep : ∀ s, sumC (Coin.cnt s) ((lk.map Prod.snd).take i2) + x.2.cnt s = sumC (Coin.cnt s) ((lk.map Prod.snd).take (i2 + 1)) := by
                    intro s
                    rw [List.take_add_one, List.getElem?_map, hx, sumC_append]
                    simp [sumC]
                  have HST := Lib.hid hstep
                  clear hstep hbd hx b1 b2 b3
                  go_wp2_with fail
                  refine HC2.out.mono ?_
                  rintro e w7 ⟨rfl, c7, hr7, hS7⟩
                  have HF : Hid (RowC 3 1 (.slice (some ⟨g, 0, none⟩) l.length l.length) l.length (iv (mkI (fun s => ((sumC (Coin.cnt s) ((lk.map Prod.snd).take (i2 + 1)) : Nat) : Int)) l.length)) c7 ∧ St w.heap.size w w7 [c7, c8, A']) := Lib.hid ⟨by
                    rw [mkI_congr _ _ _ (fun s _ => by rw [← HST.out s])]
                    exact hr7, hS7⟩
                  clear hr7 hS7
                  go_wp2_with fail
                  go_roundg m2
                  case measure => omega
                  case rel => exact ⟨i2 + 1, by omega, by go_num, c7, HF⟩
theorem of_any (l : List Int) (v : Value) (w : World) (hn : l.length ≤ 1000000) (hb : Rd w 1 v l.length (iv l)) : Calls Try.prog 26 #[v] w (OfOut l w) := by
  cases h : badL l with
  | true => exact lof_bad l v w hn hb h
  | false => exact of_good l v w hb h
end Go.Proofs.Ytdhnmcdgiddhdaa
/-
  Bits as_ lists of Bools: plain Lean, no program in sight.
-/
set_option linter.unusedVariables false
set_option linter.unusedSimpArgs false
namespace Go.Proofs.Ytdhnmcdgiddhdaa

/-- The lowest n bits of v, the highest first. -/
def bitsOf (v n : Nat) : List Bool := (List.range n).map fun j => v.testBit (n - 1 - j)
/-- The number that bits make, the highest first. -/
def valOf (l : List Bool) : Nat := l.foldl (fun a b => 2 * a + b.toNat) 0
/-- The bits of bytes. -/
def bitsB (bs : List UInt8) : List Bool := bs.flatMap fun b => bitsOf b.toNat 8

theorem bitsOf_length (v n : Nat) : (bitsOf v n).length = n := by simp [bitsOf]
theorem bitsOf_get (v n j : Nat) (h : j < n) : (bitsOf v n)[j]? = some (v.testBit (n - 1 - j)) := by simp [bitsOf, h]
theorem bitsB_length (bs : List UInt8) : (bitsB bs).length = 8 * bs.length := by
  induction bs with
  | nil => rfl
  | cons b bs ih => simp only [bitsB, List.flatMap_cons, List.length_append, bitsOf_length, List.length_cons] at ih ⊢; omega
theorem bitsB_append (a b : List UInt8) : bitsB (a ++ b) = bitsB a ++ bitsB b := by simp [bitsB]
theorem bitsB_cons (b : UInt8) (bs : List UInt8) : bitsB (b :: bs) = bitsOf b.toNat 8 ++ bitsB bs := by simp [bitsB]
theorem bitsB_get (bs : List UInt8) (k : Nat) (b : UInt8) (h : bs[k / 8]? = some b) : (bitsB bs)[k]? = some (b.toNat.testBit (7 - k % 8)) := by
  induction bs generalizing k with
  | nil => simp at h
  | cons c bs ih =>
    rw [bitsB_cons, List.getElem?_append, bitsOf_length]
    by_cases hk : k < 8
    · rw [if_pos hk, bitsOf_get _ _ _ hk]
      have h0 : k / 8 = 0 := by omega
      rw [h0] at h
      simp at h
      subst h
      congr 2
      omega
    · rw [if_neg hk]
      have e : k / 8 = (k - 8) / 8 + 1 := by omega
      rw [e, List.getElem?_cons_succ] at h
      rw [ih (k - 8) h]
      congr 3
      omega
/-- One bit of a byte is set. -/
theorem bitsB_set (bs : List UInt8) (k : Nat) (b c : UInt8) (x : Bool) (h : bs[k / 8]? = some b)
    (hc : ∀ j, j < 8 → c.toNat.testBit j = (b.toNat.testBit j || (x && j == 7 - k % 8))) (hx : (bitsB bs)[k]? = some false) : bitsB (bs.set (k / 8) c) = (bitsB bs).set k x := by
  have hlt : k / 8 < bs.length := (List.getElem?_eq_some_iff.1 h).1
  apply List.ext_getElem?
  intro i
  by_cases hi : i < 8 * bs.length
  · have hi8 : i / 8 < bs.length := by omega
    obtain ⟨d, hd⟩ : ∃ d, bs[i / 8]? = some d := ⟨_, List.getElem?_eq_getElem hi8⟩
    rw [List.getElem?_set]
    by_cases e : k / 8 = i / 8
    · have hd' : (bs.set (k / 8) c)[i / 8]? = some c := by rw [e, List.getElem?_set_self hi8]
      rw [bitsB_get _ _ _ hd', hc _ (by omega)]
      have hbd : b = d := by rw [e, hd] at h; simpa using h.symm
      subst hbd
      by_cases e2 : k = i
      · subst e2
        rw [if_pos rfl, if_pos (by rw [bitsB_length]; omega)]
        rw [bitsB_get _ _ _ h] at hx
        simp only [Option.some.injEq] at hx
        simp [hx]
      · rw [if_neg e2, bitsB_get _ _ _ hd]
        have : (7 - i % 8 == 7 - k % 8) = false := by rw [beq_eq_false_iff_ne]; omega
        simp [this]
    · have hd' : (bs.set (k / 8) c)[i / 8]? = some d := by rw [List.getElem?_set_ne e]; exact hd
      rw [bitsB_get _ _ _ hd', if_neg (by intro e2; subst e2; exact e rfl), bitsB_get _ _ _ hd]
  · rw [List.getElem?_eq_none (by rw [bitsB_length, List.length_set]; omega), List.getElem?_eq_none (by rw [List.length_set, bitsB_length]; omega)]
theorem bitsB_zero : bitsB [0] = List.replicate 8 false := by decide

theorem valOf_snoc (l : List Bool) (b : Bool) : valOf (l ++ [b]) = 2 * valOf l + b.toNat := by simp [valOf, List.foldl_append]
theorem valOf_go (l : List Bool) (a : Nat) : l.foldl (fun a b => 2 * a + b.toNat) a = a * 2 ^ l.length + valOf l := by
  induction l generalizing a with
  | nil => simp [valOf]
  | cons b l ih =>
    have h1 := ih (2 * a + b.toNat)
    have h2 := ih (2 * 0 + b.toNat)
    simp only [valOf, List.foldl_cons, List.length_cons, Nat.pow_succ] at h1 h2 ⊢
    rw [h1, h2, Nat.add_mul, Nat.mul_zero, Nat.zero_add]
    have : 2 * a * 2 ^ l.length = a * (2 ^ l.length * 2) := by rw [Nat.mul_comm 2 a, Nat.mul_assoc, Nat.mul_comm 2]
    omega
theorem valOf_cons (b : Bool) (l : List Bool) : valOf (b :: l) = b.toNat * 2 ^ l.length + valOf l := by
  have := valOf_go l (2 * 0 + b.toNat)
  simp only [Nat.mul_zero, Nat.zero_add] at this
  simpa [valOf] using this
theorem valOf_lt (l : List Bool) : valOf l < 2 ^ l.length := by
  induction l with
  | nil => simp [valOf]
  | cons b l ih => rw [valOf_cons, List.length_cons, Nat.pow_succ]; cases b <;> simp <;> omega
theorem valOf_bitsOf (v n : Nat) : valOf (bitsOf v n) = v % 2 ^ n := by
  induction n with
  | zero => simp [bitsOf, valOf, Nat.mod_one]
  | succ n ih =>
    have e : bitsOf v (n + 1) = v.testBit n :: bitsOf v n := by
      simp only [bitsOf, List.range_succ_eq_map, List.map_cons, List.map_map]
      congr 1
      apply List.map_congr_left
      intro j hj
      simp only [Function.comp]
      congr 1
      omega
    rw [e, valOf_cons, bitsOf_length, ih, Nat.mod_pow_succ, Nat.testBit_eq_decide_div_mod_eq]
    have h2 : v / 2 ^ n % 2 < 2 := Nat.mod_lt _ (by omega)
    by_cases h : v / 2 ^ n % 2 = 1
    · simp [h]; omega
    · have : v / 2 ^ n % 2 = 0 := by omega
      simp [this]
theorem bitsOf_succ (v n : Nat) : bitsOf v (n + 1) = v.testBit n :: bitsOf v n := by
  simp only [bitsOf, List.range_succ_eq_map, List.map_cons, List.map_map]
  congr 1
  apply List.map_congr_left
  intro j hj
  simp only [Function.comp]
  congr 1
  omega
/-- One bit laid into a byte. -/
def setb (b : UInt8) (x : Bool) (s : Nat) : UInt8 := UInt8.ofNat (b.toNat ||| x.toNat * 2 ^ s)
theorem setb_toNat (b : UInt8) (x : Bool) (s : Nat) (hs : s ≤ 7) : (setb b x s).toNat = b.toNat ||| x.toNat * 2 ^ s := by
  unfold setb
  have h1 : x.toNat * 2 ^ s < 2 ^ 8 := by
    have : 2 ^ s ≤ 2 ^ 7 := Nat.pow_le_pow_right (by omega) hs
    cases x <;> simp <;> omega
  have h2 : b.toNat < 2 ^ 8 := b.toNat_lt
  have := Nat.or_lt_two_pow h2 h1
  simp only [UInt8.toNat_ofNat']
  omega
theorem setb_bit (b : UInt8) (x : Bool) (s : Nat) (hs : s ≤ 7) (j : Nat) : (setb b x s).toNat.testBit j = (b.toNat.testBit j || (x && j == s)) := by
  rw [setb_toNat b x s hs, Nat.testBit_or]
  cases x with
  | false => simp
  | true =>
    simp only [Bool.toNat_true, Nat.one_mul, Nat.testBit_two_pow, Bool.true_and]
    congr 1
    rw [Bool.eq_iff_iff]
    simp
    omega
/-- The bytes that hold bits, with noughts behind. -/
def Packed (bits : List Bool) (cs : List UInt8) : Prop := bitsB cs = bits ++ List.replicate (8 * cs.length - bits.length) false
instance (bits : List Bool) (cs : List UInt8) : Decidable (Packed bits cs) := inferInstanceAs (Decidable (_ = _))
theorem packed_zero {bits : List Bool} {cs : List UInt8} (h : Packed bits cs) (hl : bits.length ≤ 8 * cs.length) : Packed bits (cs ++ [0]) := by
  unfold Packed at *
  rw [bitsB_append, h, bitsB_zero, List.append_assoc, List.replicate_append_replicate]
  congr 2
  simp
  omega
theorem packed_set {bits : List Bool} {cs : List UInt8} (h : Packed bits cs) (x : Bool) (hl : bits.length < 8 * cs.length) (b : UInt8) (hb : cs[bits.length / 8]? = some b) :
    Packed (bits ++ [x]) (cs.set (bits.length / 8) (setb b x (7 - bits.length % 8))) := by
  have h0 : (bitsB cs)[bits.length]? = some false := by
    rw [h, List.getElem?_append_right (Nat.le_refl _), Nat.sub_self, List.getElem?_replicate]
    rw [if_pos (by omega)]
  unfold Packed
  rw [bitsB_set cs bits.length b _ x hb (fun j _ => setb_bit b x _ (by omega) j) h0, h, List.set_append_right _ _ (Nat.le_refl _), Nat.sub_self, List.length_set, List.length_append]
  obtain ⟨m, hm⟩ : ∃ m, 8 * cs.length - bits.length = m + 1 := ⟨8 * cs.length - bits.length - 1, by omega⟩
  rw [hm, List.replicate_succ, List.set_cons_zero]
  have : 8 * cs.length - (bits.length + [x].length) = m := by simp; omega
  rw [this]
  simp
/-- The bit that a reader meets. -/
theorem bitsB_at {cs : List UInt8} {k : Nat} (h : k < 8 * cs.length) : ∃ b, cs[k / 8]? = some b ∧ (bitsB cs)[k]? = some (b.toNat.testBit (7 - k % 8)) := by
  have h1 : k / 8 < cs.length := by omega
  exact ⟨_, List.getElem?_eq_getElem h1, bitsB_get _ _ _ (List.getElem?_eq_getElem h1)⟩
theorem bitsOf_inj (a b : UInt8) (h : bitsOf a.toNat 8 = bitsOf b.toNat 8) : a = b := by
  have h1 := congrArg valOf h
  rw [valOf_bitsOf, valOf_bitsOf] at h1
  have h2 := a.toNat_lt
  have h3 := b.toNat_lt
  apply UInt8.toNat_inj.1
  omega
theorem bitsB_inj : ∀ (a b : List UInt8), bitsB a = bitsB b → a = b
  | [], [], _ => rfl
  | [], b :: bs, h => by have := congrArg List.length h; rw [bitsB_length, bitsB_length] at this; simp at this
  | a :: as_, [], h => by have := congrArg List.length h; rw [bitsB_length, bitsB_length] at this; simp at this
  | a :: as_, b :: bs, h => by
    rw [bitsB_cons, bitsB_cons] at h
    have h1 := List.append_inj h (by rw [bitsOf_length, bitsOf_length])
    rw [bitsOf_inj a b h1.1, bitsB_inj as_ bs h1.2]
theorem packed_unique {bits : List Bool} {a b : List UInt8} (ha : Packed bits a) (hb : Packed bits b) (hl : a.length = b.length) : a = b := by
  apply bitsB_inj
  rw [ha, hb, hl]
theorem bitsOf_split (v n m : Nat) (h : m ≤ n) : bitsOf v n = bitsOf (v / 2 ^ m) (n - m) ++ bitsOf v m := by
  apply List.ext_getElem?
  intro j
  by_cases hj : j < n
  · rw [bitsOf_get _ _ _ hj]
    by_cases h2 : j < n - m
    · rw [List.getElem?_append_left (by rw [bitsOf_length]; exact h2), bitsOf_get _ _ _ h2, Nat.testBit_div_two_pow]
      congr 2
      omega
    · rw [List.getElem?_append_right (by rw [bitsOf_length]; omega), bitsOf_length, bitsOf_get _ _ _ (by omega)]
      congr 2
      omega
  · rw [List.getElem?_eq_none (by rw [bitsOf_length]; omega), List.getElem?_eq_none (by rw [List.length_append, bitsOf_length, bitsOf_length]; omega)]
theorem packed_self (bs : List UInt8) : Packed (bitsB bs) bs := by
  unfold Packed
  rw [bitsB_length, Nat.sub_self]
  simp
theorem bitsB_take_succ (bs : List UInt8) (i : Nat) (b : UInt8) (h : bs[i]? = some b) : bitsB (bs.take (i + 1)) = bitsB (bs.take i) ++ bitsOf b.toNat 8 := by
  rw [List.take_add_one, h, bitsB_append]
  simp [bitsB]
/-- The eight bits of a byte. -/
theorem valOf_byte (bs : List UInt8) (i : Nat) (b : UInt8) (h : bs[i]? = some b) : valOf (((bitsB bs).drop (8 * i)).take 8) = b.toNat := by
  obtain ⟨hlt, e⟩ := List.getElem?_eq_some_iff.1 h
  have e1 : bs = bs.take i ++ (b :: bs.drop (i + 1)) := by
    rw [← e, ← List.drop_eq_getElem_cons hlt, List.take_append_drop]
  rw [e1, bitsB_append, bitsB_cons]
  have hl : (bitsB (bs.take i)).length = 8 * i := by rw [bitsB_length, List.length_take]; omega
  rw [List.drop_append_of_le_length (by omega), ← hl, List.drop_length, List.nil_append, List.take_append_of_le_length (by rw [bitsOf_length]; exact Nat.le_refl _), List.take_of_length_le (by rw [bitsOf_length]; exact Nat.le_refl _), valOf_bitsOf]
  have := b.toNat_lt
  omega
/-- One element after the other is turned. -/
theorem turn_next {α : Type} (f : α → α) (l : List α) (i : Nat) (x : α) (h : l[i]? = some x) : ((l.take i).map f ++ l.drop i).set i (f x) = (l.take (i + 1)).map f ++ l.drop (i + 1) := by
  obtain ⟨hlt, e⟩ := List.getElem?_eq_some_iff.1 h
  have hl : ((l.take i).map f).length = i := by simp; omega
  rw [List.set_append_right _ _ (by omega), hl, Nat.sub_self, List.drop_eq_getElem_cons hlt, List.set_cons_zero, List.take_add_one, h, List.map_append, List.append_assoc]
  rfl
theorem turn_at {α : Type} (f : α → α) (l : List α) (i : Nat) : ((l.take i).map f ++ l.drop i)[i]? = l[i]? := by
  by_cases h : i < l.length
  · rw [List.getElem?_append_right (by simp; omega)]
    simp [Nat.min_eq_left (Nat.le_of_lt h)]
  · rw [List.getElem?_eq_none (by simp; omega), List.getElem?_eq_none (by omega)]
theorem packed_false {bits : List Bool} {cs : List UInt8} (h : Packed bits cs) (hl : bits.length < 8 * cs.length) : Packed (bits ++ [false]) cs := by
  unfold Packed at *
  obtain ⟨m, hm⟩ : ∃ m, 8 * cs.length - bits.length = m + 1 := ⟨8 * cs.length - bits.length - 1, by omega⟩
  rw [h, hm, List.replicate_succ, List.append_assoc]
  congr 2
  simp
  congr 1
  omega
theorem packed_none (n : Nat) : Packed [] (List.replicate n 0) := by
  unfold Packed
  rw [List.length_replicate, List.nil_append, List.length_nil, Nat.sub_zero]
  induction n with
  | zero => rfl
  | succ n ih =>
    rw [List.replicate_succ, bitsB_cons, ih, show 8 * (n + 1) = 8 + 8 * n from by omega, ← List.replicate_append_replicate]
    rfl
end Go.Proofs.Ytdhnmcdgiddhdaa

/-
  Contract of suffix.prepare.
-/
import Derived.Test.YtdgpbgdpdmikaabSufNames
import Derived.Test.YtdgpbgdpdmikaabMakes
set_option linter.unusedVariables false
set_option linter.unusedSimpArgs false
namespace Go.Proofs.Ytdgpbgdpdmikaab
open Go.RowKit
set_option maxRecDepth 100000
theorem infoB : (Try.prog.info? 4).map (fun i => (i.zero, i.size, i.bytes)) = some (some (.bool false), 1, 1) := by kernel_rfl
theorem wp_build6 {P : Program} {o : Oper} {a : Act} {w : World} {K : Act → World → Prop} {Q : Exit → Act → World → Prop} (t : TypeId) (i1 i2 i3 i4 i5 i6 : Nat) (x1 x2 x3 x4 x5 x6 : Operand) (ho : o.op = .build t #[(i1, x1), (i2, x2), (i3, x3), (i4, x4), (i5, x5), (i6, x6)]) (v1 v2 v3 v4 v5 v6 : Value)
    (h1 : a.eval x1 = v1) (h2 : a.eval x2 = v2) (h3 : a.eval x3 = v3) (h4 : a.eval x4 = v4) (h5 : a.eval x5 = v5) (h6 : a.eval x6 = v6) (cells : Array Value)
    (hb : P.built t [(i1, v1), (i2, v2), (i3, v3), (i4, v4), (i5, v5), (i6, v6)] = some cells) (h : K (a.put o.dst (.agg cells)) w) : o.wp P a w K Q := by
  subst h1 h2 h3 h4 h5 h6
  refine wp_build t _ ho ?_ ?_
  · simp [hb]
  · simpa [hb] using h
theorem built_sorter (a1 a2 a3 a4 a5 a6 : Option Addr) (n1 n2 n3 n4 n5 n6 k1 k2 k3 k4 k5 k6 : Nat) : Try.prog.built 72 [(0, .slice a1 n1 k1), (1, .slice a2 n2 k2), (2, .slice a3 n3 k3), (3, .slice a4 n4 k4), (4, .slice a5 n5 k5), (6, .slice a6 n6 k6)] = some #[.slice a1 n1 k1, .slice a2 n2 k2, .slice a3 n3 k3, .slice a4 n4 k4, .slice a5 n5 k5, .slice none 0 0, .slice a6 n6 k6] := by kernel_rfl
section
variable {P : Program} {ops : Array Oper} {w : World}
theorem wpStill_wantg {Q : Act → Prop} {a : Act} {o : Oper} {rest : List Oper} (j : Nat) (b : Bool) (hg : o.guard = some (j, b)) (hw : Region.wanted o (yielded ops a.tmps) = true) (hp : plainOp o.op = true)
    (h : ∀ K : Act → World → Prop, (∀ a', wpStill P ops w Q rest a' → K a' w) → o.wp P a w K (fun _ _ _ => False)) : wpStill P ops w Q (o :: rest) a :=
  wpStill_want hw hp h
/-- An operation that is passed over: the walk lays the empty value by a move. -/
theorem wpStill_skipg {Q : Act → Prop} {a : Act} {op : Op} {d : Option Tmp} {ty : TypeId} {pos : String} {aft : Array Edge} {g : Option (Nat × Bool)} {rest : List Oper} (j : Nat) (b : Bool) (hg : g = some (j, b))
    (hw : Region.wanted (Oper.mk d op ty pos aft g) (yielded ops a.tmps) = false)
    (h : ∀ K : Act → World → Prop, (∀ a', wpStill P ops w Q rest a' → K a' w) → (Oper.mk d (.move (.const undef)) ty pos #[] none).wp P a w K (fun _ _ _ => False)) : wpStill P ops w Q (Oper.mk d op ty pos aft g :: rest) a := by
  refine wpStill_skip hw ?_
  have h1 := h (fun a' w' => w' = w ∧ wpStill P ops w Q rest a') (fun a' h => ⟨rfl, h⟩)
  have h2 : (execOp a.eval (Oper.mk d (.move (.const undef)) ty pos #[] none)).run P w = .ok (.value undef) w := rfl
  unfold Oper.wp at h1
  rw [h2] at h1
  exact h1.2
end
/-- How many small ones, great ones of a number there are among the first places. -/
def cS (s : List Nat) (i c : Nat) : Nat := ((List.range i).filter fun j => ch s j == c && sm s j).length
def cL (s : List Nat) (i c : Nat) : Nat := ((List.range i).filter fun j => ch s j == c && !sm s j).length
theorem cS_succ (s : List Nat) (i c : Nat) : cS s (i + 1) c = cS s i c + (if ch s i = c ∧ sm s i = true then 1 else 0) := by
  unfold cS
  rw [List.range_succ, List.filter_append, List.length_append]
  congr 1
  by_cases h : ch s i = c <;> cases h2 : sm s i <;> simp [h, h2]
theorem cL_succ (s : List Nat) (i c : Nat) : cL s (i + 1) c = cL s i c + (if ch s i = c ∧ sm s i = false then 1 else 0) := by
  unfold cL
  rw [List.range_succ, List.filter_append, List.length_append]
  congr 1
  by_cases h : ch s i = c <;> cases h2 : sm s i <;> simp [h, h2]
theorem cS_le (s : List Nat) (i c : Nat) : cS s i c ≤ i := by unfold cS; have := List.length_filter_le (fun j => ch s j == c && sm s j) (List.range i); simpa using this
theorem cL_le (s : List Nat) (i c : Nat) : cL s i c ≤ i := by unfold cL; have := List.length_filter_le (fun j => ch s j == c && !sm s j) (List.range i); simpa using this
theorem cS_all (s : List Nat) (c : Nat) : cS s s.length c = (Spos s c).length := rfl
theorem cL_all (s : List Nat) (c : Nat) : cL s s.length c = (Lpos s c).length := rfl
theorem Lpos_far (s : List Nat) (mx c : Nat) (h : ∀ x ∈ s, x ≤ mx) (hc : mx < c) : (Lpos s c).length = 0 := by
  cases hl : Lpos s c with
  | nil => rfl
  | cons a l =>
    have h1 := (mem_Lpos s c a).1 (by rw [hl]; simp)
    have := h _ (ch_mem s a h1.1)
    omega
theorem gB_le (s : List Nat) (mx : Nat) (h : ∀ x ∈ s, x ≤ mx) (c : Nat) (hc : c ≤ mx + 1) : gB s c ≤ s.length := by
  rw [← gB_total s mx h]
  exact gB_mono s hc
/-- What great and little hold while they are summed. -/
def gTo (s : List Nat) (c j : Nat) : Int := if j ≤ c then (gB s j : Int) else ((Spos s (j - 1)).length : Int)
def lTo (s : List Nat) (c j : Nat) : Int := if j < c then (lB s j : Int) else ((Lpos s j).length : Int)
def PrepOut (s : List Nat) (mx : Nat) (sv : Value) (w : World) (e : Ending) (w' : World) : Prop :=
  ∃ (p : Nat) (v1 v2 v3 v4 v5 v6 : Value) (c1 c2 c3 c4 c5 c6 : HL), e = .returned (.pointer (some ⟨p, 0, none⟩)) ∧ RowC 4 1 v1 s.length (bl (mkB (sm s) s.length)) c1 ∧ RowC 3 1 v2 (mx + 2) (iv (mkI (fun c => (gB s c : Int)) (mx + 2))) c2 ∧ RowC 3 1 v3 (mx + 2) (iv (mkI (litP s mx) (mx + 2))) c3 ∧
    RowC 3 1 v4 s.length (iv (List.replicate s.length 0)) c4 ∧ RowC 3 1 v5 (marksP s).length (iv (tI (marksP s))) c5 ∧ RowC 3 1 v6 (s.length + 1) (iv (mkI (numP s) (s.length + 1))) c6 ∧ St w.heap.size w w' [soB p sv v1 v2 v3 v4 v5 v6, c1, c2, c3, c4, c5, c6]
set_option maxHeartbeats 8000000 in
theorem prepare_any (s : List Nat) (mx : Nat) (sv : Value) (w : World) (hn1 : 1 ≤ s.length) (hn : s.length ≤ 1000000) (hm : mx ≤ 1000000) (hmx : ∀ x ∈ s, x ≤ mx) (hT : Rd w 1 sv s.length (iv (tI s))) :
    Calls Try.prog 43 #[sv, .int .i64 (mx : Int)] w (PrepOut s mx sv w) := by
  obtain ⟨i0, i0a, i0b, i0c, i0d⟩ := info_parts infoInt
  obtain ⟨j0, j0a, j0b, j0c, j0d⟩ := info_parts infoB
  obtain ⟨ao, cap, rfl⟩ := hT.shape
  have hnl : (s.length : Int) ≤ 1000000 := by omega
  have hml : (mx : Int) ≤ 1000000 := by omega
  have hw1 : IntKind.i64.wrap ((mx : Int) + 2) = (mx : Int) + 2 := IntWalk.i64_in _ (by omega)
  have hw2 : IntKind.i64.wrap ((s.length : Int) + 1) = (s.length : Int) + 1 := IntWalk.i64_in _ (by omega)
  have hS := (St.init w).drew
  have HMX := Lib.hid hmx
  clear hmx
  go_enter Try.func43, Try.ntmps43
  go_wp2_with fail
  go_upto_region 2 with (fail)
  go_cut [6] (fun s6 wc => ∃ (p g1 g2 g3 g4 g6 k1 k2 k3 k4 k6 : Nat) (c1 c2 c3 c4 c6 : HL), s6 = .pointer (some ⟨p, 0, none⟩) ∧ Hid (RowC 4 1 (.slice (some ⟨g1, 0, none⟩) s.length k1) s.length (bl (mkB (fun j => decide (s.length - 1 ≤ j) && sm s j) s.length)) c1 ∧ RowC 3 1 (.slice (some ⟨g2, 0, none⟩) (mx + 2) k2) (mx + 2) (iv (mkI (fun c => if c = 0 then 0 else (cS s 0 (c - 1) : Int)) (mx + 2))) c2 ∧ RowC 3 1 (.slice (some ⟨g3, 0, none⟩) (mx + 2) k3) (mx + 2) (iv (mkI (fun c => (cL s 0 c : Int)) (mx + 2))) c3 ∧ RowC 3 1 (.slice (some ⟨g4, 0, none⟩) s.length k4) s.length (iv (List.replicate s.length 0)) c4 ∧ RowC 3 1 (.slice (some ⟨g6, 0, none⟩) (s.length + 1) k6) (s.length + 1) (iv (mkI (fun _ => 0) (s.length + 1))) c6 ∧ St w.heap.size w wc [soB p (.slice ao s.length cap) (.slice (some ⟨g1, 0, none⟩) s.length k1) (.slice (some ⟨g2, 0, none⟩) (mx + 2) k2) (.slice (some ⟨g3, 0, none⟩) (mx + 2) k3) (.slice (some ⟨g4, 0, none⟩) s.length k4) (.slice none 0 0) (.slice (some ⟨g6, 0, none⟩) (s.length + 1) k6), c1, c2, c3, c4, [], c6]))
  case first =>
    refine wp_region_held_drew (S := fun _ => True) mixed trivial (fun _ => ?_)
    refine take_d (i := 0) 15 (.slice ao s.length cap) rfl rfl (by kernel_rfl) (by kernel_rfl) (by kernel_rfl) (fun _ _ _ h => h) (Or.inl ⟨by rfl, ?_⟩) trivial ?_
    (focus (intro w' _; go_simp; done))
    simp only [Act.put, List.setIfInBounds_toArray, List.set_cons_zero, List.set_cons_succ]
    refine take_d (i := 1) 16 (.int .i64 (s.length : Int)) rfl rfl (by kernel_rfl) (by kernel_rfl) (by kernel_rfl) (fun _ _ _ h => h) (Or.inl ⟨by rfl, ?_⟩) trivial ?_
    (focus (intro w' _; go_simp; done))
    simp only [Act.put, List.setIfInBounds_toArray, List.set_cons_zero, List.set_cons_succ]
    refine take_d (i := 3) 18 (.int .i64 (mx : Int)) rfl rfl (by kernel_rfl) (by kernel_rfl) (by kernel_rfl) (fun _ _ _ h => h) (Or.inl ⟨by rfl, ?_⟩) trivial ?_
    (focus (intro w' _; go_simp; done))
    simp only [Act.put, List.setIfInBounds_toArray, List.set_cons_zero, List.set_cons_succ]
    refine take_d (i := 4) 19 (.int .i64 ((mx : Int) + 2)) rfl rfl (by kernel_rfl) (by kernel_rfl) (by kernel_rfl) (fun _ _ _ h => h) (Or.inl ⟨by rfl, ?_⟩) trivial ?_
    (focus (intro w' _; go_simp; done))
    simp only [Act.put, List.setIfInBounds_toArray, List.set_cons_zero, List.set_cons_succ]
    refine take_d (i := 6) 21 (.int .i64 (mx : Int)) rfl rfl (by kernel_rfl) (by kernel_rfl) (by kernel_rfl) (fun _ _ _ h => h) (Or.inl ⟨by rfl, ?_⟩) trivial ?_
    (focus (intro w' _; go_simp; done))
    simp only [Act.put, List.setIfInBounds_toArray, List.set_cons_zero, List.set_cons_succ]
    refine take_d (i := 7) 22 (.int .i64 ((mx : Int) + 2)) rfl rfl (by kernel_rfl) (by kernel_rfl) (by kernel_rfl) (fun _ _ _ h => h) (Or.inl ⟨by rfl, ?_⟩) trivial ?_
    (focus (intro w' _; go_simp; done))
    simp only [Act.put, List.setIfInBounds_toArray, List.set_cons_zero, List.set_cons_succ]
    refine take_d (i := 9) 24 (.int .i64 (s.length : Int)) rfl rfl (by kernel_rfl) (by kernel_rfl) (by kernel_rfl) (fun _ _ _ h => h) (Or.inl ⟨by rfl, ?_⟩) trivial ?_
    (focus (intro w' _; go_simp; done))
    simp only [Act.put, List.setIfInBounds_toArray, List.set_cons_zero, List.set_cons_succ]
    refine take_d (i := 11) 26 (.int .i64 (s.length : Int)) rfl rfl (by kernel_rfl) (by kernel_rfl) (by kernel_rfl) (fun _ _ _ h => h) (Or.inl ⟨by rfl, ?_⟩) trivial ?_
    (focus (intro w' _; go_simp; done))
    simp only [Act.put, List.setIfInBounds_toArray, List.set_cons_zero, List.set_cons_succ]
    refine take_d (i := 12) 27 (.int .i64 ((s.length : Int) + 1)) rfl rfl (by kernel_rfl) (by kernel_rfl) (by kernel_rfl) (fun _ _ _ h => h) (Or.inl ⟨by rfl, ?_⟩) trivial ?_
    (focus (intro w' _; go_simp; done))
    simp only [Act.put, List.setIfInBounds_toArray, List.set_cons_zero, List.set_cons_succ]
    refine makes5g (L := []) 2 5 8 10 13 17 20 23 25 28 (T1 := 4) (T2 := 3) (T3 := 3) (T4 := 3) (T5 := 3) (n1 := s.length) (n2 := mx + 2) (n3 := mx + 2) (n4 := s.length) (n5 := s.length + 1) (z1 := .bool false) (z2 := .int .i64 0) (z3 := .int .i64 0) (z4 := .int .i64 0) (z5 := .int .i64 0) 3 (by decide) (by decide) (y1 := undef) (y2 := undef) (y3 := undef) (y4 := undef) (y5 := undef) (by kernel_rfl) (by kernel_rfl) (by kernel_rfl) (by kernel_rfl) (by kernel_rfl) (by kernel_rfl) (by kernel_rfl) (by kernel_rfl) (by kernel_rfl) (by kernel_rfl) ?_ ?_ ?_ ?_ ?_ ?_ hS ?_
    · intro x1 x2 x3 x4 x5
      exact ⟨⟨_, 70, j0, .tmp 16, .tmp 16, .i64, .i64, rfl, rfl, rfl, rfl, by kernel_rfl, by kernel_rfl, Try.underlying70, j0a, j0b, j0c, by rw [j0d]; omega⟩, by unfold maxLen; omega, rfl⟩
    · intro x1 x2 x3 x4 x5
      exact ⟨⟨_, 37, i0, .tmp 19, .tmp 19, .i64, .i64, rfl, rfl, rfl, rfl, by kernel_rfl, by kernel_rfl, Try.underlying37, i0a, i0b, i0c, by rw [i0d]; omega⟩, by unfold maxLen; omega, rfl⟩
    · intro x1 x2 x3 x4 x5
      exact ⟨⟨_, 37, i0, .tmp 22, .tmp 22, .i64, .i64, rfl, rfl, rfl, rfl, by kernel_rfl, by kernel_rfl, Try.underlying37, i0a, i0b, i0c, by rw [i0d]; omega⟩, by unfold maxLen; omega, rfl⟩
    · intro x1 x2 x3 x4 x5
      exact ⟨⟨_, 37, i0, .tmp 24, .tmp 24, .i64, .i64, rfl, rfl, rfl, rfl, by kernel_rfl, by kernel_rfl, Try.underlying37, i0a, i0b, i0c, by rw [i0d]; omega⟩, by unfold maxLen; omega, rfl⟩
    · intro x1 x2 x3 x4 x5
      exact ⟨⟨_, 37, i0, .tmp 27, .tmp 27, .i64, .i64, rfl, rfl, rfl, rfl, by kernel_rfl, by kernel_rfl, Try.underlying37, i0a, i0b, i0c, by rw [i0d]; omega⟩, by unfold maxLen; omega, rfl⟩
    · intro b1 b2 b3 b4 b5 h
      cases b1 <;> cases b2 <;> cases b3 <;> cases b4 <;> cases b5 <;> first | exact absurd h (by decide) | kernel_rfl
    · intro x1 x2 x3 x4 x5 c1 c2 c3 c4 c5 w' h1 h2 h3 h4 h5 hS'
      obtain ⟨g1, k1, _, rfl, _⟩ := h1.form (by omega)
      obtain ⟨g2, k2, _, rfl, _⟩ := h2.form (by omega)
      obtain ⟨g3, k3, _, rfl, _⟩ := h3.form (by omega)
      obtain ⟨g4, k4, _, rfl, _⟩ := h4.form (by omega)
      obtain ⟨g6, k6, _, rfl, _⟩ := h5.form (by omega)
      simp only [putA, setL, Act.put, List.setIfInBounds_toArray, List.set_cons_zero, List.set_cons_succ]
      refine wpAnyH_ready (rs := [14]) (by kernel_rfl) (by simp) (AllReadyH.cons rfl (fun K1 hK1 => ?_) AllReadyH.nil)
      rw [if_pos (by rfl)]
      refine wp_build6 _ _ _ _ _ _ _ _ _ _ _ _ _ rfl _ _ _ _ _ _ rfl rfl rfl rfl rfl rfl _ (built_sorter _ _ _ _ _ _ _ _ _ _ _ _ _ _ _ _ _ _) ?_
      refine hK1.out _ _ trivial (fun _ => ?_)
      refine wpAnyH_ready (rs := [15]) (by kernel_rfl) (by simp) (AllReadyH.cons rfl (fun K2 hK2 => ?_) AllReadyH.nil)
      rw [if_pos (by rfl)]
      go_simp
      refine hK2.out _ _ trivial (fun _ => ?_)
      refine wpAnyH_ready (rs := [16]) (by kernel_rfl) (by simp) (AllReadyH.cons rfl (fun K3 hK3 => ?_) AllReadyH.nil)
      rw [if_pos (by rfl)]
      go_simp
      refine hK3.out _ _ trivial (fun _ => ?_)
      refine wpAnyH_done (by kernel_rfl) ?_ _
      have hS8 := ((hS'.alloc (.cells #[.slice ao s.length cap, .slice (some ⟨g1, 0, none⟩) s.length k1, .slice (some ⟨g2, 0, none⟩) (mx + 2) k2, .slice (some ⟨g3, 0, none⟩) (mx + 2) k3, .slice (some ⟨g4, 0, none⟩) s.length k4, .slice none 0 0, .slice (some ⟨g6, 0, none⟩) (s.length + 1) k6] 72)).one_nil).pick [1, 2, 3, 4, 5, 0, 6] (by decide) [soB w'.heap.size (.slice ao s.length cap) (.slice (some ⟨g1, 0, none⟩) s.length k1) (.slice (some ⟨g2, 0, none⟩) (mx + 2) k2) (.slice (some ⟨g3, 0, none⟩) (mx + 2) k3) (.slice (some ⟨g4, 0, none⟩) s.length k4) (.slice none 0 0) (.slice (some ⟨g6, 0, none⟩) (s.length + 1) k6), c1, c2, c3, c4, [], c5] rfl
      have e1 : bl (mkB (fun j => decide (s.length - 1 ≤ j) && sm s j) s.length) = List.replicate s.length (.bool false) := by
        rw [mkB_congr _ (fun _ => false) _ (fun j hj => by
          by_cases h : s.length - 1 ≤ j
          · rw [sm_last s j (by omega)]; simp
          · simp [h])]
        unfold mkB bl
        rw [List.eq_replicate_iff]
        refine ⟨by simp, ?_⟩
        intro x hx
        obtain ⟨y, hy, rfl⟩ := List.mem_map.1 hx
        obtain ⟨z, _, rfl⟩ := List.mem_map.1 hy
        rfl
      have e2 : iv (mkI (fun c => if c = 0 then 0 else (cS s 0 (c - 1) : Int)) (mx + 2)) = List.replicate (mx + 2) (.int .i64 0) := by
        rw [mkI_congr _ (fun _ => 0) _ (fun c _ => by split <;> simp [cS]), mkI_const, iv_replicate]
      have e3 : iv (mkI (fun c => (cL s 0 c : Int)) (mx + 2)) = List.replicate (mx + 2) (.int .i64 0) := by
        rw [mkI_congr _ (fun _ => 0) _ (fun c _ => by simp [cL]), mkI_const, iv_replicate]
      have HF := Lib.hid (And.intro e1 (And.intro e2 (And.intro e3 (And.intro h1 (And.intro h2 (And.intro h3 (And.intro h4 (And.intro h5 hS8))))))))
      clear e1 e2 e3 h1 h2 h3 h4 h5 hS8 hS'
      go_wp2_with fail
      go_meet
      case rel =>
        obtain ⟨e1, e2, e3, h1, h2, h3, h4, h5, hS8⟩ := HF.out
        exact ⟨_, g1, g2, g3, g4, g6, k1, k2, k3, k4, k6, c1, c2, c3, c4, c5, rfl, Lib.hid ⟨by rw [e1]; exact h1, by rw [e2]; exact h2, by rw [e3]; exact h3, by rw [iv_replicate]; exact h4, by rw [mkI_const, iv_replicate]; exact h5, hS8⟩⟩
  case rest =>
    obtain ⟨p, g1, g2, g3, g4, g6, k1, k2, k3, k4, k6, c1, c2, c3, c4, c6, rfl, HQ0⟩ := hcut
    obtain ⟨hr1, hr2, hr3, hr4, hr6, hS0⟩ := HQ0.out
    have H46 := Lib.hid (And.intro hr2 (And.intro hr3 (And.intro hr4 hr6)))
    obtain ⟨ad, rfl, _⟩ := hT.at (iv_get _ 0 _ (tI_get s 0 (by omega)))
    have HT : Hid (∀ wx, Below w.heap.size w wx → ∀ k, k < s.length → wx.cell? (ad.add k) = some (.int .i64 (ch s k : Int))) := Lib.hid fun wx hb k hk => by
      obtain ⟨ad', e, hc⟩ := (hT.keep hb).at (iv_get _ k _ (tI_get s k hk))
      cases e
      exact hc
    have HQ1 := Lib.hid (And.intro hr1 hS0)
    clear HQ0 hr1 hr2 hr3 hr4 hr6 hS0 hS
    have hn2 : (s.length : Int) - 2 = ((s.length - 1 : Nat) : Int) - 1 := by omega
    have HN2 := Lib.hid hn2
    clear hn2
    go_wp2_with fail
    go_loopg [7] (s.length - 1) (fun k s7 wr => k ≤ s.length - 1 ∧ s7 = .int .i64 ((k : Int) - 1) ∧ ∃ c1, Hid (RowC 4 1 (.slice (some ⟨g1, 0, none⟩) s.length k1) s.length (bl (mkB (fun j => decide (k ≤ j) && sm s j) s.length)) c1 ∧ St w.heap.size w wr [soB p (.slice (some ad) s.length cap) (.slice (some ⟨g1, 0, none⟩) s.length k1) (.slice (some ⟨g2, 0, none⟩) (mx + 2) k2) (.slice (some ⟨g3, 0, none⟩) (mx + 2) k3) (.slice (some ⟨g4, 0, none⟩) s.length k4) (.slice none 0 0) (.slice (some ⟨g6, 0, none⟩) (s.length + 1) k6), c1, c2, c3, c4, [], c6]))
    case atStart => exact ⟨Nat.le_refl _, by rw [← HN2.out], c1, HQ1⟩
    case round =>
      clear HQ1
      obtain ⟨hk, rfl, c1, HQ⟩ := hrel
      have hS := HQ.out.2
      have h1 := HQ.out.1
      have hx1 := hS.cell 0 rfl (List.mem_singleton.2 rfl) 1
      cases gk with
      | zero =>
        have HR1 : Hid (RowC 4 1 (.slice (some ⟨g1, 0, none⟩) s.length k1) s.length (bl (mkB (sm s) s.length)) c1) := Lib.hid (by
          have e : mkB (fun j => decide (0 ≤ j) && sm s j) s.length = mkB (sm s) s.length := mkB_congr _ _ _ fun j _ => by simp
          rw [← e]
          exact h1)
        have HS := Lib.hid hS
        clear h1 hS HQ hx1 hk
        go_wp2_with fail
        go_ways
        go_loopg [77] s.length (fun m s77 wr => ∃ i : Nat, i + m = s.length ∧ s77 = .int .i64 (i : Int) ∧ ∃ c2 c3, Hid (RowC 3 1 (.slice (some ⟨g2, 0, none⟩) (mx + 2) k2) (mx + 2) (iv (mkI (fun c => if c = 0 then 0 else (cS s i (c - 1) : Int)) (mx + 2))) c2 ∧ RowC 3 1 (.slice (some ⟨g3, 0, none⟩) (mx + 2) k3) (mx + 2) (iv (mkI (fun c => (cL s i c : Int)) (mx + 2))) c3 ∧ St w.heap.size w wr [soB p (.slice (some ad) s.length cap) (.slice (some ⟨g1, 0, none⟩) s.length k1) (.slice (some ⟨g2, 0, none⟩) (mx + 2) k2) (.slice (some ⟨g3, 0, none⟩) (mx + 2) k3) (.slice (some ⟨g4, 0, none⟩) s.length k4) (.slice none 0 0) (.slice (some ⟨g6, 0, none⟩) (s.length + 1) k6), c1, c2, c3, c4, [], c6]))
        case atStart => exact ⟨0, by omega, rfl, c2, c3, Lib.hid ⟨H46.out.1, H46.out.2.1, HS.out⟩⟩
        case round =>
          clear HS
          obtain ⟨i, hi, rfl, c2, c3, HQ⟩ := hrel
          have h2 := HQ.out.1
          have h3 := HQ.out.2.1
          have hS := HQ.out.2.2
          have h1 := HR1.out
          cases gk with
          | zero =>
            obtain rfl : i = s.length := by omega
            have hg0 : mkI (fun c => if c = 0 then 0 else (cS s s.length (c - 1) : Int)) (mx + 2) = mkI (gTo s 0) (mx + 2) := mkI_congr _ _ _ fun c _ => by
              unfold gTo
              by_cases hc : c = 0
              · subst hc; rfl
              · rw [if_neg hc, if_neg (by omega), cS_all]
            have hl0 : mkI (fun c => (cL s s.length c : Int)) (mx + 2) = mkI (lTo s 0) (mx + 2) := mkI_congr _ _ _ fun c _ => by
              unfold lTo
              rw [if_neg (by omega), cL_all]
            rw [hg0] at h2
            rw [hl0] at h3
            have HQ3 := Lib.hid (And.intro h2 (And.intro h3 hS))
            clear HQ h1 h2 h3 hS hg0 hl0 hi
            go_wp2_with fail
            go_ways
            go_loopg [111] (mx + 1) (fun m s111 wr => ∃ c : Nat, c + m = mx + 1 ∧ s111 = .int .i64 (c : Int) ∧ ∃ c2 c3, Hid (RowC 3 1 (.slice (some ⟨g2, 0, none⟩) (mx + 2) k2) (mx + 2) (iv (mkI (gTo s (c)) (mx + 2))) c2 ∧ RowC 3 1 (.slice (some ⟨g3, 0, none⟩) (mx + 2) k3) (mx + 2) (iv (mkI (lTo s (c)) (mx + 2))) c3 ∧ St w.heap.size w wr [soB p (.slice (some ad) s.length cap) (.slice (some ⟨g1, 0, none⟩) s.length k1) (.slice (some ⟨g2, 0, none⟩) (mx + 2) k2) (.slice (some ⟨g3, 0, none⟩) (mx + 2) k3) (.slice (some ⟨g4, 0, none⟩) s.length k4) (.slice none 0 0) (.slice (some ⟨g6, 0, none⟩) (s.length + 1) k6), c1, c2, c3, c4, [], c6]))
            case atStart => exact ⟨0, by omega, rfl, c2, c3, HQ3⟩
            case round =>
              clear HQ3
              obtain ⟨c, hc, rfl, c2, c3, HQ⟩ := hrel
              have h2 := HQ.out.1
              have h3 := HQ.out.2.1
              have hS := HQ.out.2.2
              cases gk with
              | zero =>
                obtain rfl : c = mx + 1 := by omega
                have hg0 : mkI (gTo s (mx + 1)) (mx + 2) = mkI (fun c => (gB s c : Int)) (mx + 2) := mkI_congr _ _ _ fun c hc => by
                  unfold gTo
                  rw [if_pos (by omega)]
                have hl0 : mkI (lTo s (mx + 1)) (mx + 2) = mkI (litP s mx) (mx + 2) := mkI_congr _ _ _ fun c hc => by
                  unfold lTo litP
                  by_cases h : c ≤ mx
                  · rw [if_pos (by omega), if_pos h]
                  · rw [if_neg (by omega), if_neg h, Lpos_far s mx c HMX.out (by omega)]
                    rfl
                rw [hg0] at h2
                rw [hl0] at h3
                have HQ4 := Lib.hid (And.intro h2 (And.intro h3 hS))
                have hx6 := hS.cell 0 rfl (List.mem_singleton.2 rfl) 6
                clear HQ h2 h3 hS hg0 hl0 hc
                go_wp2_with fail
                go_ways
                go_loopg [153] (s.length + 1) (fun m s153 wr => ∃ i : Nat, i + m = s.length + 1 ∧ s153 = .int .i64 (i : Int) ∧ ∃ c6, Hid (RowC 3 1 (.slice (some ⟨g6, 0, none⟩) (s.length + 1) k6) (s.length + 1) (iv (mkI (fun j => if j < i then -1 else 0) (s.length + 1))) c6 ∧ St w.heap.size w wr [soB p (.slice (some ad) s.length cap) (.slice (some ⟨g1, 0, none⟩) s.length k1) (.slice (some ⟨g2, 0, none⟩) (mx + 2) k2) (.slice (some ⟨g3, 0, none⟩) (mx + 2) k3) (.slice (some ⟨g4, 0, none⟩) s.length k4) (.slice none 0 0) (.slice (some ⟨g6, 0, none⟩) (s.length + 1) k6), c1, c2, c3, c4, [], c6]))
                case atStart => exact ⟨0, by omega, rfl, c6, Lib.hid ⟨by rw [mkI_congr _ (fun _ => 0) _ (fun j _ => if_neg (by omega))]; exact H46.out.2.2.2, HQ4.out.2.2⟩⟩
                case round =>
                  obtain ⟨i, hi, rfl, c6, HQ⟩ := hrel
                  have h6 := HQ.out.1
                  have hS := HQ.out.2
                  cases gk with
                  | zero =>
                    obtain rfl : i = s.length + 1 := by omega
                    have hl0 : lms s 0 = false := rfl
                    have hn0 : mkI (fun j => if j < s.length + 1 then -1 else 0) (s.length + 1) = mkI (fun j => if j < 1 then numP s j else -1) (s.length + 1) := mkI_congr _ _ _ fun j hj => by
                      rw [if_pos hj]
                      by_cases h : j < 1
                      · rw [if_pos h]
                        obtain rfl : j = 0 := by omega
                        unfold numP
                        rw [hl0]; rfl
                      · rw [if_neg h]
                    rw [hn0] at h6
                    have hc0 : cntM s 1 = 0 := by
                      rw [cntM_succ, hl0]; rfl
                    have h5 : RowC 3 1 (.slice none 0 0) (cntM s 1) (iv (tI ((marksP s).take (cntM s 1)))) [] := by
                      rw [hc0]; exact RowC.nil _ _
                    have HQ5 := Lib.hid (And.intro h5 (And.intro h6 hS))
                    clear HQ h6 hS h5 hn0 hc0 hl0 hi
                    go_wp2_with fail
                    go_ways
                    go_loopg [12] (s.length - 1) (fun m s12 wr => ∃ i : Nat, i + m = s.length ∧ 1 ≤ i ∧ s12 = .int .i64 (i : Int) ∧ ∃ v5 c5 c6, Hid (RowC 3 1 v5 (cntM s i) (iv (tI ((marksP s).take (cntM s i)))) c5 ∧ RowC 3 1 (.slice (some ⟨g6, 0, none⟩) (s.length + 1) k6) (s.length + 1) (iv (mkI (fun j => if j < i then numP s j else -1) (s.length + 1))) c6 ∧ St w.heap.size w wr [soB p (.slice (some ad) s.length cap) (.slice (some ⟨g1, 0, none⟩) s.length k1) (.slice (some ⟨g2, 0, none⟩) (mx + 2) k2) (.slice (some ⟨g3, 0, none⟩) (mx + 2) k3) (.slice (some ⟨g4, 0, none⟩) s.length k4) v5 (.slice (some ⟨g6, 0, none⟩) (s.length + 1) k6), c1, c2, c3, c4, c5, c6]))
                    case atStart => exact ⟨1, by omega, Nat.le_refl _, rfl, _, [], c6, HQ5⟩
                    case round =>
                      clear HQ5
                      obtain ⟨i, hi, hi1, rfl, v5, c5, c6, HQ⟩ := hrel
                      have h5 := HQ.out.1
                      have h6 := HQ.out.2.1
                      have hS := HQ.out.2.2
                      have h1 := HR1.out
                      cases gk with
                      | zero =>
                        obtain rfl : i = s.length := by omega
                        rw [← marksP_len, List.take_length] at h5
                        rw [mkI_congr _ (numP s) _ (fun j hj => by
                          by_cases h : j < s.length
                          · rw [if_pos h]
                          · rw [if_neg h]
                            obtain rfl : j = s.length := by omega
                            unfold numP
                            cases hl : lms s s.length with
                            | false => rfl
                            | true => exact absurd (lms_lt hl) (by omega))] at h6
                        have HE := Lib.hid (And.intro h1 (And.intro HQ4.out.1 (And.intro HQ4.out.2.1 (And.intro H46.out.2.2.1 (And.intro h5 (And.intro h6 hS))))))
                        clear h1 h5 h6 hS HQ HQ4 HR1 H46 hi hi1
                        go_wp2_with fail
                        go_ret
                        exact ⟨p, _, _, _, _, _, _, _, _, _, _, _, _, rfl, HE.out⟩
                      | succ m =>
                        obtain ⟨k, rfl⟩ : ∃ k, i = k + 1 := ⟨i - 1, by omega⟩
                        have hlt : k + 1 < s.length := by omega
                        have hkl : k < s.length := by omega
                        have hil : ((k : Int) + 1) < (s.length : Int) := by omega
                        have hx1 := hS.cell 0 rfl (List.mem_singleton.2 rfl) 1
                        have hs0 := h1.cellAt hS 1 rfl (bl_get _ (k + 1) _ (mkB_get _ _ (k + 1) hlt))
                        have hs1 := h1.cellAt hS 1 rfl (bl_get _ k _ (mkB_get _ _ k hkl))
                        have hdo : lms s (k + 1) = false → Hid (RowC 3 1 v5 (cntM s (k + 2)) (iv (tI ((marksP s).take (cntM s (k + 2))))) c5 ∧ RowC 3 1 (.slice (some ⟨g6, 0, none⟩) (s.length + 1) k6) (s.length + 1) (iv (mkI (fun j => if j < k + 2 then numP s j else -1) (s.length + 1))) c6 ∧ St w.heap.size w wr [soB p (.slice (some ad) s.length cap) (.slice (some ⟨g1, 0, none⟩) s.length k1) (.slice (some ⟨g2, 0, none⟩) (mx + 2) k2) (.slice (some ⟨g3, 0, none⟩) (mx + 2) k3) (.slice (some ⟨g4, 0, none⟩) s.length k4) v5 (.slice (some ⟨g6, 0, none⟩) (s.length + 1) k6), c1, c2, c3, c4, c5, c6]) := by
                          intro h
                          have e : cntM s (k + 2) = cntM s (k + 1) := by rw [cntM_succ, h]; rfl
                          rw [e]
                          refine Lib.hid ⟨h5, ?_, hS⟩
                          rw [mkI_congr _ (fun j => if j < k + 1 then numP s j else -1) _ (fun j _ => by
                            by_cases hj : j = k + 1
                            · subst hj
                              rw [if_pos (by omega), if_neg (by omega)]
                              unfold numP
                              rw [h]; rfl
                            · by_cases h2 : j < k + 1
                              · rw [if_pos h2, if_pos (by omega)]
                              · rw [if_neg h2, if_neg (by omega)])]
                          exact h6
                        have HDO := Lib.hid hdo
                        clear hdo
                        obtain ⟨ao5, cap5, rfl⟩ := h5.shape
                        cases hb : sm s (k + 1) with
                        | false =>
                          rw [hb] at hs0
                          have HD := HDO.out (by rw [lms_succ, hb]; rfl)
                          clear hb hs1 HDO
                          go_wp2_with fail
                          go_roundg m
                          case measure => omega
                          case rel => exact ⟨k + 2, by omega, by omega, by go_num, _, c5, c6, HD⟩
                        | true =>
                          rw [hb] at hs0
                          cases hb1 : sm s k with
                          | true =>
                            rw [hb1] at hs1
                            have HD := HDO.out (by rw [lms_succ, hb, hb1]; rfl)
                            clear hb hb1 HDO
                            go_wp2_with fail
                            go_roundg m
                            case measure => omega
                            case rel => exact ⟨k + 2, by omega, by omega, by go_num, _, c5, c6, HD⟩
                          | false =>
                            rw [hb1] at hs1
                            have hlm : lms s (k + 1) = true := by rw [lms_succ, hb, hb1]; rfl
                            have hat := marksP_at s (k + 1) hlm
                            have hcs : cntM s (k + 2) = cntM s (k + 1) + 1 := by rw [cntM_succ, hlm]; rfl
                            have hcl : cntM s (k + 1) ≤ 1000000 := by
                              have h1 := (List.getElem?_eq_some_iff.1 hat).1
                              have h2 := marksP_lt s (by omega)
                              omega
                            have hx5 := hS.cell 0 rfl (List.mem_singleton.2 rfl) 5
                            have hx6 := hS.cell 0 rfl (List.mem_singleton.2 rfl) 6
                            have hl6 := h6.cellAt hS 6 rfl (iv_get _ (k + 1) _ (mkI_get _ _ (k + 1) (by omega)))
                            rw [if_neg (Nat.lt_irrefl (k + 1))] at hl6
                            have hf6 := h6.freeAt hS 6 rfl (k + 1)
                            have HM := Lib.hid (And.intro hlm (And.intro hat hcs))
                            clear hb hb1 HDO hlm hat hcs
                            go_upto_region 29 with (fail)
                            go_cut [] (fun wc => ∃ c6', Hid (RowC 3 1 (.slice (some ⟨g6, 0, none⟩) (s.length + 1) k6) (s.length + 1) (iv (mkI (fun j => if j < k + 2 then numP s j else -1) (s.length + 1))) c6' ∧ St w.heap.size w wc [soB p (.slice (some ad) s.length cap) (.slice (some ⟨g1, 0, none⟩) s.length k1) (.slice (some ⟨g2, 0, none⟩) (mx + 2) k2) (.slice (some ⟨g3, 0, none⟩) (mx + 2) k3) (.slice (some ⟨g4, 0, none⟩) s.length k4) (.slice ao5 (cntM s (k + 1)) cap5) (.slice (some ⟨g6, 0, none⟩) (s.length + 1) k6), c1, c2, c3, c4, c5, c6']))
                            case first =>
                              go_wp2_with (first | ((with_reducible refine wpStill_plain ?_ ?_ (fun _ _ => ?_)); rfl; rfl) | (with_reducible refine wpStill_nil ?_) | ((with_reducible refine wp_draw_tail (id := 29) 11 mixed ?_ (fun _ hK => ?_)); kernel_rfl; simp only [List.take_succ_cons, List.take_zero, List.drop_succ_cons, List.drop_zero] at hK ⊢))
                              go_meet
                              case rel =>
                                obtain ⟨c6', h6', hS'⟩ := h6.store hS.drew 6 rfl rfl (k + 1) (.int .i64 (cntM s (k + 1) : Int))
                                rw [iv_set, mkI_set, mkI_congr _ (fun j => if j < k + 2 then numP s j else -1) _ (fun j _ => by
                                  by_cases hj : j = k + 1
                                  · subst hj
                                    rw [if_pos rfl, if_pos (by omega)]
                                    unfold numP
                                    rw [HM.out.1]; rfl
                                  · rw [if_neg hj]
                                    by_cases h2 : j < k + 1
                                    · rw [if_pos h2, if_pos (by omega)]
                                    · rw [if_neg h2, if_neg (by omega)])] at h6'
                                exact ⟨c6', Lib.hid ⟨h6', hS'⟩⟩
                            case rest =>
                              clear hx1 hx5 hx6 hs0 hs1 hl6 hf6 hS h6 HQ h1
                              obtain ⟨c6', HC⟩ := hcut
                              have hS := HC.out.2
                              have hx5 := hS.cell 0 rfl (List.mem_singleton.2 rfl) 5
                              go_wp2_with ((at_builtin; (refine wpList_app1 5 37 i0 (.int .i64 0) _ _ _ rfl rfl rfl rfl Try.underlying37 i0a i0b i0c i0d rfl hS rfl h5 rfl ?_ ?_ ?_); (unfold maxLen; omega); omega; intro v9 c9 w9 h9 hS9); have k5 := hS9.cell 0 rfl (List.mem_singleton.2 rfl) 5; have f5 := hS9.free 0 rfl (List.mem_singleton.2 rfl) 5; obtain ⟨ao9, cap9, rfl⟩ := h9.shape)
                              go_roundg m
                              case measure => omega
                              case rel =>
                                refine ⟨k + 2, by omega, by omega, by go_num, _, c9, c6', Lib.hid ⟨?_, HC.out.1, hS9.store 0 rfl 5 _⟩⟩
                                rw [HM.out.2.2, List.take_add_one, HM.out.2.1]
                                have e : iv (tI ((marksP s).take (cntM s (k + 1)) ++ (some (k + 1)).toList)) = iv (tI ((marksP s).take (cntM s (k + 1)))) ++ [.int .i64 ((k + 1 : Nat) : Int)] := by simp [iv, tI]
                                rw [e]
                                exact h9
                  | succ m =>
                    have hlt : i < s.length + 1 := by omega
                    have hil : (i : Int) < (s.length : Int) + 1 := by omega
                    have hx6 := hS.cell 0 rfl (List.mem_singleton.2 rfl) 6
                    have hl6 := h6.cellAt hS 6 rfl (iv_get _ i _ (mkI_get _ _ i hlt))
                    rw [if_neg (Nat.lt_irrefl i)] at hl6
                    have hf6 := h6.freeAt hS 6 rfl i
                    go_wp2_with fail
                    go_roundg m
                    case measure => omega
                    case rel =>
                      obtain ⟨c6', h6', hS'⟩ := h6.store hS 6 rfl rfl i (.int .i64 (-1))
                      rw [iv_set, mkI_set, mkI_congr _ (fun j => if j < i + 1 then -1 else 0) _ (fun j _ => by
                        by_cases h : j = i
                        · rw [if_pos h, if_pos (by omega)]
                        · rw [if_neg h]
                          by_cases h2 : j < i
                          · rw [if_pos h2, if_pos (by omega)]
                          · rw [if_neg h2, if_neg (by omega)])] at h6'
                      exact ⟨i + 1, by omega, by go_num, c6', Lib.hid ⟨h6', hS'⟩⟩
              | succ m =>
                have hcm : c ≤ mx := by omega
                have hc1 : c + 1 < mx + 2 := by omega
                have hc2 : c < mx + 2 := by omega
                have hci : (c : Int) ≤ 1000000 := by omega
                have hx2 := hS.cell 0 rfl (List.mem_singleton.2 rfl) 2
                have hx3 := hS.cell 0 rfl (List.mem_singleton.2 rfl) 3
                have hb1 := gB_le s mx HMX.out (c + 1) (by omega)
                have hb2 := lB_le_gB s c
                have hb3 : lB s c = gB s c + (Lpos s c).length := rfl
                have hb4 : gB s (c + 1) = lB s c + (Spos s c).length := rfl
                have hgi : (gB s c : Int) ≤ 1000000 := by omega
                have hLi : ((Lpos s c).length : Int) ≤ 1000000 := by omega
                have hSi : ((Spos s c).length : Int) ≤ 1000000 := by omega
                have hBi : (lB s c : Int) ≤ 1000000 := by omega
                have hlg := h2.cellAt hS 2 rfl (iv_get _ c _ (mkI_get _ _ c hc2))
                rw [show gTo s c c = (gB s c : Int) from by unfold gTo; rw [if_pos (Nat.le_refl _)]] at hlg
                have hll := h3.cellAt hS 3 rfl (iv_get _ c _ (mkI_get _ _ c hc2))
                rw [show lTo s c c = ((Lpos s c).length : Int) from by unfold lTo; rw [if_neg (by omega)]] at hll
                have hfl := h3.freeAt hS 3 rfl c
                have HB3 := Lib.hid (And.intro hb3 hb4)
                clear hb1 hb2 hb3 hb4
                go_upto_region 17 with (fail)
                go_cut [] (fun wc => ∃ c3', Hid (RowC 3 1 (.slice (some ⟨g3, 0, none⟩) (mx + 2) k3) (mx + 2) (iv (mkI (lTo s (c + 1)) (mx + 2))) c3' ∧ St w.heap.size w wc [soB p (.slice (some ad) s.length cap) (.slice (some ⟨g1, 0, none⟩) s.length k1) (.slice (some ⟨g2, 0, none⟩) (mx + 2) k2) (.slice (some ⟨g3, 0, none⟩) (mx + 2) k3) (.slice (some ⟨g4, 0, none⟩) s.length k4) (.slice none 0 0) (.slice (some ⟨g6, 0, none⟩) (s.length + 1) k6), c1, c2, c3', c4, [], c6]))
                case first =>
                  go_wp2_with (first | ((with_reducible refine wpStill_plain ?_ ?_ (fun _ _ => ?_)); rfl; rfl) | (with_reducible refine wpStill_nil ?_) | ((with_reducible refine wp_draw_tail (id := 17) 16 mixed ?_ (fun _ hK => ?_)); kernel_rfl; simp only [List.take_succ_cons, List.take_zero, List.drop_succ_cons, List.drop_zero] at hK ⊢))
                  go_meet
                  case rel =>
                    obtain ⟨c3', h3', hS'⟩ := h3.store hS.drew 3 rfl rfl c (.int .i64 (((Lpos s c).length : Int) + (gB s c : Int)))
                    rw [iv_set, mkI_set, mkI_congr _ (lTo s (c + 1)) _ (fun j _ => by
                      unfold lTo
                      have e := HB3.out.1
                      by_cases h : j = c
                      · subst h; rw [if_pos rfl, if_pos (by omega)]; omega
                      · rw [if_neg h]
                        by_cases h2 : j < c
                        · rw [if_pos h2, if_pos (by omega)]
                        · rw [if_neg h2, if_neg (by omega)])] at h3'
                    exact ⟨c3', Lib.hid ⟨h3', hS'⟩⟩
                case rest =>
                  clear hx2 hx3 hlg hll hfl hS h3 HQ
                  obtain ⟨c3', HC⟩ := hcut
                  have h3 := HC.out.1
                  have hS := HC.out.2
                  have hx2 := hS.cell 0 rfl (List.mem_singleton.2 rfl) 2
                  have hx3 := hS.cell 0 rfl (List.mem_singleton.2 rfl) 3
                  have hlg := h2.cellAt hS 2 rfl (iv_get _ (c + 1) _ (mkI_get _ _ (c + 1) hc1))
                  rw [show gTo s c (c + 1) = ((Spos s c).length : Int) from by unfold gTo; rw [if_neg (by omega)]; rfl] at hlg
                  have hll := h3.cellAt hS 3 rfl (iv_get _ c _ (mkI_get _ _ c hc2))
                  rw [show lTo s (c + 1) c = (lB s c : Int) from by unfold lTo; rw [if_pos (by omega)]] at hll
                  have hfg := h2.freeAt hS 2 rfl (c + 1)
                  go_wp2_with (first | ((with_reducible refine wpStill_plain ?_ ?_ (fun _ _ => ?_)); rfl; rfl) | (with_reducible refine wpStill_nil ?_) | ((with_reducible refine wp_draw_tail (id := 18) 17 mixed ?_ (fun _ hK => ?_)); kernel_rfl; simp only [List.take_succ_cons, List.take_zero, List.drop_succ_cons, List.drop_zero] at hK ⊢))
                  go_roundg m
                  case measure => omega
                  case rel =>
                    obtain ⟨c2', h2', hS'⟩ := h2.store hS.drew 2 rfl rfl (c + 1) (.int .i64 (((Spos s c).length : Int) + (lB s c : Int)))
                    rw [iv_set, mkI_set, mkI_congr _ (gTo s (c + 1)) _ (fun j _ => by
                      unfold gTo
                      have e := HB3.out.2
                      by_cases h : j = c + 1
                      · subst h; rw [if_pos rfl, if_pos (by omega)]; omega
                      · rw [if_neg h]
                        by_cases h2 : j ≤ c
                        · rw [if_pos h2, if_pos (by omega)]
                        · rw [if_neg h2, if_neg (by omega)])] at h2'
                    exact ⟨c + 1, by omega, by go_num, c2', c3', Lib.hid ⟨h2', h3, hS'⟩⟩
          | succ m =>
            have hlt : i < s.length := by omega
            have ht0 := HT.out wr hS.below i hlt
            have hx1 := hS.cell 0 rfl (List.mem_singleton.2 rfl) 1
            have hx2 := hS.cell 0 rfl (List.mem_singleton.2 rfl) 2
            have hx3 := hS.cell 0 rfl (List.mem_singleton.2 rfl) 3
            have hs0 := h1.cellAt hS 1 rfl (bl_get _ i _ (mkB_get _ _ i hlt))
            have hcm := HMX.out _ (ch_mem s i hlt)
            have hci : (ch s i : Int) ≤ 1000000 := by omega
            have hc1 : ch s i + 1 < mx + 2 := by omega
            have hc2 : ch s i < mx + 2 := by omega
            have hcS := cS_le s i (ch s i)
            have hcL := cL_le s i (ch s i)
            have hcSi : (cS s i (ch s i) : Int) ≤ 1000000 := by omega
            have hcLi : (cL s i (ch s i) : Int) ≤ 1000000 := by omega
            have hlg := h2.cellAt hS 2 rfl (iv_get _ (ch s i + 1) _ (mkI_get _ _ (ch s i + 1) hc1))
            rw [if_neg (Nat.succ_ne_zero _), Nat.add_sub_cancel] at hlg
            have hfg := h2.freeAt hS 2 rfl (ch s i + 1)
            have hll := h3.cellAt hS 3 rfl (iv_get _ (ch s i) _ (mkI_get _ _ (ch s i) hc2))
            have hfl := h3.freeAt hS 3 rfl (ch s i)
            clear hcS hcL hcm
            cases hb : sm s i with
            | true =>
              rw [hb] at hs0
              have HB := Lib.hid hb
              clear hb
              go_wp2_with fail
              go_roundg m
              case measure => omega
              case rel =>
                obtain ⟨c2', h2', hS'⟩ := h2.store hS 2 rfl rfl (ch s i + 1) (.int .i64 ((cS s i (ch s i) : Int) + 1))
                rw [iv_set, mkI_set, mkI_congr _ (fun c => if c = 0 then 0 else (cS s (i + 1) (c - 1) : Int)) _ (fun c _ => by
                  by_cases hc : c = 0
                  · subst hc; simp
                  · simp only [if_neg hc]
                    rw [cS_succ]
                    by_cases e : c = ch s i + 1
                    · subst e; simp [HB.out]
                    · rw [if_neg e, if_neg (fun hh => by have := hh.1; omega)]; simp)] at h2'
                have h3' := h3
                rw [mkI_congr _ (fun c => (cL s (i + 1) c : Int)) _ (fun c _ => by rw [cL_succ, if_neg (by rw [HB.out]; simp)]; simp)] at h3'
                exact ⟨i + 1, by omega, by go_num, c2', c3, Lib.hid ⟨h2', h3', hS'⟩⟩
            | false =>
              rw [hb] at hs0
              have HB := Lib.hid hb
              clear hb
              go_wp2_with fail
              go_roundg m
              case measure => omega
              case rel =>
                obtain ⟨c3', h3', hS'⟩ := h3.store hS 3 rfl rfl (ch s i) (.int .i64 ((cL s i (ch s i) : Int) + 1))
                rw [iv_set, mkI_set, mkI_congr _ (fun c => (cL s (i + 1) c : Int)) _ (fun c _ => by
                  rw [cL_succ]
                  by_cases e : c = ch s i
                  · subst e
                    rw [if_pos rfl, if_pos ⟨rfl, HB.out⟩]; simp
                  · rw [if_neg e, if_neg (by omega)]; simp)] at h3'
                have h2' := h2
                rw [mkI_congr _ (fun c => if c = 0 then 0 else (cS s (i + 1) (c - 1) : Int)) _ (fun c _ => by simp [cS_succ, HB.out])] at h2'
                exact ⟨i + 1, by omega, by go_num, c2, c3', Lib.hid ⟨h2', h3', hS'⟩⟩
      | succ k =>
        have e : (((k + 1 : Nat) : Int) - 1) = (k : Int) := by omega
        rw [e]
        clear e
        have hk1 : k + 1 < s.length := by omega
        have hkn : k < s.length := by omega
        have ht0 := HT.out wr hS.below k hkn
        have ht1 := HT.out wr hS.below (k + 1) hk1
        replace ht1 : wr.cell? ⟨ad.block, ad.off + (k + 1), none⟩ = some (.int .i64 (ch s (k + 1) : Int)) := ht1
        have hs1 := h1.cellAt hS 1 rfl (bl_get _ (k + 1) _ (mkB_get _ _ (k + 1) hk1))
        rw [show (decide (k + 1 ≤ k + 1) && sm s (k + 1)) = sm s (k + 1) from by simp] at hs1
        have hs0 := h1.cellAt hS 1 rfl (bl_get _ k _ (mkB_get _ _ k hkn))
        have hf0 := h1.freeAt hS 1 rfl k
        have hst := sm_step s k hk1
        have hki : (k : Int) ≤ 1000000 := by omega
        have key : ∀ b, sm s k = b → ∃ c1', RowC 4 1 (.slice (some ⟨g1, 0, none⟩) s.length k1) s.length (bl (mkB (fun j => decide (k ≤ j) && sm s j) s.length)) c1' ∧ St w.heap.size w (wr.drew.setCell ⟨g1, k, none⟩ (.bool b)) [soB p (.slice (some ad) s.length cap) (.slice (some ⟨g1, 0, none⟩) s.length k1) (.slice (some ⟨g2, 0, none⟩) (mx + 2) k2) (.slice (some ⟨g3, 0, none⟩) (mx + 2) k3) (.slice (some ⟨g4, 0, none⟩) s.length k4) (.slice none 0 0) (.slice (some ⟨g6, 0, none⟩) (s.length + 1) k6), c1', c2, c3, c4, [], c6] := by
          intro b hb
          obtain ⟨c1', h1', hS'⟩ := h1.store hS.drew 1 rfl rfl k (.bool b)
          rw [bl_set, mkB_set, mkB_congr _ (fun j => decide (k ≤ j) && sm s j) _ (fun j _ => by
            by_cases e : j = k
            · subst e; simp [hb]
            · rw [if_neg e]
              congr 1
              rw [decide_eq_decide]
              omega)] at h1'
          exact ⟨c1', h1', hS'⟩
        have KEY := Lib.hid key
        clear key
        rcases Nat.lt_trichotomy (ch s k) (ch s (k + 1)) with q | q | q
        · have hb : sm s k = true := by rw [hst]; simp [q]
          have HB := Lib.hid hb
          clear hb hst
          go_wp2_with (first | ((with_reducible refine wpStill_plain ?_ ?_ (fun _ _ => ?_)); rfl; rfl) | (with_reducible refine wpStill_nil ?_) | ((with_reducible refine wpStill_skipg 15 false ?_ ?_ (fun _ _ => ?_)); rfl; kernel_rfl) | ((with_reducible refine wpStill_skipg 26 true ?_ ?_ (fun _ _ => ?_)); rfl; kernel_rfl) | ((with_reducible refine wp_draw_tail (id := 6) 38 mixed ?_ (fun _ hK => ?_)); kernel_rfl; simp only [List.take_succ_cons, List.take_zero, List.drop_succ_cons, List.drop_zero] at hK ⊢))
          go_roundg k
          case measure => omega
          case rel =>
            obtain ⟨c1', h1', hS'⟩ := KEY.out true HB.out
            exact ⟨by omega, by go_num, c1', Lib.hid ⟨h1', hS'⟩⟩
        · have hb : sm s k = sm s (k + 1) := by rw [hst, q]; simp
          have HB := Lib.hid hb
          have q1 : ((ch s k : Int) == (ch s (k + 1) : Int)) = true := by rw [q]; simp
          have q2 : ¬ ch s k < ch s (k + 1) := by omega
          clear hb hst q
          go_wp2_with (first | ((with_reducible refine wpStill_plain ?_ ?_ (fun _ _ => ?_)); rfl; rfl) | (with_reducible refine wpStill_nil ?_) | ((with_reducible refine wpStill_wantg 15 false ?_ ?_ ?_ (fun _ _ => ?_)); rfl; kernel_rfl; rfl) | ((with_reducible refine wpStill_wantg 26 true ?_ ?_ ?_ (fun _ _ => ?_)); rfl; kernel_rfl; rfl) | ((with_reducible refine wp_draw_tail (id := 6) 38 mixed ?_ (fun _ hK => ?_)); kernel_rfl; simp only [List.take_succ_cons, List.take_zero, List.drop_succ_cons, List.drop_zero] at hK ⊢))
          go_roundg k
          case measure => omega
          case rel =>
            obtain ⟨c1', h1', hS'⟩ := KEY.out _ HB.out
            exact ⟨by omega, by go_num, c1', Lib.hid ⟨h1', hS'⟩⟩
        · have hb : sm s k = false := by rw [hst]; simp; omega
          have HB := Lib.hid hb
          have q1 : ((ch s k : Int) == (ch s (k + 1) : Int)) = false := by rw [beq_eq_false_iff_ne]; omega
          have q2 : ¬ ch s k < ch s (k + 1) := by omega
          clear hb hst
          go_wp2_with (first | ((with_reducible refine wpStill_plain ?_ ?_ (fun _ _ => ?_)); rfl; rfl) | (with_reducible refine wpStill_nil ?_) | ((with_reducible refine wpStill_wantg 15 false ?_ ?_ ?_ (fun _ _ => ?_)); rfl; kernel_rfl; rfl) | ((with_reducible refine wpStill_skipg 26 true ?_ ?_ (fun _ _ => ?_)); rfl; kernel_rfl) | ((with_reducible refine wp_draw_tail (id := 6) 38 mixed ?_ (fun _ hK => ?_)); kernel_rfl; simp only [List.take_succ_cons, List.take_zero, List.drop_succ_cons, List.drop_zero] at hK ⊢))
          go_roundg k
          case measure => omega
          case rel =>
            obtain ⟨c1', h1', hS'⟩ := KEY.out false HB.out
            exact ⟨by omega, by go_num, c1', Lib.hid ⟨h1', hS'⟩⟩
end Go.Proofs.Ytdgpbgdpdmikaab

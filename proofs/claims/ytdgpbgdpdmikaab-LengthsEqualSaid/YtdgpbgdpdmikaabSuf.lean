/-
  Suffix sorting: rows of numbers by functions, slices.Clone, and the two functions of the sorter that only read: end, same.
-/
import Derived.Test.YtdgpbgdpdmikaabMake
import Derived.Test.YtdgpbgdpdmikaabZeros
import Derived.Test.YtdgpbgdpdmikaabBl
import Derived.Test.YtdgpbgdpdmikaabPureSaisC
set_option linter.unusedVariables false
set_option linter.unusedSimpArgs false
namespace Go.Proofs.Ytdgpbgdpdmikaab
open Go.RowKit
set_option maxRecDepth 100000
/-- Numbers by places. -/
def mkI (f : Nat → Int) (n : Nat) : List Int := (List.range n).map f
theorem mkI_length (f : Nat → Int) (n : Nat) : (mkI f n).length = n := by simp [mkI]
theorem mkI_get (f : Nat → Int) (n i : Nat) (h : i < n) : (mkI f n)[i]? = some (f i) := by simp [mkI, h]
theorem mkI_set (f : Nat → Int) (n i : Nat) (v : Int) : (mkI f n).set i v = mkI (fun j => if j = i then v else f j) n := by
  apply List.ext_getElem?
  intro j
  rw [List.getElem?_set, mkI_length]
  by_cases hj : j < n
  · rw [mkI_get _ _ _ hj, mkI_get _ _ _ hj]
    by_cases e : i = j
    · subst e; simp [hj]
    · have e' : ¬ j = i := fun x => e x.symm
      simp [e, e']
  · rw [List.getElem?_eq_none (by rw [mkI_length]; omega), List.getElem?_eq_none (by rw [mkI_length]; omega)]
    by_cases e : i = j
    · subst e; simp [hj]
    · simp [e]
theorem mkI_congr (f g : Nat → Int) (n : Nat) (h : ∀ i, i < n → f i = g i) : mkI f n = mkI g n := by
  unfold mkI
  apply List.map_congr_left
  intro i hi
  exact h i (by simpa using hi)
theorem mkI_const (v : Int) (n : Nat) : mkI (fun _ => v) n = List.replicate n v := by
  unfold mkI
  rw [List.eq_replicate_iff]
  refine ⟨by simp, ?_⟩
  intro x hx
  obtain ⟨_, _, rfl⟩ := List.mem_map.1 hx
  rfl
theorem iv_set (l : List Int) (i : Nat) (v : Int) : (iv l).set i (.int .i64 v) = iv (l.set i v) := by simp [iv, List.map_set]
theorem iv_replicate (n : Nat) (v : Int) : iv (List.replicate n v) = List.replicate n (.int .i64 v) := by simp [iv]
/-- A text of numbers, as numbers. -/
def tI (s : List Nat) : List Int := s.map Int.ofNat
theorem tI_length (s : List Nat) : (tI s).length = s.length := by simp [tI]
theorem tI_get (s : List Nat) (i : Nat) (h : i < s.length) : (tI s)[i]? = some (ch s i : Int) := by
  unfold tI ch
  rw [List.getElem?_map, List.getElem?_eq_getElem h, List.getD_eq_getElem?_getD, List.getElem?_eq_getElem h]
  rfl
/-- Bools by places. -/
def mkB (f : Nat → Bool) (n : Nat) : List Bool := (List.range n).map f
theorem mkB_length (f : Nat → Bool) (n : Nat) : (mkB f n).length = n := by simp [mkB]
theorem mkB_get (f : Nat → Bool) (n i : Nat) (h : i < n) : (mkB f n)[i]? = some (f i) := by simp [mkB, h]
theorem mkB_set (f : Nat → Bool) (n i : Nat) (v : Bool) : (mkB f n).set i v = mkB (fun j => if j = i then v else f j) n := by
  apply List.ext_getElem?
  intro j
  rw [List.getElem?_set, mkB_length]
  by_cases hj : j < n
  · rw [mkB_get _ _ _ hj, mkB_get _ _ _ hj]
    by_cases e : i = j
    · subst e; simp [hj]
    · have e' : ¬ j = i := fun x => e x.symm
      simp [e, e']
  · rw [List.getElem?_eq_none (by rw [mkB_length]; omega), List.getElem?_eq_none (by rw [mkB_length]; omega)]
    by_cases e : i = j
    · subst e; simp [hj]
    · simp [e]
theorem mkB_congr (f g : Nat → Bool) (n : Nat) (h : ∀ i, i < n → f i = g i) : mkB f n = mkB g n := by
  unfold mkB
  apply List.map_congr_left
  intro i hi
  exact h i (by simpa using hi)
theorem bl_set (l : List Bool) (i : Nat) (v : Bool) : (bl l).set i (.bool v) = bl (l.set i v) := by simp [bl, List.map_set]

/-! slices.Clone -/
@[go_sem] theorem eql_nil_ints (w : World) (ao : Option Addr) (n c : Nat) : (binOp .eql 37 (.slice ao n c) (.slice none 0 0)).run Try.prog w = .ok (.bool ao.isNone) w := Lib.run_eql_slice_nil w _ _ _ _ _ _ _ Try.underlying37
theorem clonei_some (ad : Addr) (n cap : Nat) (l : List Int) (w : World) (h : Rd w 1 (.slice (some ad) n cap) n (iv l)) (hn : n ≤ 17592186044416) :
    Calls Try.prog 48 #[.slice (some ad) n cap] w fun e w' => ∃ v c, e = .returned v ∧ RowC 3 1 v n (iv l) c ∧ St w.heap.size w w' [c] := by
  obtain ⟨i0, i0a, i0b, i0c, i0d⟩ := info_parts infoInt
  go_enter Try.func48, Try.ntmps48
  go_wp2_with (at_builtin; (refine wpList_app 0 37 i0 (.int .i64 0) _ _ rfl rfl rfl rfl Try.underlying37 i0a i0b i0c i0d rfl (by decide) ((St.init w).alloc _) rfl (RowC.fresh w.heap.size [] rfl (Nat.le_refl 0) (Nat.zero_le _) rfl rfl) (h.keep (Below.alloc (Below.refl _ _) (Nat.le_refl _) _)) (iv_one l) ?_ ?_ ?_); (unfold maxLen; omega); omega; intro v1 c1 w1 hr1 hs1)
  go_ret
  simp only [Nat.zero_add, List.nil_append] at hr1
  exact ⟨v1, c1, rfl, hr1, hs1⟩
theorem clonei_any (v : Value) (n : Nat) (l : List Int) (w : World) (h : Rd w 1 v n (iv l)) (hn : n ≤ 17592186044416) :
    Calls Try.prog 48 #[v] w fun e w' => ∃ v c, e = .returned v ∧ RowC 3 1 v n (iv l) c ∧ St w.heap.size w w' [c] := by
  obtain ⟨ao, cap, rfl⟩ := h.shape
  cases ao with
  | some ad => exact clonei_some ad n cap l w h hn
  | none =>
    obtain ⟨rfl, rfl, hx⟩ := h.none_iff
    have hbs : l = [] := by simpa [iv] using hx
    subst hbs
    clear h hx hn
    go_enter Try.func48, Try.ntmps48
    go_wp2
    go_ret
    exact ⟨_, [], rfl, RowC.nil _ _, (St.init w).one_nil⟩

/-! What a sorter tells -/
/-- The numbers of the marks, by places. -/
def numP (s : List Nat) (i : Nat) : Int := if lms s i then (cntM s i : Int) else -1
/-- A sorter that is prepared, as it is read. -/
structure SoR (w : World) (p : Nat) (s : List Nat) : Prop where
  t : ∃ v, w.cell? ⟨p, 0, none⟩ = some v ∧ Rd w 1 v s.length (iv (tI s))
  m : ∃ v, w.cell? ⟨p, 5, none⟩ = some v ∧ Rd w 1 v (marksP s).length (iv (tI (marksP s)))
  n : ∃ v, w.cell? ⟨p, 6, none⟩ = some v ∧ Rd w 1 v (s.length + 1) (iv (mkI (numP s) (s.length + 1)))
theorem SoR.drewN {w : World} {p : Nat} {s : List Nat} (h : SoR w p s) (k : Nat) : SoR (w.drewN k) p s := by
  obtain ⟨⟨v0, a0, b0⟩, ⟨v1, a1, b1⟩, ⟨v2, a2, b2⟩⟩ := h
  exact ⟨⟨v0, by rw [World.cell?_drewN]; exact a0, b0.drewN k⟩, ⟨v1, by rw [World.cell?_drewN]; exact a1, b1.drewN k⟩, ⟨v2, by rw [World.cell?_drewN]; exact a2, b2.drewN k⟩⟩
theorem end_any (p : Nat) (s : List Nat) (a : Nat) (w : World) (h : SoR w p s) (hn : s.length ≤ 1000000) (ha : lms s a = true) :
    Calls Try.prog 51 #[.pointer (some ⟨p, 0, none⟩), .int .i64 (a : Int)] w fun e w' => e = .returned (.int .i64 (nx s a : Int)) ∧ w = w' := by
  obtain ⟨⟨v0, a0, b0⟩, ⟨v1, a1, b1⟩, ⟨v2, a2, b2⟩⟩ := h
  have hal := lms_lt ha
  have hmk := marksP_at s a ha
  have hnx := mkAt_next s _ a hmk
  have hkl := (List.getElem?_eq_some_iff.1 hmk).1
  have hml := marksP_lt s (by omega)
  obtain ⟨ao2, cap2, rfl⟩ := b2.shape
  obtain ⟨ao1, cap1, rfl⟩ := b1.shape
  obtain ⟨ao0, cap0, rfl⟩ := b0.shape
  have hnum : (mkI (numP s) (s.length + 1))[a]? = some (cntM s a : Int) := by
    rw [mkI_get _ _ _ (by omega)]
    unfold numP
    rw [if_pos ha]
  obtain ⟨ad2, rfl, hc2⟩ := b2.at (iv_get _ a _ hnum)
  have hlen : ((marksP s).length : Int) ≤ 1000000 := by omega
  have hci : (cntM s a : Int) ≤ 1000000 := by omega
  have hai : (a : Int) < s.length + 1 := by omega
  have hnl : (s.length : Int) ≤ 1000000 := by omega
  rw [← hnx]
  clear hnum hnx hmk ha
  by_cases q : cntM s a + 1 < (marksP s).length
  · have hg : (marksP s)[cntM s a + 1]? = some (mkAt s (cntM s a + 1)) := by
      have h1 : (marksP s)[cntM s a + 1]? = some (marksP s)[cntM s a + 1] := List.getElem?_eq_getElem q
      rw [mkAt_some s _ _ h1, h1]
    have hg2 : (tI (marksP s))[cntM s a + 1]? = some (mkAt s (cntM s a + 1) : Int) := by
      unfold tI
      rw [List.getElem?_map, hg]
      rfl
    obtain ⟨ad1, rfl, hc1⟩ := b1.at (iv_get _ _ _ hg2)
    replace hc1 : w.cell? ⟨ad1.block, ad1.off + (cntM s a + 1), none⟩ = some (.int .i64 (mkAt s (cntM s a + 1) : Int)) := hc1
    have q2 : (cntM s a : Int) + 1 < ((marksP s).length : Int) := by omega
    clear hg hg2
    go_enter Try.func51, Try.ntmps51
    go_wp2
    go_ret
    exact ⟨rfl, rfl⟩
  · rw [mkAt_end s _ (by omega)]
    have q2 : ¬ (cntM s a : Int) + 1 < ((marksP s).length : Int) := by omega
    go_enter Try.func51, Try.ntmps51
    go_wp2
    go_ret
    exact ⟨rfl, rfl⟩
set_option maxHeartbeats 2000000 in
theorem same_any (p : Nat) (s : List Nat) (a b : Nat) (w : World) (h : SoR w p s) (hn : s.length ≤ 1000000) (ha : lms s a = true) (hb : lms s b = true) (hab : a ≠ b) :
    Calls Try.prog 49 #[.pointer (some ⟨p, 0, none⟩), .int .i64 (a : Int), .int .i64 (b : Int)] w fun e w' => e = .returned (.bool (decide (preK s a = preK s b))) ∧ Drew w w' := by
  have hal := lms_lt ha
  have hbl := lms_lt hb
  have hps := pre_same s (s.length - a) a b (by omega) (by omega) (by omega) hab
  have hsp := same_pre s a b
  obtain ⟨a1, a2, a3, a4⟩ := nxF_spec s (s.length - (a + 1)) (a + 1) (by omega)
  obtain ⟨b1, b2, b3, b4⟩ := nxF_spec s (s.length - (b + 1)) (b + 1) (by omega)
  have HA : a + 1 ≤ nx s a ∧ nx s a ≤ s.length := ⟨a1, a2⟩
  have HB : b + 1 ≤ nx s b ∧ nx s b ≤ s.length := ⟨b1, b2⟩
  have HPS := Lib.hid (And.intro hps hsp)
  have HR := Lib.hid h
  obtain ⟨⟨v0, c0, r0⟩, _, _⟩ := h
  obtain ⟨ao, cap, rfl⟩ := r0.shape
  obtain ⟨ad, rfl, _⟩ := r0.at (iv_get _ a _ (tI_get s a (by omega)))
  have hat : ∀ k, k < s.length → w.cell? (ad.add k) = some (.int .i64 (ch s k : Int)) := by
    intro k hk
    obtain ⟨ad', e, hc⟩ := r0.at (iv_get _ k _ (tI_get s k hk))
    cases e
    exact hc
  have HAT := Lib.hid hat
  clear hat
  generalize hea : nx s a = ea at *
  generalize heb : nx s b = eb at *
  have HE := Lib.hid (And.intro hea heb)
  clear hps hsp a1 a2 a3 a4 b1 b2 b3 b4 hea heb
  have i1 : (ea : Int) ≤ 1000000 := by omega
  have i2 : (eb : Int) ≤ 1000000 := by omega
  have i3 : (a : Int) ≤ 1000000 := by omega
  have i4 : (b : Int) ≤ 1000000 := by omega
  have hnl : (s.length : Int) ≤ 1000000 := by omega
  go_enter Try.func49, Try.ntmps49
  go_wp2_with fail
  refine (end_any p s a w HR.out hn ha).mono ?_
  rintro e w1 ⟨rfl, rfl⟩
  rw [HE.out.1]
  go_wp2_with fail
  refine (end_any p s b w HR.out hn hb).mono ?_
  rintro e w1 ⟨rfl, rfl⟩
  rw [HE.out.2]
  by_cases hd : ea - a = eb - b
  · obtain ⟨d, hda⟩ : ∃ d, ea = a + d := ⟨ea - a, by omega⟩
    have hdb : eb = b + d := by omega
    subst hda
    subst hdb
    have q1 : (((a + d : Nat) : Int) - (a : Int) != ((b + d : Nat) : Int) - (b : Int)) = false := by simp <;> omega
    have q1' : ((a : Int) + (d : Int) - (a : Int) != (b : Int) + (d : Int) - (b : Int)) = false := by simp <;> omega
    go_wp2_with fail
    go_loopg [1, 2] d (fun m s1 s2 wr => ∃ i : Nat, i + m = d ∧ s1 = .int .i64 ((a : Int) + (i : Int)) ∧ s2 = .int .i64 ((b : Int) + (i : Int)) ∧ Hid (∀ k, k < i → ch s (a + k) = ch s (b + k)) ∧ Drew w wr)
    case atStart => exact ⟨0, by omega, by simp, by simp, Lib.hid (by intro k hk; omega), Drew.refl _⟩
    case round =>
      obtain ⟨i, hi, rfl, rfl, HC, hdr⟩ := hrel
      obtain ⟨nd, rfl⟩ := hdr.out
      have hle : a + i ≤ s.length ∧ b + i ≤ s.length := by omega
      cases gk with
      | zero =>
        obtain rfl : i = d := by omega
        clear hi
        have q2 : ¬ (a : Int) + (i : Int) < (a : Int) + (i : Int) := by omega
        by_cases qa : a + i < s.length
        · by_cases qb : b + i < s.length
          · have hca := (HAT.out (a + i) qa)
            have hcb := (HAT.out (b + i) qb)
            by_cases qc : ch s (a + i) = ch s (b + i)
            · have hpre : preK s a = preK s b := by
                refine HPS.out.2 i rfl rfl qa qb (fun k hk => ?_) (by omega) (by omega)
                by_cases e : k = i
                · subst e; exact qc
                · exact HC.out k (by omega)
              have HP := Lib.hid hpre
              have q3 : ((ch s (a + i) : Int) == (ch s (b + i) : Int)) = true := by rw [qc]; simp
              have q4 : (a : Int) + (i : Int) < (s.length : Int) := by omega
              have q5 : (b : Int) + (i : Int) < (s.length : Int) := by omega
              clear hpre qc
              go_wp2_with (first | ((with_reducible refine wp_draw_all (id := 4) mixed ?_ (fun _ _ => ?_)); kernel_rfl) | ((with_reducible refine wp_draw_all (id := 7) mixed ?_ (fun _ _ => ?_)); kernel_rfl) | ((with_reducible refine wpStill_plain ?_ ?_ (fun _ _ => ?_)); rfl; rfl) | ((with_reducible refine wpStill_want ?_ ?_ (fun _ _ => ?_)); (focus (simp [Region.wanted, yielded]; done)); rfl) | ((with_reducible refine wpStill_skip ?_ ?_); (focus (simp [Region.wanted, yielded]; done)); (simp only [Act.put, List.setIfInBounds_toArray, List.set_cons_zero, List.set_cons_succ])) | (with_reducible refine wpStill_nil ?_))
              go_ret
              exact ⟨by simp [HP.out], Drew.mk _ (nd + 2)⟩
            · have hpre : preK s a ≠ preK s b := by
                intro e
                obtain ⟨d', d1, d2, _, _, _, d6⟩ := HPS.out.1 e
                have h1 := HE.out.1
                exact qc (d6 i (by omega))
              have HP := Lib.hid hpre
              have q3 : ((ch s (a + i) : Int) == (ch s (b + i) : Int)) = false := by rw [beq_eq_false_iff_ne]; omega
              have q4 : (a : Int) + (i : Int) < (s.length : Int) := by omega
              have q5 : (b : Int) + (i : Int) < (s.length : Int) := by omega
              clear hpre qc
              go_wp2_with (first | ((with_reducible refine wp_draw_all (id := 4) mixed ?_ (fun _ _ => ?_)); kernel_rfl) | ((with_reducible refine wp_draw_all (id := 7) mixed ?_ (fun _ _ => ?_)); kernel_rfl) | ((with_reducible refine wpStill_plain ?_ ?_ (fun _ _ => ?_)); rfl; rfl) | ((with_reducible refine wpStill_want ?_ ?_ (fun _ _ => ?_)); (focus (simp [Region.wanted, yielded]; done)); rfl) | ((with_reducible refine wpStill_skip ?_ ?_); (focus (simp [Region.wanted, yielded]; done)); (simp only [Act.put, List.setIfInBounds_toArray, List.set_cons_zero, List.set_cons_succ])) | (with_reducible refine wpStill_nil ?_))
              go_ret
              exact ⟨by simp [HP.out], Drew.mk _ (nd + 2)⟩
          · have hpre : preK s a ≠ preK s b := by
              intro e
              obtain ⟨d', d1, d2, _, _, d5, d6⟩ := HPS.out.1 e
              have h1 := HE.out.2
              omega
            have HP := Lib.hid hpre
            have q4 : (a : Int) + (i : Int) < (s.length : Int) := by omega
            have q5 : ¬ (b : Int) + (i : Int) < (s.length : Int) := by omega
            clear hpre
            go_wp2_with (first | ((with_reducible refine wp_draw_all (id := 4) mixed ?_ (fun _ _ => ?_)); kernel_rfl) | ((with_reducible refine wp_draw_all (id := 7) mixed ?_ (fun _ _ => ?_)); kernel_rfl) | ((with_reducible refine wpStill_plain ?_ ?_ (fun _ _ => ?_)); rfl; rfl) | ((with_reducible refine wpStill_want ?_ ?_ (fun _ _ => ?_)); (focus (simp [Region.wanted, yielded]; done)); rfl) | ((with_reducible refine wpStill_skip ?_ ?_); (focus (simp [Region.wanted, yielded]; done)); (simp only [Act.put, List.setIfInBounds_toArray, List.set_cons_zero, List.set_cons_succ])) | (with_reducible refine wpStill_nil ?_))
            go_ret
            exact ⟨by simp [HP.out], Drew.mk _ (nd + 2)⟩
        · have hpre : preK s a ≠ preK s b := by
            intro e
            obtain ⟨d', d1, d2, _, d4, _, d6⟩ := HPS.out.1 e
            have h1 := HE.out.1
            omega
          have HP := Lib.hid hpre
          have q4 : ¬ (a : Int) + (i : Int) < (s.length : Int) := by omega
          clear hpre
          go_wp2_with (first | ((with_reducible refine wp_draw_all (id := 4) mixed ?_ (fun _ _ => ?_)); kernel_rfl) | ((with_reducible refine wp_draw_all (id := 7) mixed ?_ (fun _ _ => ?_)); kernel_rfl) | ((with_reducible refine wpStill_plain ?_ ?_ (fun _ _ => ?_)); rfl; rfl) | ((with_reducible refine wpStill_want ?_ ?_ (fun _ _ => ?_)); (focus (simp [Region.wanted, yielded]; done)); rfl) | ((with_reducible refine wpStill_skip ?_ ?_); (focus (simp [Region.wanted, yielded]; done)); (simp only [Act.put, List.setIfInBounds_toArray, List.set_cons_zero, List.set_cons_succ])) | (with_reducible refine wpStill_nil ?_))
          go_ret
          exact ⟨by simp [HP.out], Drew.mk _ (nd + 2)⟩
      | succ m =>
        have qi : i < d := by omega
        have qa : a + i < s.length := by omega
        have qb : b + i < s.length := by omega
        have hca := (HAT.out (a + i) qa)
        have hcb := (HAT.out (b + i) qb)
        have q2 : (a : Int) + (i : Int) < (a : Int) + (d : Int) := by omega
        have q2' : (i : Int) < (d : Int) := by omega
        by_cases qc : ch s (a + i) = ch s (b + i)
        · have q3 : ((ch s (a + i) : Int) == (ch s (b + i) : Int)) = true := by rw [qc]; simp
          have HQ := Lib.hid qc
          clear qc
          go_wp2_with (first | ((with_reducible refine wp_draw_all (id := 4) mixed ?_ (fun _ _ => ?_)); kernel_rfl) | ((with_reducible refine wpStill_plain ?_ ?_ (fun _ _ => ?_)); rfl; rfl) | ((with_reducible refine wpStill_want ?_ ?_ (fun _ _ => ?_)); (focus (simp [Region.wanted, yielded]; done)); rfl) | ((with_reducible refine wpStill_skip ?_ ?_); (focus (simp [Region.wanted, yielded]; done)); (simp only [Act.put, List.setIfInBounds_toArray, List.set_cons_zero, List.set_cons_succ])) | (with_reducible refine wpStill_nil ?_))
          go_roundg m
          case measure => omega
          case rel =>
            refine ⟨i + 1, by omega, by go_num, by go_num, Lib.hid (fun k hk => ?_), Drew.mk _ (nd + 1)⟩
            by_cases e : k = i
            · subst e; exact HQ.out
            · exact HC.out k (by omega)
        · have hpre : preK s a ≠ preK s b := by
            intro e
            obtain ⟨d', d1, d2, _, _, _, d6⟩ := HPS.out.1 e
            have h1 := HE.out.1
            exact qc (d6 i (by omega))
          have HP := Lib.hid hpre
          have q3 : ((ch s (a + i) : Int) == (ch s (b + i) : Int)) = false := by rw [beq_eq_false_iff_ne]; omega
          have q6 : ((a : Int) + (i : Int) == (a : Int) + (d : Int)) = false := by rw [beq_eq_false_iff_ne]; omega
          clear hpre qc
          go_wp2_with (first | ((with_reducible refine wp_draw_all (id := 4) mixed ?_ (fun _ _ => ?_)); kernel_rfl) | ((with_reducible refine wp_draw_all (id := 7) mixed ?_ (fun _ _ => ?_)); kernel_rfl) | ((with_reducible refine wpStill_plain ?_ ?_ (fun _ _ => ?_)); rfl; rfl) | ((with_reducible refine wpStill_want ?_ ?_ (fun _ _ => ?_)); (focus (simp [Region.wanted, yielded]; done)); rfl) | ((with_reducible refine wpStill_skip ?_ ?_); (focus (simp [Region.wanted, yielded]; done)); (simp only [Act.put, List.setIfInBounds_toArray, List.set_cons_zero, List.set_cons_succ])) | (with_reducible refine wpStill_nil ?_))
          go_ret
          exact ⟨by simp [HP.out], Drew.mk _ (nd + 2)⟩
  · have hnb : preK s a ≠ preK s b := by
      intro e
      obtain ⟨d, d1, d2, _⟩ := HPS.out.1 e
      omega
    have q1 : ((ea : Int) - (a : Int) != (eb : Int) - (b : Int)) = true := by rw [bne_iff_ne]; omega
    have HN := Lib.hid hnb
    clear hnb
    go_wp2_with fail
    go_ret
    exact ⟨by simp [HN.out], Drew.refl _⟩
end Go.Proofs.Ytdgpbgdpdmikaab

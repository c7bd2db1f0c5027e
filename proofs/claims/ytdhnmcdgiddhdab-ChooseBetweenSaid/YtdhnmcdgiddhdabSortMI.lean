/-
  The library's stable sort: merging two stretches that are in order.
-/
import Derived.Test.YtdhnmcdgiddhdabSortBI
set_option linter.unusedVariables false
set_option linter.unusedSimpArgs false
namespace Go.Proofs.Ytdhnmcdgiddhdab
open Go.RowKit
set_option maxRecDepth 100000
section
variable {B : Nat} {w0 : World} {F : List (List (Nat × Obj))} {g cap n : Nat} {R : Nat → Nat → Prop} {cf : Nat → Nat → Int} {Ok : Nat → Prop} {u1 u2 : Value}
def SymOkI (B : Nat) (w0 : World) (F : List (List (Nat × Obj))) (g cap n : Nat) (R : Nat → Nat → Prop) (cf : Nat → Nat → Int) (Ok : Nat → Prop) (a m b : Nat) (f : Nat → Nat) (c : List (Nat × Obj)) (w : World) : Prop :=
  RowSI g cap n f c ∧ St B w0 w (c :: F) ∧ (∀ k, k < n → Ok (f k)) ∧ Srt R a m f ∧ Srt R m b f ∧ ∀ p q, a ≤ p → p < m → m ≤ q → q < b → Tell R cf (f p) (f q)
set_option maxHeartbeats 4000000 in
theorem symI_one (tr : ∀ x y z, R x y → R y z → R x z) (hcmp : CmpI B w0 F Ok cf u1 u2) (a b : Nat) (f : Nat → Nat) (c : List (Nat × Obj)) (w : World) (h : SymOkI B w0 F g cap n R cf Ok a (a + 1) b f c w) (h1 : a + 1 < b) (h2 : b ≤ n) (hn : n ≤ 1000000) :
    Calls Try.prog 54 #[.slice (some ⟨g, 0, none⟩) n cap, .int .i64 (a : Int), .int .i64 ((a : Int) + 1), .int .i64 (b : Int), .func (.func 40) #[] #[u1, u2]] w (TOutI R g cap n a b f F B w0) := by
  have hnl : (n : Int) ≤ 1000000 := by omega
  have H := Lib.hid h
  have HT := Lib.hid tr
  have HC := Lib.hid hcmp
  have hai : (a : Int) < (n : Int) := by omega
  have hq1 : (((a : Int) + 1 - (a : Int)) == 1) = true := by simp; omega
  clear h tr hcmp
  go_enter Try.func54, Try.ntmps54
  go_wp2_with fail
  go_loopg [10, 11] (b - (a + 1)) (fun M s10 s11 wr => ∃ i j : Nat, a + 1 ≤ i ∧ i ≤ j ∧ j ≤ b ∧ j ≤ i + M ∧ s10 = .int .i64 (i : Int) ∧ s11 = .int .i64 (j : Int) ∧ Hid ((∀ k, a + 1 ≤ k → k < i → R (f k) (f a)) ∧ (∀ k, j ≤ k → k < b → R (f a) (f k)) ∧ St B w0 wr (c :: F)))
  case atStart => exact ⟨a + 1, b, by omega, by omega, by omega, by omega, by go_num, rfl, Lib.hid ⟨fun k h1 h2 => by omega, fun k h1 h2 => by omega, H.out.2.1⟩⟩
  case round =>
    obtain ⟨i, j, hi1, hij, hjb, hjM, rfl, rfl, HQ⟩ := hrel
    by_cases q : i < j
    · have qi : (i : Int) < (j : Int) := by omega
      obtain ⟨p, hp⟩ : ∃ p : Nat, p = (i + j) / 2 := ⟨_, rfl⟩
      have HE : Hid (((i : Int) + (j : Int)) / 2 = (p : Int)) := Lib.hid (by omega)
      obtain ⟨hp1, hp2⟩ : i ≤ p ∧ p < j := by omega
      have hpn : (p : Int) < (n : Int) := by omega
      have HP := Lib.hid hp
      clear hp
      have hl1 := H.out.1.cell HQ.out.2.2 (show p < n by omega)
      have hl2 := H.out.1.cell HQ.out.2.2 (show a < n by omega)
      have hcm := fun nq => HC.out (wr.drewN nq) c (HQ.out.2.2.drewN nq) (f p) (f a) (H.out.2.2.1 p (by omega)) (H.out.2.2.1 a (by omega))
      have hTl := H.out.2.2.2.2.2 a p (Nat.le_refl _) (by omega) (by omega) (by omega)
      go_wp2_with fail
      rw [HE.out]
      by_cases hlt : cf (f p) (f a) < 0
      · have HR := Lib.hid (hTl.1 hlt)
        clear hTl
        go_quiet ((go_at_call 40; exact quiet_cmpI (hcm _)))
        have S2 := HQ.out.2.2.drewN nq
        generalize wr.drewN nq = w2 at S2 ⊢
        go_wp2_with fail
        cases gk with
        | zero => omega
        | succ M =>
          go_roundg M
          case measure => omega
          case rel =>
            refine ⟨p + 1, j, by omega, by omega, by omega, by have := HP.out; omega, by go_num, rfl, Lib.hid ⟨fun k hk1 hk2 => ?_, HQ.out.2.1, S2⟩⟩
            by_cases e : k = p
            · rw [e]; exact HR.out
            · exact HT.out _ _ _ (H.out.2.2.2.2.1 k p (by omega) (by omega) (by omega)) HR.out
      · have HR := Lib.hid (hTl.2 hlt)
        clear hTl
        go_quiet ((go_at_call 40; exact quiet_cmpI (hcm _)))
        have S2 := HQ.out.2.2.drewN nq
        generalize wr.drewN nq = w2 at S2 ⊢
        go_wp2_with fail
        cases gk with
        | zero => omega
        | succ M =>
          go_roundg M
          case measure => omega
          case rel =>
            refine ⟨i, p, by omega, by omega, by omega, by have := HP.out; omega, rfl, by go_num, Lib.hid ⟨HQ.out.1, fun k hk1 hk2 => ?_, S2⟩⟩
            by_cases e : k = p
            · rw [e]; exact HR.out
            · exact HT.out _ _ _ HR.out (H.out.2.2.2.2.1 p k (by omega) (by omega) (by omega))
    · obtain rfl : i = j := by omega
      have qz : ¬ (i : Int) < (i : Int) := by omega
      clear hij hjM
      go_wp2_with fail
      go_loopg [13] (i - 1 - a) (fun M s13 wr => ∃ k : Nat, k + M = i - 1 ∧ a ≤ k ∧ s13 = .int .i64 (k : Int) ∧ ∃ c, Hid (RowSI g cap n (shl a i k f) c ∧ Pm a b f (shl a i k f) ∧ St B w0 wr (c :: F)))
      case atStart => exact ⟨a, by omega, Nat.le_refl _, rfl, c, Lib.hid ⟨by rw [shl_zero]; exact H.out.1, by rw [shl_zero]; exact Pm.refl _ _ _, HQ.out.2.2⟩⟩
      case round =>
        obtain ⟨k, hk, hak, rfl, c2, HI⟩ := hrel
        cases gk with
        | zero =>
          have hki : k = i - 1 := by omega
          have qk : ¬ (k : Int) < (i : Int) - 1 := by omega
          have HK := Lib.hid hki
          clear hk hki
          go_wp2_with fail
          go_end0
          refine ⟨rfl, shl a i k f, c2, HI.out.2.1, ?_, HI.out.1, HI.out.2.2⟩
          have hk2 := HK.out
          exact shl_srt HT.out hak (by omega) H.out.2.2.2.2.1 (fun x h3 h4 => HQ.out.1 x h3 (by omega)) (fun x h3 h4 => HQ.out.2.1 x (by omega) h4)
        | succ M =>
          have qk : (k : Int) < (i : Int) - 1 := by omega
          have hkn : (k : Int) + 1 < (n : Int) := by omega
          have hp := HI.out.1.cell HI.out.2.2 (show k < n by omega)
          have hq := HI.out.1.cell HI.out.2.2 (show k + 1 < n by omega)
          have hf := HI.out.1.free HI.out.2.2 k
          have hf2 := HI.out.1.free HI.out.2.2 (k + 1)
          obtain ⟨p1, p2, c3, p3, p4⟩ := HI.out.1.swp HI.out.2.2 (show k ≠ k + 1 by omega) (by omega) (by omega)
          have hpm := HI.out.2.1.trans (Pm.swp (shl a i k f) (show a ≤ k by omega) (show k < k + 1 by omega) (show k + 1 < b by omega))
          rw [shl_step a i k f hak] at p3 hpm
          have HN := Lib.hid (And.intro p3 (And.intro hpm p4))
          clear p3 hpm p4
          have hk1 : k + 1 + M = i - 1 := by omega
          have HK1 := Lib.hid hk1
          clear hk hk1
          generalize shl a i k f k = x at *
          generalize shl a i k f (k + 1) = y at *
          go_wp2_with fail
          go_region
          go_wp2_with fail
          go_roundg M
          case measure => omega
          case rel => exact ⟨k + 1, HK1.out, by omega, by go_num, c3, Lib.hid ⟨HN.out.1, HN.out.2.1, HN.out.2.2.drew⟩⟩
set_option maxHeartbeats 4000000 in
theorem symI_two (tr : ∀ x y z, R x y → R y z → R x z) (hcmp : CmpI B w0 F Ok cf u1 u2) (a m : Nat) (f : Nat → Nat) (c : List (Nat × Obj)) (w : World) (h : SymOkI B w0 F g cap n R cf Ok a m (m + 1) f c w) (h1 : a + 1 < m) (h2 : m + 1 ≤ n) (hn : n ≤ 1000000) :
    Calls Try.prog 54 #[.slice (some ⟨g, 0, none⟩) n cap, .int .i64 (a : Int), .int .i64 (m : Int), .int .i64 ((m : Int) + 1), .func (.func 40) #[] #[u1, u2]] w (TOutI R g cap n a (m + 1) f F B w0) := by
  have hnl : (n : Int) ≤ 1000000 := by omega
  have H := Lib.hid h
  have HT := Lib.hid tr
  have HC := Lib.hid hcmp
  have hmi : (m : Int) < (n : Int) := by omega
  have hq1 : (((m : Int) - (a : Int)) == 1) = false := by rw [beq_eq_false_iff_ne]; omega
  have hq2 : (((m : Int) + 1 - (m : Int)) == 1) = true := by simp; omega
  clear h tr hcmp
  go_enter Try.func54, Try.ntmps54
  go_wp2_with fail
  go_loopg [14, 15] (m - a) (fun M s14 s15 wr => ∃ i j : Nat, a ≤ i ∧ i ≤ j ∧ j ≤ m ∧ j ≤ i + M ∧ s14 = .int .i64 (i : Int) ∧ s15 = .int .i64 (j : Int) ∧ Hid ((∀ k, a ≤ k → k < i → R (f k) (f m)) ∧ (∀ k, j ≤ k → k < m → R (f m) (f k)) ∧ St B w0 wr (c :: F)))
  case atStart => exact ⟨a, m, by omega, by omega, by omega, by omega, rfl, rfl, Lib.hid ⟨fun k h1 h2 => by omega, fun k h1 h2 => by omega, H.out.2.1⟩⟩
  case round =>
    obtain ⟨i, j, hi1, hij, hjb, hjM, rfl, rfl, HQ⟩ := hrel
    by_cases q : i < j
    · have qi : (i : Int) < (j : Int) := by omega
      obtain ⟨p, hp⟩ : ∃ p : Nat, p = (i + j) / 2 := ⟨_, rfl⟩
      have HE : Hid (((i : Int) + (j : Int)) / 2 = (p : Int)) := Lib.hid (by omega)
      obtain ⟨hp1, hp2⟩ : i ≤ p ∧ p < j := by omega
      have hpn : (p : Int) < (n : Int) := by omega
      have HP := Lib.hid hp
      clear hp
      have hl1 := H.out.1.cell HQ.out.2.2 (show p < n by omega)
      have hl2 := H.out.1.cell HQ.out.2.2 (show m < n by omega)
      have hcm := fun nq => HC.out (wr.drewN nq) c (HQ.out.2.2.drewN nq) (f m) (f p) (H.out.2.2.1 m (by omega)) (H.out.2.2.1 p (by omega))
      have hTl := H.out.2.2.2.2.2 p m (by omega) (by omega) (Nat.le_refl _) (by omega)
      go_wp2_with fail
      rw [HE.out]
      by_cases hlt : cf (f m) (f p) < 0
      · have HR := Lib.hid (hTl.1 hlt)
        clear hTl
        go_quiet ((go_at_call 40; exact quiet_cmpI (hcm _)))
        have S2 := HQ.out.2.2.drewN nq
        generalize wr.drewN nq = w2 at S2 ⊢
        go_wp2_with fail
        cases gk with
        | zero => omega
        | succ M =>
          go_roundg M
          case measure => omega
          case rel =>
            refine ⟨i, p, by omega, by omega, by omega, by have := HP.out; omega, rfl, by go_num, Lib.hid ⟨HQ.out.1, fun k hk1 hk2 => ?_, S2⟩⟩
            by_cases e : k = p
            · rw [e]; exact HR.out
            · exact HT.out _ _ _ HR.out (H.out.2.2.2.1 p k (by omega) (by omega) (by omega))
      · have HR := Lib.hid (hTl.2 hlt)
        clear hTl
        go_quiet ((go_at_call 40; exact quiet_cmpI (hcm _)))
        have S2 := HQ.out.2.2.drewN nq
        generalize wr.drewN nq = w2 at S2 ⊢
        go_wp2_with fail
        cases gk with
        | zero => omega
        | succ M =>
          go_roundg M
          case measure => omega
          case rel =>
            refine ⟨p + 1, j, by omega, by omega, by omega, by have := HP.out; omega, by go_num, rfl, Lib.hid ⟨fun k hk1 hk2 => ?_, HQ.out.2.1, S2⟩⟩
            by_cases e : k = p
            · rw [e]; exact HR.out
            · exact HT.out _ _ _ (H.out.2.2.2.1 k p (by omega) (by omega) (by omega)) HR.out
    · obtain rfl : i = j := by omega
      have qz : ¬ (i : Int) < (i : Int) := by omega
      clear hij hjM
      go_wp2_with fail
      go_loopg [17] (m - i) (fun M s17 wr => ∃ k : Nat, Hid (k = i + M) ∧ i ≤ k ∧ k ≤ m ∧ s17 = .int .i64 (k : Int) ∧ ∃ c, Hid (RowSI g cap n (insP m k f) c ∧ Pm a (m + 1) f (insP m k f) ∧ St B w0 wr (c :: F)))
      case atStart => exact ⟨m, Lib.hid (by omega), by omega, Nat.le_refl _, rfl, c, Lib.hid ⟨by rw [insP_self]; exact H.out.1, by rw [insP_self]; exact Pm.refl _ _ _, HQ.out.2.2⟩⟩
      case round =>
        obtain ⟨k, HK, hik, hkm, rfl, c2, HI⟩ := hrel
        cases gk with
        | zero =>
          have qk : ¬ i < k := by have := HK.out; omega
          go_wp2_with fail
          go_end0
          refine ⟨rfl, insP m k f, c2, HI.out.2.1, ?_, HI.out.1, HI.out.2.2⟩
          have hk2 : k = i := HK.out
          refine insP_srt HT.out H.out.2.2.2.1 (by omega) hkm (fun x h3 h4 => HQ.out.2.1 x (by omega) h4) ?_
          rcases Nat.eq_or_lt_of_le hi1 with e | e
          · exact .inl (by omega)
          · exact .inr (HQ.out.1 (k - 1) (by omega) (by omega))
        | succ M =>
          have qk : i < k := by have := HK.out; omega
          have hkn : (k : Int) - 1 < (n : Int) := by omega
          have hk1 : 1 ≤ k := by omega
          have hp := HI.out.1.cell HI.out.2.2 (show k < n by omega)
          have hq := HI.out.1.cell HI.out.2.2 (show k - 1 < n by omega)
          have hf := HI.out.1.free HI.out.2.2 k
          have hf2 := HI.out.1.free HI.out.2.2 (k - 1)
          obtain ⟨p1, p2, c3, p3, p4⟩ := HI.out.1.swp HI.out.2.2 (show k ≠ k - 1 by omega) (by omega) (by omega)
          have hpm := HI.out.2.1.trans (Pm.swp (insP m k f) (show a ≤ k - 1 by omega) (show k - 1 < k by omega) (show k < m + 1 by omega))
          rw [swp_comm, insP_step m k f hk1 hkm] at p3
          rw [insP_step m k f hk1 hkm] at hpm
          have HN := Lib.hid (And.intro p3 (And.intro hpm p4))
          clear p3 hpm p4
          generalize insP m k f k = x at *
          generalize insP m k f (k - 1) = y at *
          go_wp2_with fail
          go_region
          go_wp2_with fail
          go_roundg M
          case measure => omega
          case rel => exact ⟨k - 1, Lib.hid (by have := HK.out; omega), by omega, by omega, by go_num, c3, Lib.hid ⟨HN.out.1, HN.out.2.1, HN.out.2.2.drew⟩⟩
theorem ok_rot {n : Nat} {Ok : Nat → Prop} {f : Nat → Nat} (h : ∀ k, k < n → Ok (f k)) {s m e : Nat} (h1 : s ≤ m) (h2 : m ≤ e) (h3 : e ≤ n) : ∀ k, k < n → Ok (rot s m e f k) := by
  intro k hk
  unfold rot
  split
  · exact h _ (by omega)
  · split
    · exact h _ (by omega)
    · exact h _ hk
theorem ok_pm {n : Nat} {Ok : Nat → Prop} {f f' : Nat → Nat} (h : ∀ k, k < n → Ok (f k)) {a b : Nat} (hp : Pm a b f f') (hb : b ≤ n) : ∀ k, k < n → Ok (f' k) := by
  intro k hk
  by_cases c : a ≤ k ∧ k < b
  · obtain ⟨j, _, hj, e⟩ := hp.mem c.1 c.2
    rw [e]; exact h j (by omega)
  · rw [hp.1 k (by omega)]; exact h k hk
set_option maxHeartbeats 8000000 in
theorem symI_gen (tr : ∀ x y z, R x y → R y z → R x z) (hcmp : CmpI B w0 F Ok cf u1 u2) (a m b : Nat) (f : Nat → Nat) (c : List (Nat × Obj)) (w : World) (h : SymOkI B w0 F g cap n R cf Ok a m b f c w) (h1 : a + 1 < m) (h2 : m + 1 < b) (h3 : b ≤ n) (hn : n ≤ 1000000)
    (ih : ∀ (a' m' b' : Nat) (f' : Nat → Nat) (c' : List (Nat × Obj)) (w' : World), b' - a' < b - a → SymOkI B w0 F g cap n R cf Ok a' m' b' f' c' w' → a' < m' → m' < b' → b' ≤ n →
      Calls Try.prog 54 #[.slice (some ⟨g, 0, none⟩) n cap, .int .i64 (a' : Int), .int .i64 (m' : Int), .int .i64 (b' : Int), .func (.func 40) #[] #[u1, u2]] w' (TOutI R g cap n a' b' f' F B w0)) :
    Calls Try.prog 54 #[.slice (some ⟨g, 0, none⟩) n cap, .int .i64 (a : Int), .int .i64 (m : Int), .int .i64 (b : Int), .func (.func 40) #[] #[u1, u2]] w (TOutI R g cap n a b f F B w0) := by
  have hnl : (n : Int) ≤ 1000000 := by omega
  have H := Lib.hid h
  have HT := Lib.hid tr
  have HC := Lib.hid hcmp
  have HIH := Lib.hid ih
  have hq1 : (((m : Int) - (a : Int)) == 1) = false := by rw [beq_eq_false_iff_ne]; omega
  have hq2 : (((b : Int) - (m : Int)) == 1) = false := by rw [beq_eq_false_iff_ne]; omega
  obtain ⟨mid, hmid⟩ : ∃ mid : Nat, mid = (a + b) / 2 := ⟨_, rfl⟩
  obtain ⟨N1, hN1⟩ : ∃ N1 : Nat, N1 + 1 = mid + m := ⟨mid + m - 1, by omega⟩
  have HE : Hid (((a : Int) + (b : Int)) / 2 = (mid : Int)) := Lib.hid (by omega)
  have HE2 : Hid ((mid : Int) + (m : Int) = (N1 : Int) + 1) := Lib.hid (by omega)
  obtain ⟨hm1, hm2⟩ : a < mid ∧ mid < b := by omega
  have HM := Lib.hid (And.intro hmid hN1)
  have hm3 : 2 * mid ≤ a + b := by omega
  have hm4 : a + b ≤ 2 * mid + 1 := by omega
  have hN2 : N1 + 1 ≤ mid + m := by omega
  have hN3 : mid + m ≤ N1 + 1 := by omega
  clear h tr hcmp ih hmid hN1
  go_enter Try.func54, Try.ntmps54
  have hE := HE.out
  have hE2 := HE2.out
  go_upto_if 140 with (fail)
  clear hE hE2
  go_cut [20, 21] (fun s20 s21 wc => ∃ s0 r0 : Nat, s20 = .int .i64 (s0 : Int) ∧ s21 = .int .i64 (r0 : Int) ∧ a ≤ s0 ∧ s0 ≤ r0 ∧ r0 ≤ m ∧ r0 ≤ mid ∧ N1 + 1 ≤ s0 + b ∧ Hid ((s0 = a ∨ s0 + b = N1 + 1) ∧ (r0 = m ∨ r0 = mid)) ∧ wc = w)
  case first =>
    by_cases q : mid < m
    · have q1 : (mid : Int) < (m : Int) := by omega
      go_wp2_with fail
      go_meet
      case rel => exact ⟨N1 + 1 - b, mid, by congr 1; omega, rfl, by omega, by omega, by omega, by omega, by omega, Lib.hid ⟨.inr (by omega), .inr rfl⟩, rfl⟩
    · have q1 : ¬ (mid : Int) < (m : Int) := by omega
      go_wp2_with fail
      go_meet
      case rel => exact ⟨a, m, rfl, rfl, by omega, by omega, by omega, by omega, by omega, Lib.hid ⟨.inl rfl, .inl rfl⟩, rfl⟩
  case rest =>
    obtain ⟨s0, r0, rfl, rfl, k1, k2, k3, k4, k5, HK, rfl⟩ := hcut
    go_wp2_with fail
    go_loopg [20, 21] (r0 - s0) (fun M s20 s21 wr => ∃ s r : Nat, s0 ≤ s ∧ s ≤ r ∧ r ≤ r0 ∧ r ≤ s + M ∧ s20 = .int .i64 (s : Int) ∧ s21 = .int .i64 (r : Int) ∧ Hid ((s = s0 ∨ R (f (s - 1)) (f (N1 + 1 - s))) ∧ (r = r0 ∨ R (f (N1 - r)) (f r)) ∧ St B w0 wr (c :: F)))
    case atStart => exact ⟨s0, r0, by omega, by omega, by omega, by omega, rfl, rfl, Lib.hid ⟨.inl rfl, .inl rfl, H.out.2.1⟩⟩
    case round =>
      obtain ⟨s, r, j1, j2, j3, j4, rfl, rfl, HQ⟩ := hrel
      by_cases q : s < r
      · have qi : (s : Int) < (r : Int) := by omega
        obtain ⟨p, hp⟩ : ∃ p : Nat, p = (s + r) / 2 := ⟨_, rfl⟩
        have HP1 : Hid (((s : Int) + (r : Int)) / 2 = (p : Int)) := Lib.hid (by omega)
        obtain ⟨hp1, hp2⟩ : s ≤ p ∧ p < r := by omega
        have HP := Lib.hid hp
        clear hp
        have hpn : (p : Int) < (n : Int) := by omega
        have hpN : (N1 : Int) - (p : Int) < (n : Int) := by omega
        have hpN2 : p ≤ N1 := by omega
        have hl1 := H.out.1.cell HQ.out.2.2 (show p < n by omega)
        have hl2 := H.out.1.cell HQ.out.2.2 (show N1 - p < n by omega)
        have hcm := fun nq => HC.out (wr.drewN nq) c (HQ.out.2.2.drewN nq) (f (N1 - p)) (f p) (H.out.2.2.1 (N1 - p) (by omega)) (H.out.2.2.1 p (by omega))
        have hTl := H.out.2.2.2.2.2 p (N1 - p) (by omega) (by omega) (by omega) (by omega)
        go_wp2_with fail
        rw [HP1.out]
        by_cases hlt : cf (f (N1 - p)) (f p) < 0
        · have HR := Lib.hid (hTl.1 hlt)
          clear hTl
          go_quiet ((go_at_call 40; exact quiet_cmpI (hcm _)))
          have S2 := HQ.out.2.2.drewN nq
          generalize wr.drewN nq = w2 at S2 ⊢
          go_wp2_with fail
          cases gk with
          | zero => omega
          | succ M =>
            go_roundg M
            case measure => omega
            case rel => exact ⟨s, p, by omega, by omega, by omega, by have := HP.out; omega, rfl, by go_num, Lib.hid ⟨HQ.out.1, .inr HR.out, S2⟩⟩
        · have HR := Lib.hid (hTl.2 hlt)
          clear hTl
          go_quiet ((go_at_call 40; exact quiet_cmpI (hcm _)))
          have S2 := HQ.out.2.2.drewN nq
          generalize wr.drewN nq = w2 at S2 ⊢
          go_wp2_with fail
          cases gk with
          | zero => omega
          | succ M =>
            go_roundg M
            case measure => omega
            case rel => exact ⟨p + 1, r, by omega, by omega, by omega, by have := HP.out; omega, by go_num, rfl, Lib.hid ⟨.inr (by rw [Nat.add_sub_cancel, show N1 + 1 - (p + 1) = N1 - p from by omega]; exact HR.out), HQ.out.2.1, S2⟩⟩
      · obtain rfl : s = r := by omega
        have qz : ¬ (s : Int) < (s : Int) := by omega
        obtain ⟨e, he⟩ : ∃ e : Nat, e + s = N1 + 1 := ⟨N1 + 1 - s, by omega⟩
        have HE3 : Hid ((N1 : Int) + 1 - (s : Int) = (e : Int)) := Lib.hid (by omega)
        have e1 : m ≤ e := by omega
        have e2 : e ≤ b := by omega
        have e3 : s ≤ mid := by omega
        have e4 : mid ≤ e := by omega
        have hms : mid = s + (e - m) := by omega
        have hF : Found R a m b s e f := by
          have hK := HK.out
          refine Found.mk' (s0 := s0) (r0 := r0) HT.out H.out.2.2.2.1 H.out.2.2.2.2.1 (by omega) (by omega) e1 e2 ?_ ?_ ?_ ?_
          · rcases hK.1 with h | h
            · exact .inl h
            · exact .inr fun h' => by omega
          · rcases hK.2 with h | h
            · exact .inl h
            · exact .inr fun h' => by omega
          · rcases HQ.out.1 with h | h
            · exact .inl h
            · rw [show N1 + 1 - s = e from by omega] at h; exact .inr h
          · rcases HQ.out.2.1 with h | h
            · exact .inl h
            · rw [show N1 - s = e - 1 from by omega] at h; exact .inr h
        have hparts := rot_parts H.out.2.2.2.1 H.out.2.2.2.2.1 (by omega) (by omega) e1 e2 hms hF
        have hsm : s ≤ m := by omega
        obtain ⟨P1, P2, P3, P4, P5, P6, P7, P8, P9⟩ := hparts
        have hok := ok_rot H.out.2.2.1 hsm e1 (show e ≤ n by omega)
        have REC1 : ∀ (c2 : List (Nat × Obj)) (wx : World), RowSI g cap n (rot s m e f) c2 → St B w0 wx (c2 :: F) → a < s → s < mid →
            Calls Try.prog 54 #[.slice (some ⟨g, 0, none⟩) n cap, .int .i64 (a : Int), .int .i64 (s : Int), .int .i64 (mid : Int), .func (.func 40) #[] #[u1, u2]] wx (TOutI R g cap n a mid (rot s m e f) F B w0) := by
          intro c2 wx g1 g2 qa qb
          refine HIH.out a s mid (rot s m e f) c2 wx (by omega) ⟨g1, g2, hok, P1, P2, ?_⟩ qa qb (by omega)
          intro p q hp hps hq hqm
          rw [P6 p hp hps, P8 q hq hqm]
          exact H.out.2.2.2.2.2 p (q + (m - s)) hp (by omega) (by omega) (by omega)
        have REC2 : ∀ (f1 : Nat → Nat) (c3 : List (Nat × Obj)) (wx : World), Pm a mid (rot s m e f) f1 → RowSI g cap n f1 c3 → St B w0 wx (c3 :: F) → mid < e → e < b →
            Calls Try.prog 54 #[.slice (some ⟨g, 0, none⟩) n cap, .int .i64 (mid : Int), .int .i64 (e : Int), .int .i64 (b : Int), .func (.func 40) #[] #[u1, u2]] wx (TOutI R g cap n mid b f1 F B w0) := by
          intro f1 c3 wx g0 g1 g2 qa qb
          refine HIH.out mid e b f1 c3 wx (by omega) ⟨g1, g2, ok_pm hok g0 (by omega), P3.congr (fun k h _ => g0.1 k (by omega)), P4.congr (fun k h _ => g0.1 k (by omega)), ?_⟩ qa qb h3
          intro p q hp hps hq hqm
          rw [g0.1 p (by omega), g0.1 q (by omega), P9 p hp hps, P7 q hq]
          exact H.out.2.2.2.2.2 (p - (e - m)) q (by omega) (by omega) (by omega) hqm
        have NO1 : ¬ (a < s ∧ s < mid) → Srt R a mid (rot s m e f) := by
          intro h
          by_cases c : a < s
          · rw [show mid = s from by omega]; exact P1
          · rw [show a = s from by omega]; exact P2
        have NO2 : ∀ (f1 : Nat → Nat), Pm a mid (rot s m e f) f1 → ¬ (mid < e ∧ e < b) → Srt R mid b f1 := by
          intro f1 g0 h
          by_cases c : mid < e
          · rw [show b = e from by omega]; exact P3.congr (fun k h _ => g0.1 k (by omega))
          · rw [show mid = e from by omega]; exact P4.congr (fun k h _ => g0.1 k (by omega))
        have LAST : ∀ (f1 f2 : Nat → Nat) (c4 : List (Nat × Obj)) (wx : World), Pm a mid (rot s m e f) f1 → Srt R a mid f1 → Pm mid b f1 f2 → Srt R mid b f2 → RowSI g cap n f2 c4 → St B w0 wx (c4 :: F) → TOutI R g cap n a b f F B w0 (.returned (.tuple #[])) wx := by
          intro f1 f2 c4 wx g1 g2 p1 p2 p3 p4
          have t1 : Pm a b f (rot s m e f) := (Pm.rot f hsm e1).mono (by omega) (by omega) e2
          have t2 : Pm a b f f2 := (t1.trans (g1.mono (Nat.le_refl _) (by omega) (by omega))).trans (p1.mono (by omega) (by omega) (Nat.le_refl _))
          exact ⟨rfl, f2, c4, t2, srt_join g1 p1 (by omega) (by omega) g2 p2 P5, p3, p4⟩
        have HL := Lib.hid (And.intro REC1 (And.intro REC2 (And.intro NO1 (And.intro NO2 LAST))))
        have HMS := Lib.hid hms
        have hE3 := HE3.out
        clear j4 hF he hms hok REC1 REC2 NO1 NO2 LAST P1 P2 P3 P4 P5 P6 P7 P8 P9
        by_cases qa : s < m
        · by_cases qb : m < e
          · -- turned
            have qa1 : (s : Int) < (m : Int) := by omega
            have qb1 : (m : Int) < (e : Int) := by omega
            have qc1 : (s : Int) < (mid : Int) := by have := HMS.out; omega
            have qd1 : (mid : Int) < (e : Int) := by have := HMS.out; omega
            go_wp2_with fail
            refine (rotI_any s m e _ H.out.1 HQ.out.2.2 qa qb (by omega) hn).mono ?_
            rintro e' w2 ⟨rfl, c2, hr2, hS2⟩
            have H2 := Lib.hid (And.intro hr2 hS2)
            clear hr2 hS2
            by_cases qe : a < s
            · have qe1 : (a : Int) < (s : Int) := by omega
              go_wp2_with fail
              refine (HL.out.1 c2 w2 H2.out.1 H2.out.2 qe (by omega)).mono ?_
              rintro e' w3 ⟨rfl, f1, c3, p1, p2, p3, p4⟩
              have H3 := Lib.hid (And.intro p1 (And.intro p2 (And.intro p3 p4)))
              clear p1 p2 p3 p4
              by_cases qf : e < b
              · have qf1 : (e : Int) < (b : Int) := by omega
                go_wp2_with fail
                refine (HL.out.2.1 f1 c3 w3 H3.out.1 H3.out.2.2.1 H3.out.2.2.2 (by omega) qf).mono ?_
                rintro e' w4 ⟨rfl, f2, c4, p1, p2, p3, p4⟩
                go_wp2_with fail
                go_end0
                exact HL.out.2.2.2.2 f1 f2 c4 _ H3.out.1 H3.out.2.1 p1 p2 p3 p4
              · have qf1 : ¬ (e : Int) < (b : Int) := by omega
                go_wp2_with fail
                go_end0
                exact HL.out.2.2.2.2 f1 f1 c3 _ H3.out.1 H3.out.2.1 (Pm.refl _ _ _) (HL.out.2.2.2.1 f1 H3.out.1 (by omega)) H3.out.2.2.1 H3.out.2.2.2
            · have qe1 : ¬ (a : Int) < (s : Int) := by omega
              by_cases qf : e < b
              · have qf1 : (e : Int) < (b : Int) := by omega
                go_wp2_with fail
                refine (HL.out.2.1 (rot s m e f) c2 w2 (Pm.refl _ _ _) H2.out.1 H2.out.2 (by omega) qf).mono ?_
                rintro e' w4 ⟨rfl, f2, c4, p1, p2, p3, p4⟩
                go_wp2_with fail
                go_end0
                exact HL.out.2.2.2.2 _ f2 c4 _ (Pm.refl _ _ _) (HL.out.2.2.1 (by omega)) p1 p2 p3 p4
              · have qf1 : ¬ (e : Int) < (b : Int) := by omega
                go_wp2_with fail
                go_end0
                exact HL.out.2.2.2.2 _ _ c2 _ (Pm.refl _ _ _) (HL.out.2.2.1 (by omega)) (Pm.refl _ _ _) (HL.out.2.2.2.1 _ (Pm.refl _ _ _) (by omega)) H2.out.1 H2.out.2
          · -- nothing to turn: the first half is as it was
            have hem : e = m := by omega
            have hid := rot_idle f (s := s) (m := m) (e := e) (.inr hem.symm)
            have HID := Lib.hid hid
            have hsmid : s = mid := by have := HMS.out; omega
            have HSM := Lib.hid hsmid
            have qa1 : (s : Int) < (m : Int) := by omega
            have qb1 : ¬ (m : Int) < (e : Int) := by omega
            have qc1 : (a : Int) < (s : Int) := by omega
            have qd1 : ¬ (s : Int) < (mid : Int) := by omega
            have qe1 : (mid : Int) < (e : Int) := by omega
            have qf1 : (e : Int) < (b : Int) := by omega
            clear hem hid hsmid
            go_wp2_with fail
            refine (HL.out.2.1 (rot s m e f) c _ (Pm.refl _ _ _) (by rw [HID.out]; exact H.out.1) HQ.out.2.2 (by omega) (by omega)).mono ?_
            rintro e' w4 ⟨rfl, f2, c4, p1, p2, p3, p4⟩
            go_wp2_with fail
            go_end0
            exact HL.out.2.2.2.2 _ f2 c4 _ (Pm.refl _ _ _) (HL.out.2.2.1 (by omega)) p1 p2 p3 p4
        · have hsm2 : s = m := by omega
          have HID := Lib.hid (rot_idle f (s := s) (m := m) (e := e) (.inl hsm2))
          have hemid : e = mid := by have := HMS.out; omega
          have qa1 : ¬ (s : Int) < (m : Int) := by omega
          have qc1 : (a : Int) < (s : Int) := by omega
          have qe1 : ¬ (mid : Int) < (e : Int) := by omega
          clear hsm2 hemid
          by_cases qg : s < mid
          · have qg1 : (s : Int) < (mid : Int) := by omega
            go_wp2_with fail
            refine (HL.out.1 c _ (by rw [HID.out]; exact H.out.1) HQ.out.2.2 (by omega) qg).mono ?_
            rintro e' w3 ⟨rfl, f1, c3, p1, p2, p3, p4⟩
            go_wp2_with fail
            go_end0
            exact HL.out.2.2.2.2 f1 f1 c3 _ p1 p2 (Pm.refl _ _ _) (HL.out.2.2.2.1 f1 p1 (by omega)) p3 p4
          · have qg1 : ¬ (s : Int) < (mid : Int) := by omega
            go_wp2_with fail
            go_end0
            exact HL.out.2.2.2.2 _ _ c _ (Pm.refl _ _ _) (HL.out.2.2.1 (by omega)) (Pm.refl _ _ _) (HL.out.2.2.2.1 _ (Pm.refl _ _ _) (by omega)) (by rw [HID.out]; exact H.out.1) HQ.out.2.2
end
end Go.Proofs.Ytdhnmcdgiddhdab

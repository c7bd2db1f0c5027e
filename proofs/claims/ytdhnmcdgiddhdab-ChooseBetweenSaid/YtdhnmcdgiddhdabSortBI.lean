/-
  The library's stable sort: insertion.
-/
import Derived.Test.YtdhnmcdgiddhdabSortI
import Derived.Test.YtdhnmcdgiddhdabPureSortB
set_option linter.unusedVariables false
set_option linter.unusedSimpArgs false
namespace Go.Proofs.Ytdhnmcdgiddhdab
open Go.RowKit
set_option maxRecDepth 100000
/-- What the comparing function tells, wherever the row under way lies. -/
def CmpI (B : Nat) (w0 : World) (F : List (List (Nat × Obj))) (Ok : Nat → Prop) (cf : Nat → Nat → Int) (u1 u2 : Value) : Prop :=
  ∀ (wx : World) (cd : List (Nat × Obj)), St B w0 wx (cd :: F) → ∀ x y, Ok x → Ok y → Calls Try.prog 40 #[(Value.int .i64 ((x : Nat) : Int)), (Value.int .i64 ((y : Nat) : Int)), u1, u2] wx fun e w' => e = .returned (.int .i64 (cf x y)) ∧ ∃ k, w' = wx.drewN k
theorem quiet_cmpI {P : Program} {f : FuncId} {args : Array Value} {w : World} {n : Nat} {v : Value}
    (h : Calls P f args (w.drewN n) fun e w' => e = .returned v ∧ ∃ k, w' = (w.drewN n).drewN k) : Calls P f args (w.drewN n) fun e w'' => e = .returned v ∧ ∃ m, w'' = w.drewN m :=
  h.mono fun _ _ ⟨he, k, hw⟩ => ⟨he, n + k, by rw [hw, World.drewN_drewN]⟩
/-- What a sorting of a stretch leaves. -/
def TOutI (R : Nat → Nat → Prop) (g cap n a b : Nat) (f : Nat → Nat) (F : List (List (Nat × Obj))) (B : Nat) (w0 : World) (e : Ending) (w' : World) : Prop :=
  e = .returned (.tuple #[]) ∧ ∃ f' c', Pm a b f f' ∧ Srt R a b f' ∧ RowSI g cap n f' c' ∧ St B w0 w' (c' :: F)
section
variable {B : Nat} {w0 w : World} {F : List (List (Nat × Obj))} {c : List (Nat × Obj)} {g cap n : Nat} {f : Nat → Nat} {R : Nat → Nat → Prop} {cf : Nat → Nat → Int} {Ok : Nat → Prop} {u1 u2 : Value}
set_option maxHeartbeats 4000000 in
theorem insI_any (tr : ∀ x y z, R x y → R y z → R x z) (hcmp : CmpI B w0 F Ok cf u1 u2) (a b : Nat) (h : RowSI g cap n f c) (hS : St B w0 w (c :: F)) (h1 : a ≤ b) (h2 : b ≤ n) (hn : n ≤ 1000000) (hok : ∀ k, k < n → Ok (f k))
    (ht : ∀ p q, a ≤ p → p < q → q < b → Tell R cf (f p) (f q)) :
    Calls Try.prog 53 #[.slice (some ⟨g, 0, none⟩) n cap, .int .i64 (a : Int), .int .i64 (b : Int), .func (.func 40) #[] #[u1, u2]] w (TOutI R g cap n a b f F B w0) := by
  have hnl : (n : Int) ≤ 1000000 := by omega
  have H0 := Lib.hid (And.intro h hS)
  have HC := Lib.hid (And.intro hcmp (And.intro hok ht))
  have HT := Lib.hid tr
  clear h hS hcmp hok ht tr
  go_enter Try.func53, Try.ntmps53
  go_wp2_with fail
  go_loopg [8] (b - a) (fun m s8 wr => ∃ i : Nat, i + m = b + 1 ∧ a < i ∧ s8 = .int .i64 (i : Int) ∧ ∃ (h : Nat → Nat) (c : List (Nat × Obj)), Hid (Pm a (min i b) f h ∧ Srt R a (min i b) h ∧ RowSI g cap n h c ∧ St B w0 wr (c :: F)))
  case atStart => exact ⟨a + 1, by omega, by omega, by go_num, f, c, Lib.hid ⟨Pm.refl _ _ _, by intro p q hp hpq hq; omega, H0.out⟩⟩
  case round =>
    obtain ⟨i, hi, hai, rfl, h, c1, HQ⟩ := hrel
    by_cases hib : i < b
    · have hii : (i : Int) < (b : Int) := by omega
      have hmin : min i b = i := by omega
      rw [hmin] at HQ
      clear hmin
      have hOk : ∀ k, k < n → Ok (h k) := by
        intro k hk
        by_cases c2 : a ≤ k ∧ k < i
        · obtain ⟨j, _, hj2, e⟩ := HQ.out.1.mem c2.1 c2.2
          rw [e]; exact HC.out.2.1 j (by omega)
        · rw [HQ.out.1.1 k (by omega)]; exact HC.out.2.1 k hk
      have hTl : ∀ k, a ≤ k → k < i → Tell R cf (h k) (h i) := by
        intro k hk1 hk2
        obtain ⟨j, hj1, hj2, e⟩ := HQ.out.1.mem hk1 hk2
        rw [e, HQ.out.1.1 i (by omega)]
        exact HC.out.2.2 j i hj1 hj2 hib
      have HO := Lib.hid (And.intro hOk hTl)
      clear hOk hTl
      go_wp2_with fail
      go_loopg [9] (i - a) (fun k s9 wr => ∃ j : Nat, Hid (j = a + k) ∧ j ≤ i ∧ s9 = .int .i64 (j : Int) ∧ ∃ (c : List (Nat × Obj)), Hid ((∀ k, j ≤ k → k < i → R (h i) (h k)) ∧ Pm a (i + 1) h (insP i j h) ∧ RowSI g cap n (insP i j h) c ∧ St B w0 wr (c :: F)))
      case atStart => exact ⟨i, Lib.hid (by omega), Nat.le_refl _, rfl, c1, Lib.hid ⟨fun k h1 h2 => by omega, by rw [insP_self]; exact Pm.refl _ _ _, by rw [insP_self]; exact HQ.out.2.2⟩⟩
      case round =>
        obtain ⟨j, HJ, hji, rfl, c2, HI⟩ := hrel
        have haj : a ≤ j := by have := HJ.out; omega
        have FIN : ∀ wx (c' : List (Nat × Obj)), (j = a ∨ R (h (j - 1)) (h i)) → RowSI g cap n (insP i j h) c' → St B w0 wx (c' :: F) → ∃ (h : Nat → Nat) (c : List (Nat × Obj)), Hid (Pm a (min (i + 1) b) f h ∧ Srt R a (min (i + 1) b) h ∧ RowSI g cap n h c ∧ St B w0 wx (c :: F)) := by
          intro wx c' hstop hr hs
          refine ⟨insP i j h, c', Lib.hid ⟨?_, ?_, hr, hs⟩⟩
          · rw [show min (i + 1) b = i + 1 from by omega]
            exact (HQ.out.1.mono (Nat.le_refl _) (by omega) (by omega)).trans HI.out.2.1
          · rw [show min (i + 1) b = i + 1 from by omega]
            exact insP_srt HT.out HQ.out.2.1 (by omega) hji HI.out.1 hstop
        have HFIN := Lib.hid FIN
        clear FIN
        cases gk with
        | zero =>
          have hja : j = a := HJ.out
          have HJA := Lib.hid hja
          clear hja
          have q1 : ¬ a < j := by have := HJ.out; omega
          have HS := HI.out.2.2
          go_wp2_with fail
          go_quiet (fail)
          go_wp2_with fail
          go_roundg (b - i)
          case measure => omega
          case rel => exact ⟨i + 1, by omega, by omega, by go_num, HFIN.out _ c2 (.inl HJA.out) HS.1 (HS.2.drewN _)⟩
        | succ k =>
          have q1 : a < j := by have := HJ.out; omega
          have hcm := fun nq => HC.out.1 (wr.drewN nq) c2 (HI.out.2.2.2.drewN nq) (h i) (h (j - 1)) (HO.out.1 i (by omega)) (HO.out.1 (j - 1) (by omega))
          have hl1 := HI.out.2.2.1.cell HI.out.2.2.2 (show j < n by omega)
          have hl2 := HI.out.2.2.1.cell HI.out.2.2.2 (show j - 1 < n by omega)
          rw [insP_at] at hl1
          rw [insP_pre i j h (by omega)] at hl2
          have hji1 : (j : Int) < (n : Int) := by omega
          have hji2 : (j : Int) - 1 < (n : Int) := by omega
          have hj1 : 1 ≤ j := by omega
          by_cases hlt : cf (h i) (h (j - 1)) < 0
          · have HLT := Lib.hid hlt
            go_wp2_with fail
            go_quiet ((go_at_call 40; exact quiet_cmpI (hcm _)))
            have S2 := HI.out.2.2.2.drewN nq
            have hr2 := HI.out.2.2.1
            generalize wr.drewN nq = w2 at S2 ⊢
            have hp := hr2.cell S2 (show j < n by omega)
            have hq := hr2.cell S2 (show j - 1 < n by omega)
            have hf := hr2.free S2 j
            have hf2 := hr2.free S2 (j - 1)
            obtain ⟨p1, p2, c3, p3, p4⟩ := hr2.swp S2 (show j ≠ j - 1 by omega) (by omega) (by omega)
            rw [swp_comm, insP_step i j h hj1 hji] at p3
            rw [insP_at, insP_pre i j h hj1] at *
            have HN : Hid ((∀ k, j - 1 ≤ k → k < i → R (h i) (h k)) ∧ Pm a (i + 1) h (insP i (j - 1) h) ∧ RowSI g cap n (insP i (j - 1) h) c3) := Lib.hid ⟨by
              intro k hk1 hk2
              by_cases e : k = j - 1
              · rw [e]; exact (HO.out.2 (j - 1) (by omega) (by omega)).1 HLT.out
              · exact HI.out.1 k (by omega) hk2, by
              have := HI.out.2.1.trans (Pm.swp (insP i j h) (show a ≤ j - 1 by omega) (show j - 1 < j by omega) (show j < i + 1 by omega))
              rwa [insP_step i j h hj1 hji] at this, p3⟩
            clear p3 hl1 hl2 hcm HI hr2
            generalize h i = x at *
            generalize h (j - 1) = y at *
            go_wp2_with fail
            go_region
            go_wp2_with fail
            go_roundg k
            case measure => omega
            case rel => exact ⟨j - 1, Lib.hid (by have := HJ.out; omega), by omega, by go_num, c3, Lib.hid ⟨HN.out.1, HN.out.2.1, HN.out.2.2, p4.drew⟩⟩
          · have HR : Hid (R (h (j - 1)) (h i)) := Lib.hid ((HO.out.2 (j - 1) (by omega) (by omega)).2 hlt)
            have HS := HI.out.2.2
            go_wp2_with fail
            go_quiet ((go_at_call 40; exact quiet_cmpI (hcm _)))
            go_wp2_with fail
            go_roundg (b - i)
            case measure => omega
            case rel => exact ⟨i + 1, by omega, by omega, by go_num, HFIN.out _ c2 (.inr HR.out) HS.1 (HS.2.drewN _)⟩
    · have hz : ¬ (i : Int) < (b : Int) := by omega
      have hmin : min i b = b := by omega
      rw [hmin] at HQ
      clear hmin
      go_wp2_with fail
      go_end0
      exact ⟨rfl, h, c1, HQ.out⟩
end
end Go.Proofs.Ytdhnmcdgiddhdab

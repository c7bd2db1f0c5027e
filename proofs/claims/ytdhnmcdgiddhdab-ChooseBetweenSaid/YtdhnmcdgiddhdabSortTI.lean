/-
  The library's stable sort: the whole.
-/
import Derived.Test.YtdhnmcdgiddhdabSortMI
import Derived.Test.YtdhnmcdgiddhdabPureSortT
set_option linter.unusedVariables false
set_option linter.unusedSimpArgs false
namespace Go.Proofs.Ytdhnmcdgiddhdab
open Go.RowKit
set_option maxRecDepth 100000
section
variable {B : Nat} {w0 : World} {F : List (List (Nat × Obj))} {g cap n : Nat} {R : Nat → Nat → Prop} {cf : Nat → Nat → Int} {Ok : Nat → Prop} {u1 u2 : Value}
theorem symI_any (tr : ∀ x y z, R x y → R y z → R x z) (hcmp : CmpI B w0 F Ok cf u1 u2) (hn : n ≤ 1000000) : ∀ (d a m b : Nat) (f : Nat → Nat) (c : List (Nat × Obj)) (w : World), b - a ≤ d → SymOkI B w0 F g cap n R cf Ok a m b f c w → a < m → m < b → b ≤ n →
    Calls Try.prog 54 #[.slice (some ⟨g, 0, none⟩) n cap, .int .i64 (a : Int), .int .i64 (m : Int), .int .i64 (b : Int), .func (.func 40) #[] #[u1, u2]] w (TOutI R g cap n a b f F B w0)
  | 0, a, m, b, f, c, w, hd, _, h1, h2, _ => by omega
  | d + 1, a, m, b, f, c, w, hd, h, h1, h2, h3 => by
    by_cases q1 : m = a + 1
    · subst q1
      exact symI_one tr hcmp a b f c w h h2 h3 hn
    · by_cases q2 : b = m + 1
      · subst q2
        exact symI_two tr hcmp a m f c w h (by omega) h3 hn
      · exact symI_gen tr hcmp a m b f c w h (by omega) (by omega) h3 hn fun a' m' b' f' c' w' hlt hok h4 h5 h6 => symI_any tr hcmp hn d a' m' b' f' c' w' (by omega) hok h4 h5 h6
set_option maxHeartbeats 4000000 in
theorem tabI_any (tr : ∀ x y z, R x y → R y z → R x z) (hcmp : CmpI B w0 F Ok cf u1 u2) (f : Nat → Nat) (c : List (Nat × Obj)) (w : World) (h : RowSI g cap n f c) (hS : St B w0 w (c :: F)) (hn : n ≤ 320) (hok : ∀ k, k < n → Ok (f k)) (ht : ∀ p q, p < q → q < n → Tell R cf (f p) (f q)) :
    Calls Try.prog 49 #[.slice (some ⟨g, 0, none⟩) n cap, .int .i64 (n : Int), .func (.func 40) #[] #[u1, u2]] w (TOutI R g cap n 0 n f F B w0) := by
  have hnl : (n : Int) ≤ 320 := by omega
  have H0 := Lib.hid (And.intro h hS)
  have HT := Lib.hid (And.intro tr (And.intro hcmp (And.intro hok ht)))
  clear h hS tr hcmp hok ht
  go_enter Try.func49, Try.ntmps49
  go_wp2_with fail
  go_loopg [7, 8] n (fun M s7 s8 wr => ∃ a : Nat, a ≤ n ∧ n ≤ a + M ∧ a % 20 = 0 ∧ s7 = .int .i64 (a : Int) ∧ s8 = .int .i64 ((a : Int) + 20) ∧ ∃ (h : Nat → Nat) (c : List (Nat × Obj)), Hid (InsB R n f a h ∧ RowSI g cap n h c ∧ St B w0 wr (c :: F)))
  case atStart => exact ⟨0, by omega, by omega, rfl, rfl, by simp, f, c, Lib.hid ⟨InsB.init R n f, H0.out⟩⟩
  case round =>
    obtain ⟨a, ha, haM, ha20, rfl, rfl, h, c1, HQ⟩ := hrel
    by_cases q : a + 20 ≤ n
    · have qi : (a : Int) + 20 ≤ (n : Int) := by omega
      have e20 : ((a + 20 : Nat) : Int) = (a : Int) + 20 := by omega
      have hc := insI_any HT.out.1 HT.out.2.1 a (a + 20) HQ.out.2.1 HQ.out.2.2 (by omega) q (by omega) (HQ.out.1.ok HT.out.2.2.1) (fun p r h1 h2 h3 => HQ.out.1.tell HT.out.2.2.2 p r h1 h2 (by omega))
      rw [e20] at hc
      have HC := Lib.hid hc
      clear hc e20
      go_wp2_with fail
      refine HC.out.mono ?_
      rintro e w2 ⟨rfl, f', c2, p1, p2, p3, p4⟩
      have HN := Lib.hid (And.intro (HQ.out.1.step ha20 (by omega) (Nat.le_refl _) q p1 p2 (.inl rfl)) (And.intro p3 p4))
      clear p1 p2 p3 p4
      go_wp2_with fail
      cases gk with
      | zero => omega
      | succ M =>
        go_roundg M
        case measure => omega
        case rel => exact ⟨a + 20, by omega, by omega, by omega, by go_num, by go_num, f', c2, HN⟩
    · have qi : ¬ (a : Int) + 20 ≤ (n : Int) := by omega
      have HC := Lib.hid (insI_any HT.out.1 HT.out.2.1 a n HQ.out.2.1 HQ.out.2.2 ha (Nat.le_refl _) (by omega) (HQ.out.1.ok HT.out.2.2.1) (fun p r h1 h2 h3 => HQ.out.1.tell HT.out.2.2.2 p r h1 h2 h3))
      go_wp2_with fail
      refine HC.out.mono ?_
      rintro e w2 ⟨rfl, f', c2, p1, p2, p3, p4⟩
      have HN := Lib.hid (And.intro (HQ.out.1.step ha20 ha (by omega) (Nat.le_refl _) p1 p2 (.inr rfl)).mrg (And.intro p3 p4))
      have HN2 : Hid (MrgB R n f 20 0 f' ∧ RowSI g cap n f' c2 ∧ St B w0 w2 (c2 :: F)) := Lib.hid ⟨HN.out.1 (by omega), HN.out.2⟩
      clear p1 p2 p3 p4 HN HC HQ
      go_wp2_with fail
      go_loopg [6] 4 (fun M s6 wr => ∃ bs : Nat, Hid ((bs = 20 ∧ M = 4) ∨ (bs = 40 ∧ M = 3) ∨ (bs = 80 ∧ M = 2) ∨ (bs = 160 ∧ M = 1) ∨ (bs = 320 ∧ M = 0)) ∧ bs ≤ 320 ∧ s6 = .int .i64 (bs : Int) ∧ ∃ (h : Nat → Nat) (c : List (Nat × Obj)), Hid (MrgB R n f bs 0 h ∧ RowSI g cap n h c ∧ St B w0 wr (c :: F)))
      case atStart => exact ⟨20, Lib.hid (.inl ⟨rfl, rfl⟩), by omega, rfl, f', c2, HN2⟩
      case round =>
        clear HN2
        obtain ⟨bs, HB, hb320, rfl, h, c3, HQ⟩ := hrel
        have HMo : Hid (∃ Mo, Mo = gk) := Lib.hid ⟨_, rfl⟩
        obtain ⟨Mo, hMo⟩ := HMo.out
        rw [← hMo] at HB
        have HMO := Lib.hid hMo
        clear hMo HMo
        by_cases q2 : bs < n
        · have q2i : (bs : Int) < (n : Int) := by omega
          have hsz : sizes bs := by
            have := HB.out
            unfold sizes
            omega
          have hb20 : 20 ≤ bs := by unfold sizes at hsz; omega
          have HSZ := Lib.hid hsz
          clear hsz
          go_wp2_with fail
          go_loopg [7, 8] n (fun M2 s7 s8 wr => ∃ a : Nat, a ≤ n ∧ n ≤ a + M2 ∧ Hid (a % (2 * bs) = 0) ∧ s7 = .int .i64 (a : Int) ∧ s8 = .int .i64 ((a : Int) + 2 * (bs : Int)) ∧ ∃ (h : Nat → Nat) (c : List (Nat × Obj)), Hid (MrgB R n f bs a h ∧ RowSI g cap n h c ∧ St B w0 wr (c :: F)))
          case atStart => exact ⟨0, by omega, by omega, Lib.hid (Nat.zero_mod _), rfl, by simp, h, c3, HQ⟩
          case round =>
            clear HQ
            obtain ⟨a2, ha2, haM2, HM, rfl, rfl, h, c4, HQ⟩ := hrel
            by_cases q3 : a2 + 2 * bs ≤ n
            · have q3i : (a2 : Int) + 2 * (bs : Int) ≤ (n : Int) := by omega
              have hc := symI_any HT.out.1 HT.out.2.1 (by omega) (2 * bs) a2 (a2 + bs) (a2 + 2 * bs) h c4 wr (by omega) ⟨HQ.out.2.1, HQ.out.2.2, HQ.out.1.ok HT.out.2.2.1, HQ.out.1.srtL HSZ.out HM.out (by omega), HQ.out.1.srtR HSZ.out HM.out q3 (Nat.le_refl _), fun p r h1 h2 h3 h4 => HQ.out.1.tell HSZ.out HM.out HT.out.2.2.2 p r h1 h2 h3 (by omega)⟩ (by omega) (by omega) q3
              rw [show ((a2 + bs : Nat) : Int) = (a2 : Int) + (bs : Int) from by omega, show ((a2 + 2 * bs : Nat) : Int) = (a2 : Int) + 2 * (bs : Int) from by omega] at hc
              have HC := Lib.hid hc
              clear hc
              go_wp2_with fail
              refine HC.out.mono ?_
              rintro e w5 ⟨rfl, f'', c5, p1, p2, p3, p4⟩
              have HN := Lib.hid (And.intro (HQ.out.1.step HSZ.out HM.out (by omega) (Nat.le_refl _) q3 p1 p2 (.inl rfl)) (And.intro p3 p4))
              have HM2 : Hid ((a2 + 2 * bs) % (2 * bs) = 0) := Lib.hid (by rw [Nat.add_mod_right]; exact HM.out)
              clear p1 p2 p3 p4 HC
              go_wp2_with fail
              cases gk with
              | zero => omega
              | succ M2 =>
                go_roundg M2
                case measure => omega
                case rel => exact ⟨a2 + 2 * bs, by omega, by omega, HM2, by go_num, by go_num, f'', c5, HN⟩
            · have q3i : ¬ (a2 : Int) + 2 * (bs : Int) ≤ (n : Int) := by omega
              by_cases q4 : a2 + bs < n
              · have q4i : (a2 : Int) + (bs : Int) < (n : Int) := by omega
                have hc := symI_any HT.out.1 HT.out.2.1 (by omega) n a2 (a2 + bs) n h c4 wr (by omega) ⟨HQ.out.2.1, HQ.out.2.2, HQ.out.1.ok HT.out.2.2.1, HQ.out.1.srtL HSZ.out HM.out (by omega), HQ.out.1.srtR HSZ.out HM.out (Nat.le_refl _) (by omega), fun p r h1 h2 h3 h4 => HQ.out.1.tell HSZ.out HM.out HT.out.2.2.2 p r h1 h2 h3 h4⟩ (by omega) q4 (Nat.le_refl _)
                rw [show ((a2 + bs : Nat) : Int) = (a2 : Int) + (bs : Int) from by omega] at hc
                have HC := Lib.hid hc
                clear hc
                go_wp2_with fail
                refine HC.out.mono ?_
                rintro e w5 ⟨rfl, f'', c5, p1, p2, p3, p4⟩
                have HN := Lib.hid (And.intro ((HQ.out.1.step HSZ.out HM.out (by omega) (by omega) (Nat.le_refl _) p1 p2 (.inr rfl)).next (by omega)) (And.intro p3 p4))
                clear p1 p2 p3 p4 HC
                go_wp2_with fail
                go_roundg (Mo - 1)
                case measure => have h1 := HMO.out; have h2 := HB.out; omega
                case rel => exact ⟨2 * bs, Lib.hid (by have h2 := HB.out; omega), by have h2 := HSZ.out; unfold sizes at h2; omega, by go_num, _, _, HN⟩
              · have q4i : ¬ (a2 : Int) + (bs : Int) < (n : Int) := by omega
                have HN := Lib.hid (And.intro ((HQ.out.1.skip HSZ.out HM.out (by omega)).next (by omega)) HQ.out.2)
                go_wp2_with fail
                go_roundg (Mo - 1)
                case measure => have h1 := HMO.out; have h2 := HB.out; omega
                case rel => exact ⟨2 * bs, Lib.hid (by have h2 := HB.out; omega), by have h2 := HSZ.out; unfold sizes at h2; omega, by go_num, _, _, HN⟩
        · have q2i : ¬ (bs : Int) < (n : Int) := by omega
          go_wp2_with fail
          go_end0
          exact ⟨rfl, h, c3, HQ.out.1.pm, HQ.out.1.done (by omega), HQ.out.2⟩
/-- The library's stable sort. -/
theorem stableI_any (tr : ∀ x y z, R x y → R y z → R x z) (hcmp : CmpI B w0 F Ok cf u1 u2) (f : Nat → Nat) (c : List (Nat × Obj)) (w : World) (h : RowSI g cap n f c) (hS : St B w0 w (c :: F)) (hn : n ≤ 320) (hok : ∀ k, k < n → Ok (f k)) (ht : ∀ p q, p < q → q < n → Tell R cf (f p) (f q)) :
    Calls Try.prog 39 #[.slice (some ⟨g, 0, none⟩) n cap, .func (.func 40) #[] #[u1, u2]] w (TOutI R g cap n 0 n f F B w0) := by
  have hnl : (n : Int) ≤ 320 := by omega
  have HC := Lib.hid (tabI_any tr hcmp f c w h hS hn hok ht)
  clear h hS tr hcmp hok ht
  go_enter Try.func39, Try.ntmps39
  go_wp2_with fail
  refine HC.out.mono ?_
  rintro e w2 ⟨rfl, hx⟩
  go_wp2_with fail
  go_end0
  exact ⟨rfl, hx⟩
end
end Go.Proofs.Ytdhnmcdgiddhdab

/-
  Texts joined: SortTC, LenA, Makes, LenOf, PureKraft, PureCodes, PureZeros, PureEnt, Arr.
-/
import Derived.Test.YthgbkncanoknkaaSg3
import Derived.Test.YthgbkncanoknkaaSg1
import Derived.Deep.RegionHeld3
import Derived.Test.YthgbkncanoknkaaSg2
import Derived.Laws.Rows
import Derived.Laws.Tables
/-
  The library's stable sort: the whole.
-/
set_option linter.unusedVariables false
set_option linter.unusedSimpArgs false
namespace Go.Proofs.Ythgbkncanoknkaa
open Go.RowKit
set_option maxRecDepth 100000
section
variable {B : Nat} {w0 : World} {F : List (List (Nat × Obj))} {g cap n : Nat} {R : Nat → Nat → Prop} {cf : Nat → Nat → Int} {Ok : Nat → Prop} 
theorem symC_any (tr : ∀ x y z, R x y → R y z → R x z) (hcmp : CmpC B w0 F Ok cf) (hn : n ≤ 1000000) : ∀ (d a m b : Nat) (f : Nat → Nat) (c : List (Nat × Obj)) (w : World), b - a ≤ d → SymOkC B w0 F g cap n R cf Ok a m b f c w → a < m → m < b → b ≤ n →
    Calls Try.prog 92 #[.slice (some ⟨g, 0, none⟩) n cap, .int .i64 (a : Int), .int .i64 (m : Int), .int .i64 (b : Int), .func (.func 71) #[] #[]] w (TOutC R g cap n a b f F B w0)
  | 0, a, m, b, f, c, w, hd, _, h1, h2, _ => by omega
  | d + 1, a, m, b, f, c, w, hd, h, h1, h2, h3 => by
    by_cases q1 : m = a + 1
    · subst q1
      exact symC_one tr hcmp a b f c w h h2 h3 hn
    · by_cases q2 : b = m + 1
      · subst q2
        exact symC_two tr hcmp a m f c w h (by omega) h3 hn
      · exact symC_gen tr hcmp a m b f c w h (by omega) (by omega) h3 hn fun a' m' b' f' c' w' hlt hok h4 h5 h6 => symC_any tr hcmp hn d a' m' b' f' c' w' (by omega) hok h4 h5 h6
set_option maxHeartbeats 4000000 in
theorem tabC_any (tr : ∀ x y z, R x y → R y z → R x z) (hcmp : CmpC B w0 F Ok cf) (f : Nat → Nat) (c : List (Nat × Obj)) (w : World) (h : RowSC g cap n f c) (hS : St B w0 w (c :: F)) (hn : n ≤ 320) (hok : ∀ k, k < n → Ok (f k)) (ht : ∀ p q, p < q → q < n → Tell R cf (f p) (f q)) :
    Calls Try.prog 79 #[.slice (some ⟨g, 0, none⟩) n cap, .int .i64 (n : Int), .func (.func 71) #[] #[]] w (TOutC R g cap n 0 n f F B w0) := by
  have hnl : (n : Int) ≤ 320 := by omega
  have H0 := Lib.hid (And.intro h hS)
  have HT := Lib.hid (And.intro tr (And.intro hcmp (And.intro hok ht)))
  clear h hS tr hcmp hok ht
  go_enter Try.func79, Try.ntmps79
  go_wp2_with fail
  go_loopg [7, 8] n (fun M s7 s8 wr => ∃ a : Nat, a ≤ n ∧ n ≤ a + M ∧ a % 20 = 0 ∧ s7 = .int .i64 (a : Int) ∧ s8 = .int .i64 ((a : Int) + 20) ∧ ∃ (h : Nat → Nat) (c : List (Nat × Obj)), Hid (InsB R n f a h ∧ RowSC g cap n h c ∧ St B w0 wr (c :: F)))
  case atStart => exact ⟨0, by omega, by omega, rfl, rfl, by simp, f, c, Lib.hid ⟨InsB.init R n f, H0.out⟩⟩
  case round =>
    obtain ⟨a, ha, haM, ha20, rfl, rfl, h, c1, HQ⟩ := hrel
    by_cases q : a + 20 ≤ n
    · have qi : (a : Int) + 20 ≤ (n : Int) := by omega
      have e20 : ((a + 20 : Nat) : Int) = (a : Int) + 20 := by omega
      have hc := insC_any HT.out.1 HT.out.2.1 a (a + 20) HQ.out.2.1 HQ.out.2.2 (by omega) q (by omega) (HQ.out.1.ok HT.out.2.2.1) (fun p r h1 h2 h3 => HQ.out.1.tell HT.out.2.2.2 p r h1 h2 (by omega))
      rw [e20] at hc
      have HC := Lib.hid hc
      clear hc e20
      go_wp2_with fail
      refine HC.out.mono ?_
      rintro e w2 ⟨rfl, f', c2, p1, p2, p3, p4⟩
      have HN := Lib.hid (And.intro (HQ.out.1.step ha20 (by omega) (Nat.le_refl _) q p1 p2 (.inl rfl)) (And.intro p3 p4))
      clear p1 p2 p3 p4
      go_wp2_with fail
      cases gk with
      | zero => omega
      | succ M =>
        go_roundg M
        case measure => omega
        case rel => exact ⟨a + 20, by omega, by omega, by omega, by go_num, by go_num, f', c2, HN⟩
    · have qi : ¬ (a : Int) + 20 ≤ (n : Int) := by omega
      have HC := Lib.hid (insC_any HT.out.1 HT.out.2.1 a n HQ.out.2.1 HQ.out.2.2 ha (Nat.le_refl _) (by omega) (HQ.out.1.ok HT.out.2.2.1) (fun p r h1 h2 h3 => HQ.out.1.tell HT.out.2.2.2 p r h1 h2 h3))
      go_wp2_with fail
      refine HC.out.mono ?_
      rintro e w2 ⟨rfl, f', c2, p1, p2, p3, p4⟩
      have HN := Lib.hid (And.intro (HQ.out.1.step ha20 ha (by omega) (Nat.le_refl _) p1 p2 (.inr rfl)).mrg (And.intro p3 p4))
      have HN2 : Hid (MrgB R n f 20 0 f' ∧ RowSC g cap n f' c2 ∧ St B w0 w2 (c2 :: F)) := Lib.hid ⟨HN.out.1 (by omega), HN.out.2⟩
      clear p1 p2 p3 p4 HN HC HQ
      go_wp2_with fail
      go_loopg [6] 4 (fun M s6 wr => ∃ bs : Nat, Hid ((bs = 20 ∧ M = 4) ∨ (bs = 40 ∧ M = 3) ∨ (bs = 80 ∧ M = 2) ∨ (bs = 160 ∧ M = 1) ∨ (bs = 320 ∧ M = 0)) ∧ bs ≤ 320 ∧ s6 = .int .i64 (bs : Int) ∧ ∃ (h : Nat → Nat) (c : List (Nat × Obj)), Hid (MrgB R n f bs 0 h ∧ RowSC g cap n h c ∧ St B w0 wr (c :: F)))
      case atStart => exact ⟨20, Lib.hid (.inl ⟨rfl, rfl⟩), by omega, rfl, f', c2, HN2⟩
      case round =>
        clear HN2
        obtain ⟨bs, HB, hb320, rfl, h, c3, HQ⟩ := hrel
        have HMo : Hid (∃ Mo, Mo = gk) := Lib.hid ⟨_, rfl⟩
        obtain ⟨Mo, hMo⟩ := HMo.out
        rw [← hMo] at HB
        have HMO := Lib.hid hMo
        clear hMo HMo
        by_cases q2 : bs < n
        · have q2i : (bs : Int) < (n : Int) := by omega
          have hsz : sizes bs := by
            have := HB.out
            unfold sizes
            omega
          have hb20 : 20 ≤ bs := by unfold sizes at hsz; omega
          have HSZ := Lib.hid hsz
          clear hsz
          go_wp2_with fail
          go_loopg [7, 8] n (fun M2 s7 s8 wr => ∃ a : Nat, a ≤ n ∧ n ≤ a + M2 ∧ Hid (a % (2 * bs) = 0) ∧ s7 = .int .i64 (a : Int) ∧ s8 = .int .i64 ((a : Int) + 2 * (bs : Int)) ∧ ∃ (h : Nat → Nat) (c : List (Nat × Obj)), Hid (MrgB R n f bs a h ∧ RowSC g cap n h c ∧ St B w0 wr (c :: F)))
          case atStart => exact ⟨0, by omega, by omega, Lib.hid (Nat.zero_mod _), rfl, by simp, h, c3, HQ⟩
          case round =>
            clear HQ
            obtain ⟨a2, ha2, haM2, HM, rfl, rfl, h, c4, HQ⟩ := hrel
            by_cases q3 : a2 + 2 * bs ≤ n
            · have q3i : (a2 : Int) + 2 * (bs : Int) ≤ (n : Int) := by omega
              have hc := symC_any HT.out.1 HT.out.2.1 (by omega) (2 * bs) a2 (a2 + bs) (a2 + 2 * bs) h c4 wr (by omega) ⟨HQ.out.2.1, HQ.out.2.2, HQ.out.1.ok HT.out.2.2.1, HQ.out.1.srtL HSZ.out HM.out (by omega), HQ.out.1.srtR HSZ.out HM.out q3 (Nat.le_refl _), fun p r h1 h2 h3 h4 => HQ.out.1.tell HSZ.out HM.out HT.out.2.2.2 p r h1 h2 h3 (by omega)⟩ (by omega) (by omega) q3
              rw [show ((a2 + bs : Nat) : Int) = (a2 : Int) + (bs : Int) from by omega, show ((a2 + 2 * bs : Nat) : Int) = (a2 : Int) + 2 * (bs : Int) from by omega] at hc
              have HC := Lib.hid hc
              clear hc
              go_wp2_with fail
              refine HC.out.mono ?_
              rintro e w5 ⟨rfl, f'', c5, p1, p2, p3, p4⟩
              have HN := Lib.hid (And.intro (HQ.out.1.step HSZ.out HM.out (by omega) (Nat.le_refl _) q3 p1 p2 (.inl rfl)) (And.intro p3 p4))
              have HM2 : Hid ((a2 + 2 * bs) % (2 * bs) = 0) := Lib.hid (by rw [Nat.add_mod_right]; exact HM.out)
              clear p1 p2 p3 p4 HC
              go_wp2_with fail
              cases gk with
              | zero => omega
              | succ M2 =>
                go_roundg M2
                case measure => omega
                case rel => exact ⟨a2 + 2 * bs, by omega, by omega, HM2, by go_num, by go_num, f'', c5, HN⟩
            · have q3i : ¬ (a2 : Int) + 2 * (bs : Int) ≤ (n : Int) := by omega
              by_cases q4 : a2 + bs < n
              · have q4i : (a2 : Int) + (bs : Int) < (n : Int) := by omega
                have hc := symC_any HT.out.1 HT.out.2.1 (by omega) n a2 (a2 + bs) n h c4 wr (by omega) ⟨HQ.out.2.1, HQ.out.2.2, HQ.out.1.ok HT.out.2.2.1, HQ.out.1.srtL HSZ.out HM.out (by omega), HQ.out.1.srtR HSZ.out HM.out (Nat.le_refl _) (by omega), fun p r h1 h2 h3 h4 => HQ.out.1.tell HSZ.out HM.out HT.out.2.2.2 p r h1 h2 h3 h4⟩ (by omega) q4 (Nat.le_refl _)
                rw [show ((a2 + bs : Nat) : Int) = (a2 : Int) + (bs : Int) from by omega] at hc
                have HC := Lib.hid hc
                clear hc
                go_wp2_with fail
                refine HC.out.mono ?_
                rintro e w5 ⟨rfl, f'', c5, p1, p2, p3, p4⟩
                have HN := Lib.hid (And.intro ((HQ.out.1.step HSZ.out HM.out (by omega) (by omega) (Nat.le_refl _) p1 p2 (.inr rfl)).next (by omega)) (And.intro p3 p4))
                clear p1 p2 p3 p4 HC
                go_wp2_with fail
                go_roundg (Mo - 1)
                case measure => have h1 := HMO.out; have h2 := HB.out; omega
                case rel => exact ⟨2 * bs, Lib.hid (by have h2 := HB.out; omega), by have h2 := HSZ.out; unfold sizes at h2; omega, by go_num, _, _, HN⟩
              · have q4i : ¬ (a2 : Int) + (bs : Int) < (n : Int) := by omega
                have HN := Lib.hid (And.intro ((HQ.out.1.skip HSZ.out HM.out (by omega)).next (by omega)) HQ.out.2)
                go_wp2_with fail
                go_roundg (Mo - 1)
                case measure => have h1 := HMO.out; have h2 := HB.out; omega
                case rel => exact ⟨2 * bs, Lib.hid (by have h2 := HB.out; omega), by have h2 := HSZ.out; unfold sizes at h2; omega, by go_num, _, _, HN⟩
        · have q2i : ¬ (bs : Int) < (n : Int) := by omega
          go_wp2_with fail
          go_end0
          exact ⟨rfl, h, c3, HQ.out.1.pm, HQ.out.1.done (by omega), HQ.out.2⟩
/-- The library's stable sort. -/
theorem stableC_any (tr : ∀ x y z, R x y → R y z → R x z) (hcmp : CmpC B w0 F Ok cf) (f : Nat → Nat) (c : List (Nat × Obj)) (w : World) (h : RowSC g cap n f c) (hS : St B w0 w (c :: F)) (hn : n ≤ 320) (hok : ∀ k, k < n → Ok (f k)) (ht : ∀ p q, p < q → q < n → Tell R cf (f p) (f q)) :
    Calls Try.prog 70 #[.slice (some ⟨g, 0, none⟩) n cap, .func (.func 71) #[] #[]] w (TOutC R g cap n 0 n f F B w0) := by
  have hnl : (n : Int) ≤ 320 := by omega
  have HC := Lib.hid (tabC_any tr hcmp f c w h hS hn hok ht)
  clear h hS tr hcmp hok ht
  go_enter Try.func70, Try.ntmps70
  go_wp2_with fail
  refine HC.out.mono ?_
  rintro e w2 ⟨rfl, hx⟩
  go_wp2_with fail
  go_end0
  exact ⟨rfl, hx⟩
end
end Go.Proofs.Ythgbkncanoknkaa
/-
  lengths.Of: what it asks of the frequencies; how it compares coins.
-/
set_option linter.unusedVariables false
set_option linter.unusedSimpArgs false
namespace Go.Proofs.Ythgbkncanoknkaa
open Go.RowKit
set_option maxRecDepth 100000
def badF (x : Int) : Bool := decide (x < 0) || decide (1073741824 < x)
theorem lenof1_any (x : Int) (w : World) : Calls Try.prog 69 #[.int .i64 x] w fun e w' => e = .returned (.bool (badF x)) ∧ w = w' := by
  unfold badF
  by_cases q1 : x < 0
  · go_enter Try.func69, Try.ntmps69
    go_wp2_with fail
    go_ret
    exact ⟨by simp [q1], rfl⟩
  · by_cases q2 : 1073741824 < x
    · go_enter Try.func69, Try.ntmps69
      go_wp2_with fail
      go_ret
      exact ⟨by simp [q1, q2], rfl⟩
    · go_enter Try.func69, Try.ntmps69
      go_wp2_with fail
      go_ret
      exact ⟨by simp [q1, q2], rfl⟩
def IdxOut (l : List Int) (w : World) (e : Ending) (w' : World) : Prop := ∃ r : Int, e = .returned (.int .i64 r) ∧ (0 ≤ r ↔ l.any badF = true) ∧ w = w'
set_option maxHeartbeats 1000000 in
theorem indexf_any (v : Value) (l : List Int) (w : World) (h : Rd w 1 v l.length (iv l)) (hn : l.length ≤ 1000000) :
    Calls Try.prog 78 #[v, .func (.func 69) #[] #[]] w (IdxOut l w) := by
  obtain ⟨ao, cap, rfl⟩ := h.shape
  have hnl : (l.length : Int) ≤ 1000000 := by omega
  have H := Lib.hid h
  clear h
  go_enter Try.func78, Try.ntmps78
  go_wp2_with fail
  go_loopg [8] l.length (fun m s8 wr => ∃ i : Nat, i + m = l.length ∧ s8 = .int .i64 (i : Int) ∧ Hid ((l.take i).any badF = false) ∧ w = wr)
  case atStart => exact ⟨0, by omega, rfl, Lib.hid rfl, rfl⟩
  case round =>
    obtain ⟨i, hi, rfl, HN, rfl⟩ := hrel
    cases gk with
    | zero =>
      have hil : i = l.length := by omega
      have hz : ¬ (i : Int) < (l.length : Int) := by omega
      have HI := Lib.hid hil
      clear hi hil
      go_wp2_with fail
      go_ret
      refine ⟨-1, rfl, ?_, rfl⟩
      have := HN.out
      rw [HI.out, List.take_length] at this
      rw [this]
      simp
    | succ m =>
      have hil : (i : Int) < (l.length : Int) := by omega
      obtain ⟨x, hx⟩ : ∃ x, l[i]? = some x := ⟨_, List.getElem?_eq_getElem (by omega)⟩
      obtain ⟨ad, rfl, hc⟩ := H.out.at (iv_get l i x hx)
      have htk : (l.take (i + 1)).any badF = badF x := by rw [List.take_add_one, hx, List.any_append, HN.out]; simp
      have HX := Lib.hid (And.intro hx htk)
      clear hx htk
      go_wp2_with fail
      refine (lenof1_any x w).mono ?_
      rintro e w2 ⟨rfl, rfl⟩
      cases hb : badF x with
      | true =>
        have HB := Lib.hid hb
        clear hb
        go_wp2_with fail
        go_ret
        refine ⟨(i : Int), rfl, ?_, rfl⟩
        rw [List.any_eq_true.2 ⟨x, List.mem_of_getElem? HX.out.1, HB.out⟩]
        simp
      | false =>
        have HB := Lib.hid hb
        clear hb
        go_wp2_with fail
        go_roundg m
        case measure => omega
        case rel => exact ⟨i + 1, by omega, by go_num, Lib.hid (by rw [HX.out.2]; exact HB.out), rfl⟩
theorem containsf_any (v : Value) (l : List Int) (w : World) (h : Rd w 1 v l.length (iv l)) (hn : l.length ≤ 1000000) :
    Calls Try.prog 68 #[v, .func (.func 69) #[] #[]] w fun e w' => e = .returned (.bool (l.any badF)) ∧ w = w' := by
  have H := Lib.hid h
  obtain ⟨ao, cap, rfl⟩ := h.shape
  clear h
  go_enter Try.func68, Try.ntmps68
  go_wp2_with fail
  refine (indexf_any _ l w H.out hn).mono ?_
  rintro e w2 ⟨r, rfl, hr, rfl⟩
  cases hb : l.any badF with
  | true =>
    have q : 0 ≤ r := hr.2 hb
    have HB := Lib.hid hb
    clear hr hb
    go_wp2_with fail
    go_ret
    refine ⟨?_, rfl⟩
    rw [HB.out]
    simp [q]
  | false =>
    have q : ¬ 0 ≤ r := fun h => by rw [hr.1 h] at hb; cases hb
    have HB := Lib.hid hb
    clear hr hb
    go_wp2_with fail
    go_ret
    refine ⟨?_, rfl⟩
    rw [HB.out]
    simp [q]
/-- How coins are compared. -/
def cfC (K : Nat → Coin) (p q : Nat) : Int := if (K p).worth < (K q).worth then -1 else if (K q).worth < (K p).worth then 1 else 0
set_option maxHeartbeats 1000000 in
theorem lenof2_any (p q : Nat) (a b : Nat) (w : World) (hp : w.cell? ⟨p, 0, none⟩ = some (.int .i64 (a : Int))) (hq : w.cell? ⟨q, 0, none⟩ = some (.int .i64 (b : Int))) :
    Calls Try.prog 71 #[.pointer (some ⟨p, 0, none⟩), .pointer (some ⟨q, 0, none⟩)] w fun e w' => e = .returned (.int .i64 (if a < b then -1 else if b < a then 1 else 0)) ∧ ∃ k, w' = w.drewN k := by
  by_cases q1 : a < b
  · have q1i : (a : Int) < (b : Int) := by omega
    go_enter Try.func71, Try.ntmps71
    go_wp2_with (first | ((with_reducible refine wpStill_plain ?_ ?_ (fun _ _ => ?_)); rfl; rfl) | (with_reducible refine wpStill_nil ?_) | ((with_reducible refine wp_draw_all (id := 1) mixed ?_ (fun _ _ => ?_)); kernel_rfl) | ((with_reducible refine wp_draw_all (id := 3) mixed ?_ (fun _ _ => ?_)); kernel_rfl))
    go_ret
    exact ⟨rfl, 1, rfl⟩
  · have q1i : ¬ (a : Int) < (b : Int) := by omega
    by_cases q2 : b < a
    · have q2i : (b : Int) < (a : Int) := by omega
      go_enter Try.func71, Try.ntmps71
      go_wp2_with (first | ((with_reducible refine wpStill_plain ?_ ?_ (fun _ _ => ?_)); rfl; rfl) | (with_reducible refine wpStill_nil ?_) | ((with_reducible refine wp_draw_all (id := 1) mixed ?_ (fun _ _ => ?_)); kernel_rfl) | ((with_reducible refine wp_draw_all (id := 3) mixed ?_ (fun _ _ => ?_)); kernel_rfl))
      go_ret
      exact ⟨rfl, 2, rfl⟩
    · have q2i : ¬ (b : Int) < (a : Int) := by omega
      go_enter Try.func71, Try.ntmps71
      go_wp2_with (first | ((with_reducible refine wpStill_plain ?_ ?_ (fun _ _ => ?_)); rfl; rfl) | (with_reducible refine wpStill_nil ?_) | ((with_reducible refine wp_draw_all (id := 1) mixed ?_ (fun _ _ => ?_)); kernel_rfl) | ((with_reducible refine wp_draw_all (id := 3) mixed ?_ (fun _ _ => ?_)); kernel_rfl))
      go_ret
      exact ⟨rfl, 2, rfl⟩
theorem mergeK_map : ∀ a b : List (Nat × Coin), (mergeK keyP a b).map Prod.snd = mergeK Coin.worth (a.map Prod.snd) (b.map Prod.snd) := by
  apply mergeK_ind
  · intro b; rw [mergeK_nil, List.map_nil, mergeK_nil]
  · intro x a; rw [mergeK_nil2, List.map_nil, mergeK_nil2]
  · intro x a y b h1 h2
    rw [mergeK_cons, List.map_cons, List.map_cons, mergeK_cons]
    by_cases h : x.2.worth ≤ y.2.worth
    · rw [if_pos (show keyP x ≤ keyP y from h), if_pos h, List.map_cons, h1, List.map_cons]
    · rw [if_neg (show ¬ keyP x ≤ keyP y from h), if_neg h, List.map_cons, h2, List.map_cons]
theorem level_bounds {l : List Coin} {n M : Nat} (h : ∀ x ∈ l, x.symsLt n ∧ x.worth ≤ M ∧ x.size ≤ 1) : ∀ k, ∀ x ∈ levelC l k, x.symsLt n ∧ x.worth ≤ 2 ^ k * M ∧ x.size ≤ 2 ^ k
  | 0, x, hx => by have := h x hx; simpa using this
  | k + 1, x, hx => by
    rw [levelC] at hx
    have hx2 := (mergeK_perm Coin.worth l (pairsC (levelC l k))).subset hx
    rw [List.mem_append] at hx2
    have hpw : 1 ≤ 2 ^ k := Nat.one_le_two_pow
    rcases hx2 with h1 | h1
    · obtain ⟨a, b, c⟩ := h x h1
      refine ⟨a, Nat.le_trans b ?_, by rw [Nat.pow_succ]; omega⟩
      exact Nat.le_mul_of_pos_left M (Nat.two_pow_pos _)
    · obtain ⟨p, hp⟩ := List.mem_iff_getElem?.1 h1
      have hl := (List.getElem?_eq_some_iff.1 hp).1
      rw [pairsC_length] at hl
      obtain ⟨u, v, e1, e2, e3⟩ := pairsC_get (levelC l k) p (by omega)
      rw [hp] at e3
      cases e3
      obtain ⟨a1, b1, c1⟩ := level_bounds h k u (List.mem_of_getElem? e1)
      obtain ⟨a2, b2, c2⟩ := level_bounds h k v (List.mem_of_getElem? e2)
      refine ⟨⟨a1, a2⟩, ?_, ?_⟩
      · simp only [Coin.worth, Nat.pow_succ]
        rw [Nat.mul_comm (2 ^ k) 2, Nat.mul_assoc]
        omega
      · simp only [Coin.size, Nat.pow_succ]
        omega
end Go.Proofs.Ythgbkncanoknkaa
/-
  A region that draws its order and makes five rows in whatever order.
-/
set_option linter.unusedVariables false
set_option linter.unusedSimpArgs false
namespace Go.Proofs.Ythgbkncanoknkaa
open Go.RowKit
/-- The operation 'make([]T, n)', T of one cell. -/
structure MkOp (P : Program) (ops : Array Oper) (pos : Nat) (d : Option Tmp) (T : TypeId) (n : Nat) (z : Value) (a : Act) : Prop where
  out : ∃ (o : Oper) (t : TypeId) (i : TypeInfo) (l cc : Operand) (kl kc : IntKind), ops[pos]? = some o ∧ o.guard = none ∧ o.dst = d ∧ o.op = Op.makeSlice t l cc ∧ a.eval l = .int kl (n : Int) ∧ a.eval cc = .int kc (n : Int) ∧
    P.underlying t = some (.slice T) ∧ P.info? T = some i ∧ i.zero = some z ∧ i.size = 1 ∧ i.bytes * n ≤ 281474976710656
  len : n ≤ maxLen
  cells : z.cells = #[z]
section
variable {P : Program} {ops : Array Oper} {Q : Exit → Act → World → Prop} {B : Nat} {w0 w : World} {L : List HL}
theorem MkOp.step {pos : Nat} {d : Option Tmp} {T : TypeId} {n : Nat} {z : Value} {a : Act} (h : MkOp P ops pos d T n z a) (hS : St B w0 w L) {fuel : Nat} {listed : Array Bool} {S : World → Prop}
    (hK : ∀ v c' w', RowC T 1 v n (List.replicate n z) c' → St B w0 w' (c' :: L) → S w' ∧ wpAnyH P .any ops Q S fuel (listed.setIfInBounds pos true) (a.put d v) w') :
    wpOp P ops Q pos (fun a' w' => S w' ∧ wpAnyH P .any ops Q S fuel (listed.setIfInBounds pos true) a' w') a w := by
  obtain ⟨o, t, i, l, cc, kl, kc, h1, h2, h3, h4, h5, h6, h7, h8, h9, h10, h11⟩ := h.out
  subst h3
  refine wpOp_step h1 fun K' hK' => ?_
  rw [if_pos (by simp [Region.wanted, h2])]
  obtain ⟨w', hrun, r1, r2⟩ := run_make_full (P := P) w w.heap.size t T i z 1 h7 h8 h9 h10 kl kc n h11 h.len (Nat.le_refl _)
  obtain ⟨c', q1, q2, q3⟩ := RowC.of_owns r1
  have e : (madeCells z.cells (n * 1)).toList = List.replicate n z := by rw [h.cells, Nat.mul_one]; exact toList_madeCells_one z n
  rw [e] at q1
  unfold Oper.wp
  simp [execOp, h4, h5, h6, hrun, Result.andThen]
  refine hK' _ _ (hK _ c' w' q1 ?_)
  refine hS.join (L' := [c']) ⟨⟨r2.os, r2.tape, r2.output, r2.size, fun k hk => r2.block k hk (by simp)⟩, r2.size, ?_, ?_, by simpa using q1.nd⟩
  · intro cc hcc x hx
    simp only [List.mem_singleton] at hcc
    subst hcc
    exact ⟨q2 x hx, (q3 x hx).2⟩
  · intro i j ci cj hi hj _ _ _ _ _
    have h1 := (List.getElem?_eq_some_iff.1 hi).1
    have h2 := (List.getElem?_eq_some_iff.1 hj).1
    simp at h1 h2
    omega
/-- A new one in the place of an empty one. -/
theorem St.fill {c' : HL} (h : St B w0 w (c' :: L)) (i : Nat) (hi : L[i]? = some []) : St B w0 w (L.set i c') := by
  have hil := (List.getElem?_eq_some_iff.1 hi).1
  refine h.reindexN (fun j => if j = i then 0 else j + 1) _ ?_ ?_
  · intro a b _ _ e
    revert e
    show (if a = i then 0 else a + 1) = (if b = i then 0 else b + 1) → a = b
    split <;> split <;> omega
  · intro j c hj
    right
    rw [List.getElem?_set] at hj
    by_cases e : i = j
    · subst e
      rw [if_pos rfl, if_pos hil] at hj
      simpa using hj
    · rw [if_neg e] at hj
      rw [if_neg (fun x => e x.symm), List.getElem?_cons_succ]
      exact hj
/-- A maker that is done, or not yet. -/
def Mkd (b : Bool) (T : TypeId) (n : Nat) (z v : Value) (c : HL) : Prop := (b = true → RowC T 1 v n (List.replicate n z) c) ∧ (b = false → c = [])
theorem makes5 (A : Value → Value → Value → Value → Value → Act) (Ls : Bool → Bool → Bool → Bool → Bool → Array Bool) {p1 p2 p3 p4 p5 : Nat} {d1 d2 d3 d4 d5 : Option Tmp} {T1 T2 T3 T4 T5 : TypeId} {n1 n2 n3 n4 n5 : Nat} {z1 z2 z3 z4 z5 : Value} {m : Nat}
    (m1 : ∀ x1 x2 x3 x4 x5, MkOp P ops p1 d1 T1 n1 z1 (A x1 x2 x3 x4 x5)) (m2 : ∀ x1 x2 x3 x4 x5, MkOp P ops p2 d2 T2 n2 z2 (A x1 x2 x3 x4 x5)) (m3 : ∀ x1 x2 x3 x4 x5, MkOp P ops p3 d3 T3 n3 z3 (A x1 x2 x3 x4 x5)) (m4 : ∀ x1 x2 x3 x4 x5, MkOp P ops p4 d4 T4 n4 z4 (A x1 x2 x3 x4 x5)) (m5 : ∀ x1 x2 x3 x4 x5, MkOp P ops p5 d5 T5 n5 z5 (A x1 x2 x3 x4 x5))
    (u1 : ∀ x1 x2 x3 x4 x5 v, (A x1 x2 x3 x4 x5).put d1 v = A v x2 x3 x4 x5) (u2 : ∀ x1 x2 x3 x4 x5 v, (A x1 x2 x3 x4 x5).put d2 v = A x1 v x3 x4 x5) (u3 : ∀ x1 x2 x3 x4 x5 v, (A x1 x2 x3 x4 x5).put d3 v = A x1 x2 v x4 x5) (u4 : ∀ x1 x2 x3 x4 x5 v, (A x1 x2 x3 x4 x5).put d4 v = A x1 x2 x3 v x5) (u5 : ∀ x1 x2 x3 x4 x5 v, (A x1 x2 x3 x4 x5).put d5 v = A x1 x2 x3 x4 v)
    (s1 : ∀ b1 b2 b3 b4 b5, (Ls b1 b2 b3 b4 b5).setIfInBounds p1 true = Ls true b2 b3 b4 b5) (s2 : ∀ b1 b2 b3 b4 b5, (Ls b1 b2 b3 b4 b5).setIfInBounds p2 true = Ls b1 true b3 b4 b5) (s3 : ∀ b1 b2 b3 b4 b5, (Ls b1 b2 b3 b4 b5).setIfInBounds p3 true = Ls b1 b2 true b4 b5) (s4 : ∀ b1 b2 b3 b4 b5, (Ls b1 b2 b3 b4 b5).setIfInBounds p4 true = Ls b1 b2 b3 true b5) (s5 : ∀ b1 b2 b3 b4 b5, (Ls b1 b2 b3 b4 b5).setIfInBounds p5 true = Ls b1 b2 b3 b4 true)
    (ready : ∀ b1 b2 b3 b4 b5, (b1 && b2 && b3 && b4 && b5) = false → Region.ready .any ops (Ls b1 b2 b3 b4 b5) = (if b1 then [] else [p1]) ++ ((if b2 then [] else [p2]) ++ ((if b3 then [] else [p3]) ++ ((if b4 then [] else [p4]) ++ (if b5 then [] else [p5])))))
    (hend : ∀ x1 x2 x3 x4 x5 c1 c2 c3 c4 c5 w', RowC T1 1 x1 n1 (List.replicate n1 z1) c1 → RowC T2 1 x2 n2 (List.replicate n2 z2) c2 → RowC T3 1 x3 n3 (List.replicate n3 z3) c3 → RowC T4 1 x4 n4 (List.replicate n4 z4) c4 → RowC T5 1 x5 n5 (List.replicate n5 z5) c5 →
      St B w0 w' (c1 :: c2 :: c3 :: c4 :: c5 :: L) → wpAnyH P .any ops Q (fun _ => True) m (Ls true true true true true) (A x1 x2 x3 x4 x5) w') :
    ∀ k b1 b2 b3 b4 b5, (!b1).toNat + (!b2).toNat + (!b3).toNat + (!b4).toNat + (!b5).toNat = k → ∀ x1 x2 x3 x4 x5 c1 c2 c3 c4 c5 w', Mkd b1 T1 n1 z1 x1 c1 → Mkd b2 T2 n2 z2 x2 c2 → Mkd b3 T3 n3 z3 x3 c3 → Mkd b4 T4 n4 z4 x4 c4 → Mkd b5 T5 n5 z5 x5 c5 →
      St B w0 w' (c1 :: c2 :: c3 :: c4 :: c5 :: L) → wpAnyH P .any ops Q (fun _ => True) (m + k) (Ls b1 b2 b3 b4 b5) (A x1 x2 x3 x4 x5) w' := by
  intro k
  induction k with
  | zero =>
    intro b1 b2 b3 b4 b5 hk x1 x2 x3 x4 x5 c1 c2 c3 c4 c5 w' h1 h2 h3 h4 h5 hS
    have e1 : b1 = true := by cases b1 <;> simp at hk ⊢
    have e2 : b2 = true := by cases b2 <;> simp at hk ⊢
    have e3 : b3 = true := by cases b3 <;> simp at hk ⊢
    have e4 : b4 = true := by cases b4 <;> simp at hk ⊢
    have e5 : b5 = true := by cases b5 <;> simp at hk ⊢
    subst e1 e2 e3 e4 e5
    exact hend _ _ _ _ _ _ _ _ _ _ _ (h1.1 rfl) (h2.1 rfl) (h3.1 rfl) (h4.1 rfl) (h5.1 rfl) hS
  | succ k ih =>
    intro b1 b2 b3 b4 b5 hk x1 x2 x3 x4 x5 c1 c2 c3 c4 c5 w' h1 h2 h3 h4 h5 hS
    have hne : (b1 && b2 && b3 && b4 && b5) = false := by
      cases b1 <;> cases b2 <;> cases b3 <;> cases b4 <;> cases b5 <;> first | rfl | simp at hk
    refine wpAnyH_ready (ready b1 b2 b3 b4 b5 hne) ?_ ?_
    · cases b1 <;> cases b2 <;> cases b3 <;> cases b4 <;> cases b5 <;> first | exact absurd hne (by decide) | simp
    · intro j hj
      simp only [List.mem_append] at hj
      rcases hj with hj | hj | hj | hj | hj
      · cases b1 with
        | true => simp at hj
        | false =>
          simp at hj
          subst hj
          refine (m1 x1 x2 x3 x4 x5).step hS fun v c' w'' hr hS' => ⟨trivial, ?_⟩
          rw [u1, s1]
          have he := h1.2 rfl
          subst he
          exact ih true b2 b3 b4 b5 (by simp at hk ⊢; omega) v x2 x3 x4 x5 c' c2 c3 c4 c5 w'' ⟨fun _ => hr, fun h => by cases h⟩ h2 h3 h4 h5 (hS'.fill 0 rfl)
      · cases b2 with
        | true => simp at hj
        | false =>
          simp at hj
          subst hj
          refine (m2 x1 x2 x3 x4 x5).step hS fun v c' w'' hr hS' => ⟨trivial, ?_⟩
          rw [u2, s2]
          have he := h2.2 rfl
          subst he
          exact ih b1 true b3 b4 b5 (by simp at hk ⊢; omega) x1 v x3 x4 x5 c1 c' c3 c4 c5 w'' h1 ⟨fun _ => hr, fun h => by cases h⟩ h3 h4 h5 (hS'.fill 1 rfl)
      · cases b3 with
        | true => simp at hj
        | false =>
          simp at hj
          subst hj
          refine (m3 x1 x2 x3 x4 x5).step hS fun v c' w'' hr hS' => ⟨trivial, ?_⟩
          rw [u3, s3]
          have he := h3.2 rfl
          subst he
          exact ih b1 b2 true b4 b5 (by simp at hk ⊢; omega) x1 x2 v x4 x5 c1 c2 c' c4 c5 w'' h1 h2 ⟨fun _ => hr, fun h => by cases h⟩ h4 h5 (hS'.fill 2 rfl)
      · cases b4 with
        | true => simp at hj
        | false =>
          simp at hj
          subst hj
          refine (m4 x1 x2 x3 x4 x5).step hS fun v c' w'' hr hS' => ⟨trivial, ?_⟩
          rw [u4, s4]
          have he := h4.2 rfl
          subst he
          exact ih b1 b2 b3 true b5 (by simp at hk ⊢; omega) x1 x2 x3 v x5 c1 c2 c3 c' c5 w'' h1 h2 h3 ⟨fun _ => hr, fun h => by cases h⟩ h5 (hS'.fill 3 rfl)
      · cases b5 with
        | true => simp at hj
        | false =>
          simp at hj
          subst hj
          refine (m5 x1 x2 x3 x4 x5).step hS fun v c' w'' hr hS' => ⟨trivial, ?_⟩
          rw [u5, s5]
          have he := h5.2 rfl
          subst he
          exact ih b1 b2 b3 b4 true (by simp at hk ⊢; omega) x1 x2 x3 x4 v c1 c2 c3 c4 c' w'' h1 h2 h3 h4 ⟨fun _ => hr, fun h => by cases h⟩ (hS'.fill 4 rfl)
end
/-! The same, the act and the marks of what is done out of the goal -/
theorem put_same (a : Act) (d : Nat) (x v : Value) : (a.put (some d) x).put (some d) v = a.put (some d) v := by
  simp [Act.put]
theorem setb_same (l : Array Bool) (i : Nat) (b c : Bool) : (l.setIfInBounds i b).setIfInBounds i c = l.setIfInBounds i c := by simp
theorem put_swap (a : Act) (d e : Nat) (x y : Value) (h : d ≠ e) : (a.put (some d) x).put (some e) y = (a.put (some e) y).put (some d) x := by
  simp only [Act.put]
  rw [Array.setIfInBounds_comm _ _ h]
theorem set_own {α : Type} (l : Array α) (i : Nat) (x : α) (h : l[i]? = some x) : l.setIfInBounds i x = l := by
  apply Array.ext_getElem?
  intro j
  rw [Array.getElem?_setIfInBounds]
  by_cases e : i = j
  · subst e
    rw [if_pos rfl, if_pos (Array.getElem?_eq_some_iff.1 h).1, h]
  · rw [if_neg e]
theorem put_own (a : Act) (d : Nat) (x : Value) (h : a.tmps[d]? = some x) : a.put (some d) x = a := by
  simp only [Act.put]
  rw [set_own _ _ _ h]
def putA (a : Act) (d1 d2 d3 d4 d5 : Nat) (x1 x2 x3 x4 x5 : Value) : Act := ((((a.put (some d1) x1).put (some d2) x2).put (some d3) x3).put (some d4) x4).put (some d5) x5
def setL (l : Array Bool) (p1 p2 p3 p4 p5 : Nat) (b1 b2 b3 b4 b5 : Bool) : Array Bool := ((((l.setIfInBounds p1 b1).setIfInBounds p2 b2).setIfInBounds p3 b3).setIfInBounds p4 b4).setIfInBounds p5 b5
theorem put_over (a : Act) (d : Nat) (x v : Value) : (a.put (some d) x).put (some d) v = a.put (some d) v := put_same a d x v
/-- wpAnyH_take, the temporary told. -/
theorem take_d {P : Program} {md : Region.Mode} {ops : Array Oper} {Q : Exit → Act → World → Prop} {S : World → Prop} {i : Nat} {oi : Oper} {fuel : Nat} {listed : Array Bool} {a : Act} {w : World} (d : Nat) (v : Value) (hi : ops[i]? = some oi) (hd : oi.dst = some d)
    (hs : Region.noSelect ops = true) (hf : Region.free md ops listed i = true) (hr : (Region.ready md ops listed).contains i = true)
    (hQ : ∀ c a w, Q (.panic c) (a.put (some d) v) w → Q (.panic c) a w) (hy : YieldsIf P ops S oi v a) (hS : S w)
    (h : wpAnyH P md ops Q S fuel (listed.setIfInBounds i true) (a.put (some d) v) w) : wpAnyH P md ops Q S (fuel + 1) listed a w :=
  wpAnyH_take hi hs hf hr (by rw [hd]; exact hQ) hy hS (by rw [hd]; exact h)
theorem makes5g {P : Program} {ops : Array Oper} {Q : Exit → Act → World → Prop} {B : Nat} {w0 w : World} {L : List HL} {a : Act} {l : Array Bool} (p1 p2 p3 p4 p5 d1 d2 d3 d4 d5 : Nat) {T1 T2 T3 T4 T5 : TypeId} {n1 n2 n3 n4 n5 : Nat} {z1 z2 z3 z4 z5 : Value} (m : Nat)
    (hp : [p1, p2, p3, p4, p5].Nodup) (hd : [d1, d2, d3, d4, d5].Nodup) {y1 y2 y3 y4 y5 : Value}
    (hy1 : a.tmps[d1]? = some y1) (hy2 : a.tmps[d2]? = some y2) (hy3 : a.tmps[d3]? = some y3) (hy4 : a.tmps[d4]? = some y4) (hy5 : a.tmps[d5]? = some y5)
    (hl1 : l[p1]? = some false) (hl2 : l[p2]? = some false) (hl3 : l[p3]? = some false) (hl4 : l[p4]? = some false) (hl5 : l[p5]? = some false)
    (m1 : ∀ x1 x2 x3 x4 x5, MkOp P ops p1 (some d1) T1 n1 z1 (putA a d1 d2 d3 d4 d5 x1 x2 x3 x4 x5)) (m2 : ∀ x1 x2 x3 x4 x5, MkOp P ops p2 (some d2) T2 n2 z2 (putA a d1 d2 d3 d4 d5 x1 x2 x3 x4 x5)) (m3 : ∀ x1 x2 x3 x4 x5, MkOp P ops p3 (some d3) T3 n3 z3 (putA a d1 d2 d3 d4 d5 x1 x2 x3 x4 x5)) (m4 : ∀ x1 x2 x3 x4 x5, MkOp P ops p4 (some d4) T4 n4 z4 (putA a d1 d2 d3 d4 d5 x1 x2 x3 x4 x5)) (m5 : ∀ x1 x2 x3 x4 x5, MkOp P ops p5 (some d5) T5 n5 z5 (putA a d1 d2 d3 d4 d5 x1 x2 x3 x4 x5))
    (ready : ∀ b1 b2 b3 b4 b5, (b1 && b2 && b3 && b4 && b5) = false → Region.ready .any ops (setL l p1 p2 p3 p4 p5 b1 b2 b3 b4 b5) = (if b1 then [] else [p1]) ++ ((if b2 then [] else [p2]) ++ ((if b3 then [] else [p3]) ++ ((if b4 then [] else [p4]) ++ (if b5 then [] else [p5])))))
    (hS : St B w0 w L)
    (hend : ∀ x1 x2 x3 x4 x5 c1 c2 c3 c4 c5 w', RowC T1 1 x1 n1 (List.replicate n1 z1) c1 → RowC T2 1 x2 n2 (List.replicate n2 z2) c2 → RowC T3 1 x3 n3 (List.replicate n3 z3) c3 → RowC T4 1 x4 n4 (List.replicate n4 z4) c4 → RowC T5 1 x5 n5 (List.replicate n5 z5) c5 →
      St B w0 w' (c1 :: c2 :: c3 :: c4 :: c5 :: L) → wpAnyH P .any ops Q (fun _ => True) m (setL l p1 p2 p3 p4 p5 true true true true true) (putA a d1 d2 d3 d4 d5 x1 x2 x3 x4 x5) w') :
    wpAnyH P .any ops Q (fun _ => True) (m + 5) l a w := by
  simp only [List.nodup_cons, List.mem_cons, List.not_mem_nil, or_false, not_or, List.nodup_nil, and_true, not_false_eq_true] at hp hd
  obtain ⟨⟨e12, e13, e14, e15⟩, ⟨e23, e24, e25⟩, ⟨e34, e35⟩, e45⟩ := hd
  obtain ⟨⟨f12, f13, f14, f15⟩, ⟨f23, f24, f25⟩, ⟨f34, f35⟩, f45⟩ := hp
  have key := makes5 (P := P) (ops := ops) (Q := Q) (B := B) (w0 := w0) (L := L) (putA a d1 d2 d3 d4 d5) (setL l p1 p2 p3 p4 p5) (m := m) m1 m2 m3 m4 m5
    (fun x1 x2 x3 x4 x5 v => by unfold putA; rw [put_swap _ d5 d1 _ _ (Ne.symm e15), put_swap _ d4 d1 _ _ (Ne.symm e14), put_swap _ d3 d1 _ _ (Ne.symm e13), put_swap _ d2 d1 _ _ (Ne.symm e12), put_same])
    (fun x1 x2 x3 x4 x5 v => by unfold putA; rw [put_swap _ d5 d2 _ _ (Ne.symm e25), put_swap _ d4 d2 _ _ (Ne.symm e24), put_swap _ d3 d2 _ _ (Ne.symm e23), put_same])
    (fun x1 x2 x3 x4 x5 v => by unfold putA; rw [put_swap _ d5 d3 _ _ (Ne.symm e35), put_swap _ d4 d3 _ _ (Ne.symm e34), put_same])
    (fun x1 x2 x3 x4 x5 v => by unfold putA; rw [put_swap _ d5 d4 _ _ (Ne.symm e45), put_same])
    (fun x1 x2 x3 x4 x5 v => by unfold putA; rw [put_same])
    (fun b1 b2 b3 b4 b5 => by unfold setL; rw [Array.setIfInBounds_comm _ _ (Ne.symm f15), Array.setIfInBounds_comm _ _ (Ne.symm f14), Array.setIfInBounds_comm _ _ (Ne.symm f13), Array.setIfInBounds_comm _ _ (Ne.symm f12), setb_same])
    (fun b1 b2 b3 b4 b5 => by unfold setL; rw [Array.setIfInBounds_comm _ _ (Ne.symm f25), Array.setIfInBounds_comm _ _ (Ne.symm f24), Array.setIfInBounds_comm _ _ (Ne.symm f23), setb_same])
    (fun b1 b2 b3 b4 b5 => by unfold setL; rw [Array.setIfInBounds_comm _ _ (Ne.symm f35), Array.setIfInBounds_comm _ _ (Ne.symm f34), setb_same])
    (fun b1 b2 b3 b4 b5 => by unfold setL; rw [Array.setIfInBounds_comm _ _ (Ne.symm f45), setb_same])
    (fun b1 b2 b3 b4 b5 => by unfold setL; rw [setb_same])
    ready hend 5 false false false false false rfl y1 y2 y3 y4 y5 [] [] [] [] [] w ⟨(fun h => by cases h), fun _ => rfl⟩ ⟨(fun h => by cases h), fun _ => rfl⟩ ⟨(fun h => by cases h), fun _ => rfl⟩ ⟨(fun h => by cases h), fun _ => rfl⟩ ⟨(fun h => by cases h), fun _ => rfl⟩
    hS.one_nil.one_nil.one_nil.one_nil.one_nil
  have ea : putA a d1 d2 d3 d4 d5 y1 y2 y3 y4 y5 = a := by
    unfold putA
    rw [put_own a d1 y1 hy1, put_own a d2 y2 hy2, put_own a d3 y3 hy3, put_own a d4 y4 hy4, put_own a d5 y5 hy5]
  have el : setL l p1 p2 p3 p4 p5 false false false false false = l := by
    unfold setL
    rw [set_own l p1 _ hl1, set_own l p2 _ hl2, set_own l p3 _ hl3, set_own l p4 _ hl4, set_own l p5 _ hl5]
  rw [ea, el] at key
  exact key
end Go.Proofs.Ythgbkncanoknkaa
/-
  Contract of lengths.Of.
-/
set_option linter.unusedVariables false
set_option linter.unusedSimpArgs false
namespace Go.Proofs.Ythgbkncanoknkaa
open Go.RowKit
set_option maxRecDepth 100000
theorem CoinAt.lt {B : Nat} {w0 w : World} {L : List HL} {A : List (Nat × Obj)} {p : Nat} {c : Coin} (h : CoinAt A p c) (hS : St B w0 w L) (hA : A ∈ L) : p < w.heap.size := by
  cases h with
  | leaf h => exact hS.lt hA h
  | pack h _ _ => exact hS.lt hA h
/-- The frequencies as numbers. -/
def fN (l : List Int) : List Nat := l.map Int.toNat
theorem fN_length (l : List Int) : (fN l).length = l.length := by simp [fN]
theorem fN_get (l : List Int) (i : Nat) (x : Int) (h : l[i]? = some x) : (fN l).getD i 0 = x.toNat := by
  unfold fN
  rw [List.getD_eq_getElem?_getD, List.getElem?_map, h]
  rfl
def badL (l : List Int) : Bool := decide (300 < l.length) || l.any badF
def OfOut (l : List Int) (w : World) (e : Ending) (w' : World) : Prop :=
  (badL l = true ∧ e = .returned (.tuple #[.slice none 0 0, .int .i64 7]) ∧ w = w') ∨
  (badL l = false ∧ ∃ v c, e = .returned (.tuple #[v, .int .i64 0]) ∧ RowC 3 1 v l.length (iv (mkI (fun s => (lenP (fN l) s : Int)) l.length)) c ∧ St w.heap.size w w' [c])
/-- The leaves of the first places. -/
def lvs (F : List Nat) (i : Nat) : List Coin := ((List.range i).filter fun s => decide (0 < F.getD s 0)).map fun s => Coin.leaf (F.getD s 0) s
theorem lvs_succ (F : List Nat) (i : Nat) : lvs F (i + 1) = lvs F i ++ if 0 < F.getD i 0 then [Coin.leaf (F.getD i 0) i] else [] := by
  unfold lvs
  rw [List.range_succ, List.filter_append, List.map_append]
  congr 1
  by_cases h : 0 < F.getD i 0
  · rw [if_pos h, List.filter_cons, if_pos (by simpa using h)]; rfl
  · rw [if_neg h, List.filter_cons, if_neg (by simpa using h)]; rfl
theorem lvs_length (F : List Nat) (i : Nat) : (lvs F i).length ≤ i := by
  unfold lvs
  rw [List.length_map]
  exact Nat.le_trans (List.length_filter_le _ _) (by simp)
/-- Coins in memory, each in a block of its own. -/
structure CoinsIn (A : List (Nat × Obj)) (l : List (Nat × Coin)) : Prop where
  at_ : ∀ x ∈ l, CoinAt A x.1 x.2
theorem ok_bad {l : List Int} (h : badL l = false) {i : Nat} {x : Int} (hx : l[i]? = some x) : 0 ≤ x ∧ x ≤ 1073741824 := by
  unfold badL at h
  rw [Bool.or_eq_false_iff] at h
  have := List.any_eq_false.1 h.2 x (List.mem_of_getElem? hx)
  unfold badF at this
  simp at this
  omega
theorem pv_snoc (l : List (Nat × Coin)) (p : Nat) (c : Coin) : pv l ++ [.pointer (some ⟨p, 0, none⟩)] = pv (l ++ [(p, c)]) := by simp [pv]
theorem len_one {F : List Nat} {w s : Nat} (h : leavesP F = [.leaf w s]) : ∀ t, lenP F t = if t = s then 1 else 0 := by
  intro t
  have hp := srt_perm F
  have hl : (srt F).length = 1 := by rw [hp.length_eq, h]; rfl
  have hone : srt F = [.leaf w s] := by rw [h] at hp; exact List.perm_singleton.1 hp
  unfold lenP
  rw [if_pos (by omega)]
  by_cases e : 0 < F.getD t 0
  · rw [if_pos e]
    obtain ⟨i, hi⟩ := srt_has e
    rw [hone] at hi
    have : i = 0 := by
      have := (List.getElem?_eq_some_iff.1 hi).1
      simp at this
      omega
    subst this
    simp at hi
    rw [if_pos hi.2.symm]
  · rw [if_neg e, if_neg]
    rintro rfl
    obtain ⟨t', _, h2, e2⟩ := srt_mem (F := F) (x := .leaf w t) (by rw [hone]; exact List.mem_cons_self ..)
    injection e2 with e3 e4
    subst e4
    exact e h2
theorem len_none {F : List Nat} (h : leavesP F = []) : ∀ t, lenP F t = 0 := by
  intro t
  have hp := srt_perm F
  have hone : srt F = [] := by rw [h] at hp; exact List.perm_nil.1 hp
  unfold lenP
  rw [hone, if_pos (by simp), if_neg]
  intro e
  obtain ⟨i, hi⟩ := srt_has e
  rw [hone] at hi
  simp at hi
/-! The coins by their blocks -/
def kOf (q : List (Nat × Coin)) (p : Nat) : Coin := ((q.find? fun x => x.1 == p).map Prod.snd).getD (.leaf 0 0)
def fOf (q : List (Nat × Coin)) (k : Nat) : Nat := (q.getD k (0, .leaf 0 0)).1
theorem kOf_mem : ∀ {q : List (Nat × Coin)}, (q.map Prod.fst).Nodup → ∀ {x : Nat × Coin}, x ∈ q → kOf q x.1 = x.2
  | [], _, x, h => by cases h
  | y :: q, hn, x, h => by
    rw [List.map_cons, List.nodup_cons] at hn
    unfold kOf
    rw [List.find?_cons]
    by_cases e : y.1 = x.1
    · have e2 : (y.1 == x.1) = true := by simpa using e
      rw [e2]
      rcases List.mem_cons.1 h with rfl | h
      · rfl
      · exact absurd (List.mem_map.2 ⟨x, h, e.symm⟩) hn.1
    · have e2 : (y.1 == x.1) = false := by simpa using e
      rw [e2]
      rcases List.mem_cons.1 h with rfl | h
      · exact absurd rfl e
      · exact kOf_mem hn.2 h
theorem fOf_get {q : List (Nat × Coin)} {k : Nat} (h : k < q.length) : q[k]? = some (fOf q k, (q.getD k (0, .leaf 0 0)).2) := by
  unfold fOf
  rw [List.getD_eq_getElem?_getD, List.getElem?_eq_getElem h]
  rfl
theorem rw_fOf (q : List (Nat × Coin)) : rwC (fOf q) q.length = pv q := by
  apply List.ext_getElem?
  intro k
  by_cases h : k < q.length
  · rw [rwC_get _ _ _ h, pv_get q k _ (fOf_get h)]
  · rw [List.getElem?_eq_none (by rw [rwC_length]; omega), List.getElem?_eq_none (by rw [pv_length]; omega)]
def qOf (q : List (Nat × Coin)) (f : Nat → Nat) : List (Nat × Coin) := (List.range q.length).map fun k => (f k, kOf q (f k))
theorem pv_qOf (q : List (Nat × Coin)) (f : Nat → Nat) : pv (qOf q f) = rwC f q.length := by
  unfold pv qOf rwC
  rw [List.map_map]
  rfl
theorem qOf_length (q : List (Nat × Coin)) (f : Nat → Nat) : (qOf q f).length = q.length := by simp [qOf]
theorem fOf_mem {q : List (Nat × Coin)} {k : Nat} (h : k < q.length) : ∃ x ∈ q, x.1 = fOf q k := ⟨_, List.mem_of_getElem? (fOf_get h), rfl⟩
theorem k_fOf {q : List (Nat × Coin)} (hn : (q.map Prod.fst).Nodup) {k : Nat} (h : k < q.length) : (q.map Prod.snd)[k]? = some (kOf q (fOf q k)) := by
  rw [List.getElem?_map, fOf_get h]
  have := kOf_mem hn (List.mem_of_getElem? (fOf_get h))
  simp only at this
  rw [this]
  rfl
theorem range_zero (n : Nat) : List.range' 0 (n - 0) = List.range n := by rw [Nat.sub_zero, List.range_eq_range']
theorem sorted_coins {q : List (Nat × Coin)} {F : List Nat} (hq : q.map Prod.snd = leavesP F) (hn : (q.map Prod.fst).Nodup) {f' : Nat → Nat} (hp : Pm 0 q.length (fOf q) f') (hs : Srt (fun a b => lexC (kOf q a) (kOf q b)) 0 q.length f') :
    (qOf q f').map Prod.snd = srt F ∧ ∀ x ∈ qOf q f', x ∈ q := by
  have e1 : (qOf q f').map Prod.snd = (List.range q.length).map fun k => kOf q (f' k) := by unfold qOf; rw [List.map_map]; rfl
  have e2 : (List.range q.length).map (fun k => kOf q (fOf q k)) = q.map Prod.snd := by
    apply List.ext_getElem?
    intro k
    by_cases h : k < q.length
    · rw [k_fOf hn h, List.getElem?_map, List.getElem?_range h]; rfl
    · rw [List.getElem?_eq_none (by simpa using h), List.getElem?_eq_none (by simpa using h)]
  constructor
  · rw [e1]
    refine lexC_unique ?_ ?_ (srt_lex F)
    · have h1 := hp.2
      rw [range_zero] at h1
      have h2 := h1.map (kOf q)
      rw [List.map_map, List.map_map] at h2
      refine List.Perm.trans h2 ?_
      have e3 : (List.range q.length).map (kOf q ∘ fOf q) = q.map Prod.snd := e2
      rw [e3, hq]
      exact (srt_perm F).symm
    · rw [List.pairwise_map, List.pairwise_iff_getElem]
      intro i j hi hj hij
      simp only [List.getElem_range]
      simp at hj
      exact hs i j (Nat.zero_le _) hij hj
  · intro x hx
    unfold qOf at hx
    obtain ⟨k, hk, rfl⟩ := List.mem_map.1 hx
    simp at hk
    obtain ⟨j, _, hj, e⟩ := hp.mem (Nat.zero_le k) hk
    obtain ⟨y, hy, hy2⟩ := fOf_mem hj
    have := kOf_mem hn hy
    rw [hy2] at this
    rw [e, this, ← hy2]
    exact hy
theorem lex_trans (K : Nat → Coin) : ∀ x y z, lexC (K x) (K y) → lexC (K y) (K z) → lexC (K x) (K z) := by
  intro x y z h1 h2
  unfold lexC at *
  omega
theorem tell_coins {q : List (Nat × Coin)} {F : List Nat} (hq : q.map Prod.snd = leavesP F) (hn : (q.map Prod.fst).Nodup) : ∀ a b, a < b → b < q.length → Tell (fun a b => lexC (kOf q a) (kOf q b)) (cfC (kOf q)) (fOf q a) (fOf q b) := by
  intro a b hab hb
  have h1 := k_fOf hn (show a < q.length by omega)
  have h2 := k_fOf hn hb
  have hs := leavesP_syms F
  rw [← hq, List.pairwise_iff_getElem] at hs
  obtain ⟨la, ea⟩ := List.getElem?_eq_some_iff.1 h1
  obtain ⟨lb, eb⟩ := List.getElem?_eq_some_iff.1 h2
  have h3 := hs a b la lb hab
  rw [ea, eb] at h3
  unfold Tell cfC lexC
  constructor
  · intro h
    split at h
    · left; assumption
    · split at h <;> omega
  · intro h
    split at h
    · omega
    · omega
theorem level_len (l : List Coin) : ∀ k, (levelC l k).length ≤ 2 * l.length
  | 0 => by rw [levelC]; omega
  | k + 1 => by rw [levelC_length]; have := level_len l k; omega
theorem sumC_cnt_le (s S : Nat) : ∀ l : List Coin, (∀ x ∈ l, x.size ≤ S) → sumC (Coin.cnt s) l ≤ l.length * S
  | [], _ => by simp [sumC]
  | x :: l, h => by
    have h1 := sumC_cnt_le s S l fun y hy => h y (List.mem_cons_of_mem _ hy)
    have h2 := h x (List.mem_cons_self ..)
    have h3 := Coin.cnt_le s x
    simp only [sumC, List.map_cons, List.sum_cons, List.length_cons, Nat.add_mul] at *
    omega
theorem srt_bounds {l : List Int} (h : badL l = false) : ∀ x ∈ srt (fN l), x.symsLt l.length ∧ x.worth ≤ 1073741824 ∧ x.size ≤ 1 := by
  intro x hx
  obtain ⟨s, h1, h2, rfl⟩ := srt_mem hx
  rw [fN_length] at h1
  refine ⟨h1, ?_, Nat.le_refl _⟩
  obtain ⟨y, hy⟩ : ∃ y, l[s]? = some y := ⟨_, List.getElem?_eq_getElem h1⟩
  rw [fN_get l s y hy]
  have := ok_bad h hy
  show y.toNat ≤ _
  omega
set_option maxHeartbeats 8000000 in
theorem lof_bad (l : List Int) (v : Value) (w : World) (hn : l.length ≤ 1000000) (hb : Rd w 1 v l.length (iv l)) (hbad : badL l = true) :
    Calls Try.prog 59 #[v] w (OfOut l w) := by
  obtain ⟨ao, cap, rfl⟩ := hb.shape
  have H := Lib.hid (And.intro hb hbad)
  by_cases q : 300 < l.length
  · have qi : (300 : Int) < (l.length : Int) := by omega
    clear hb hbad
    go_enter Try.func59, Try.ntmps59
    go_wp2_with fail
    go_ret2
    exact .inl ⟨H.out.2, rfl, rfl⟩
  · have qi : ¬ (300 : Int) < (l.length : Int) := by omega
    have hany : l.any badF = true := by
      unfold badL at hbad
      rw [show decide (300 < l.length) = false from by simp; omega, Bool.false_or] at hbad
      exact hbad
    have HA := Lib.hid hany
    clear hb hbad hany
    go_enter Try.func59, Try.ntmps59
    go_wp2_with fail
    refine (containsf_any _ l w H.out.1 hn).mono ?_
    rintro e w2 ⟨rfl, rfl⟩
    rw [HA.out]
    go_wp2_with fail
    go_ret2
    exact .inl ⟨H.out.2, rfl, rfl⟩
set_option maxHeartbeats 8000000 in
theorem of_good (l : List Int) (v : Value) (w : World) (hb : Rd w 1 v l.length (iv l)) (hgood : badL l = false) :
    Calls Try.prog 59 #[v] w (OfOut l w) := by
  obtain ⟨j0, j0a, j0b, j0c, j0d⟩ := info_parts infoInt
  obtain ⟨i0, i0a, i0b, i0c, i0d⟩ := info_parts infoCoinP
  obtain ⟨ao, cap, rfl⟩ := hb.shape
  have hl300 : l.length ≤ 300 := by
    unfold badL at hgood
    rw [Bool.or_eq_false_iff] at hgood
    simpa using hgood.1
  have hany : l.any badF = false := by
    unfold badL at hgood
    rw [Bool.or_eq_false_iff] at hgood
    exact hgood.2
  have hli : ¬ (300 : Int) < (l.length : Int) := by omega
  have hli2 : (l.length : Int) ≤ 300 := by omega
  have H := Lib.hid (And.intro hb (And.intro hgood hany))
  have hS0 := St.init w
  clear hb hgood hany
  go_enter Try.func59, Try.ntmps59
  go_wp2_with fail
  refine (containsf_any _ l w H.out.1 (by omega)).mono ?_
  rintro e w2 ⟨rfl, rfl⟩
  rw [H.out.2.2]
  go_wp2_with (at_make; (refine wpList_mk (n := l.length) 80 j0 (.int .i64 0) _ _ rfl rfl _ _ _ _ rfl rfl Try.underlying80 j0a j0b j0c j0d rfl ?_ ?_ ?_ ?_ hS0 ?_); omega; omega; omega; (unfold maxLen; omega); intro g cl w1 hr hS1)
  have HQ : Hid (RowC 3 1 (.slice (some ⟨g, 0, none⟩) l.length l.length) l.length (iv (mkI (fun s => ((0 : Nat) : Int)) l.length)) cl) := Lib.hid (by
    rw [mkI_const, iv_replicate]
    exact hr)
  have hS2 : St w.heap.size w w1 [[], [], cl] := by
    have := (hS1.one_nil).one_nil
    exact this
  clear hr hS1 hS0
  go_wp2_with fail
  go_loopg [5, 25] l.length (fun m s5 s25 wr => ∃ i : Nat, i + m = l.length ∧ s25 = .int .i64 (i : Int) ∧ ∃ (q : List (Nat × Coin)) (A c : List (Nat × Obj)), RowC 106 1 s5 q.length (pv q) c ∧ St w.heap.size w wr [c, A, cl] ∧ q.length ≤ i ∧ Hid (CoinsIn A q ∧ q.map Prod.snd = lvs (fN l) i ∧ (q.map Prod.fst).Nodup))
  case atStart => exact ⟨0, by omega, rfl, [], [], [], RowC.nil _ _, hS2, by simp, Lib.hid ⟨⟨by simp⟩, rfl, by simp⟩⟩
  case round =>
    clear hS2
    obtain ⟨i, hi, rfl, q, A, c, hr, hS, hqi, HP⟩ := hrel
    obtain ⟨ao5, cap5, rfl⟩ := hr.shape
    cases gk with
    | succ m =>
      have hil : i < l.length := by omega
      have hii : (i : Int) < (l.length : Int) := by omega
      obtain ⟨x, hx⟩ : ∃ x, l[i]? = some x := ⟨_, List.getElem?_eq_getElem hil⟩
      obtain ⟨hx0, hx1⟩ := ok_bad H.out.2.1 hx
      obtain ⟨ad, rfl, hc⟩ := (H.out.1.st hS).at (iv_get l i x hx)
      have hgx := fN_get l i x hx
      have hlv := lvs_succ (fN l) i
      rw [hgx] at hlv
      have HV := Lib.hid (And.intro hgx hlv)
      clear hgx hlv hx
      by_cases hpos : 0 < x
      · have hS3 := ((hS.alloc (.cells #[.int .i64 x, .int .i64 (i : Int), .pointer none, .pointer none] 108)).pick [0, 2, 1, 3] (by decide) [_, A, c, cl] rfl).merge
        have hS4 := hS3.pick [1, 0, 2] (by decide) [c, _, cl] rfl
        have hnew : ∀ y ∈ q, y.1 < wr.heap.size := by
          intro y hy
          exact (HP.out.1.at_ y hy).lt hS (by simp)
        have HN := Lib.hid hnew
        clear hS3 hnew
        go_wp2_with (at_builtin; (refine wpList_app1g 0 105 i0 (.pointer none) _ _ _ rfl rfl rfl rfl Try.underlying105 i0a i0b i0c i0d rfl hS4 rfl hr rfl ?_ ?_ ?_ ?_); (focus (simp; done)); (unfold maxLen; omega); omega; intro v1 c1 w5 hr1 hS5)
        go_roundg m
        case measure => omega
        case rel =>
          rw [pv_snoc q wr.heap.size (.leaf x.toNat i)] at hr1
          refine ⟨i + 1, by omega, by go_num, q ++ [(wr.heap.size, .leaf x.toNat i)], _, c1, by simpa using hr1, hS5, by simp; omega, Lib.hid ⟨⟨?_⟩, ?_, ?_⟩⟩
          · intro y hy
            rcases List.mem_append.1 hy with h | h
            · exact (HP.out.1.at_ y h).mono (List.subset_append_right _ _)
            · simp at h
              subst h
              refine .leaf (List.mem_append_left _ ?_)
              rw [show ((x.toNat : Nat) : Int) = x from by omega]
              simp
          · rw [List.map_append, HP.out.2.1, HV.out.2, if_pos (by omega)]
            rfl
          · rw [List.map_append, List.nodup_append]
            refine ⟨HP.out.2.2, by simp, ?_⟩
            intro a ha b hb
            simp at hb
            subst hb
            obtain ⟨y, hy, rfl⟩ := List.mem_map.1 ha
            have := HN.out y hy
            omega
      · go_wp2_with fail
        go_roundg m
        case measure => omega
        case rel =>
          refine ⟨i + 1, by omega, by go_num, q, A, c, hr, hS, by omega, Lib.hid ⟨HP.out.1, ?_, HP.out.2.2⟩⟩
          rw [HV.out.2, if_neg (by omega), List.append_nil]
          exact HP.out.2.1
    | zero =>
      have hil : i = l.length := by omega
      have hz : ¬ (i : Int) < (l.length : Int) := by omega
      have hlv : q.map Prod.snd = leavesP (fN l) := by
        rw [HP.out.2.1, hil, ← fN_length l]
        rfl
      have HI := Lib.hid (And.intro hil hlv)
      have hro := HQ.out
      clear hi hil hlv
      by_cases q0 : q.length = 0
      · have hq : q = [] := List.eq_nil_of_length_eq_zero q0
        subst hq
        have hnone := len_none HI.out.2.symm
        have HN := Lib.hid hnone
        clear hnone q0
        go_wp2_with fail
        go_ret2
        refine .inr ⟨H.out.2.1, _, cl, rfl, ?_, hS.pick [2] (by decide) [cl] rfl⟩
        rw [mkI_congr _ (fun s => ((0 : Nat) : Int)) _ (fun s _ => by rw [HN.out s])]
        exact hro
      · by_cases q1 : q.length = 1
        · obtain ⟨⟨p, cn⟩, hq⟩ : ∃ x, q = [x] := by
            match q, q1 with
            | [x], _ => exact ⟨x, rfl⟩
          subst hq
          have hlp := HI.out.2
          have hmem : cn ∈ leavesP (fN l) := by rw [← hlp]; simp
          obtain ⟨s, hs1, hs2, rfl⟩ := srt_mem ((srt_perm (fN l)).symm.subset hmem)
          rw [fN_length] at hs1
          have hone := len_one (F := fN l) (w := (fN l).getD s 0) (s := s) hlp.symm
          have HN := Lib.hid hone
          have hsi : (s : Int) < (l.length : Int) := by omega
          obtain ⟨g5, hg5⟩ := hr.head (by simp)
          subst hg5
          have hcp := hr.cellAt hS 0 rfl (pv_get [(p, Coin.leaf ((fN l).getD s 0) s)] 0 _ rfl)
          have hcs : wr.cell? ⟨p, 1, none⟩ = some (.int .i64 (s : Int)) := by
            have := HP.out.1.at_ (p, Coin.leaf ((fN l).getD s 0) s) (by simp)
            cases this with
            | leaf h => exact hS.cell 1 rfl h 1
          have hlo := hro.cellAt hS 2 rfl (iv_get _ s _ (mkI_get _ _ s hs1))
          have hfr := hro.freeAt hS 2 rfl s
          have HF : Hid (∃ c', RowC 3 1 (.slice (some ⟨g, 0, none⟩) l.length l.length) l.length (iv (mkI (fun t => (lenP (fN l) t : Int)) l.length)) c' ∧ St w.heap.size w (wr.setCell ⟨g, s, none⟩ (.int .i64 1)) [c']) := Lib.hid (by
            obtain ⟨c', h1, h2⟩ := hro.store hS 2 rfl rfl s (.int .i64 1)
            refine ⟨c', ?_, h2.pick [2] (by decide) [c'] rfl⟩
            rw [iv_set, mkI_set] at h1
            rw [mkI_congr _ _ _ (fun t ht => ?_)]
            · exact h1
            · rw [HN.out t]
              by_cases e : t = s
              · rw [if_pos e, if_pos e]; rfl
              · rw [if_neg e, if_neg e])
          clear hlp hmem hone hro q0 q1
          go_wp2_with fail
          go_ret2
          obtain ⟨c', h1, h2⟩ := HF.out
          exact .inr ⟨H.out.2.1, _, c', rfl, h1, h2⟩
        · have hq2 : 2 ≤ q.length := by omega
          have hq2i : ¬ (q.length : Int) < 2 := by omega
          have hq1i : ((q.length : Int) == 1) = false := by rw [beq_eq_false_iff_ne]; omega
          obtain ⟨g5, hg5⟩ := hr.head (by omega)
          subst hg5
          have HRO := Lib.hid hro
          have HR5 := Lib.hid (And.intro hr hS)
          clear q0 q1 hro hr hS HQ
          have hcmp : CmpC w.heap.size w [A, cl] (fun p => ∃ x ∈ q, x.1 = p) (cfC (kOf q)) := by
            rintro wx cd hSx _ _ ⟨x, hx, rfl⟩ ⟨y, hy, rfl⟩
            have e1 := kOf_mem HP.out.2.2 hx
            have e2 := kOf_mem HP.out.2.2 hy
            have := lenof2_any x.1 y.1 x.2.worth y.2.worth wx ((HP.out.1.at_ x hx).worth hSx 1 rfl) ((HP.out.1.at_ y hy).worth hSx 1 rfl)
            unfold cfC
            rw [e1, e2]
            exact this
          have HC := Lib.hid (stableC_any (n := q.length) (g := g5) (cap := cap5) (lex_trans (kOf q)) hcmp (fOf q) c wr (by unfold RowSC; rw [rw_fOf]; exact HR5.out.1) HR5.out.2 (by have := HI.out.1; omega) (fun k hk => fOf_mem hk) (tell_coins HI.out.2 HP.out.2.2))
          clear hcmp
          go_wp2_with fail
          refine HC.out.mono ?_
          rintro e w3 ⟨rfl, f', c5, p1, p2, p3, p4⟩
          obtain ⟨k1, k2⟩ := sorted_coins HI.out.2 HP.out.2.2 p1 p2
          have hq2l : (qOf q f').length = q.length := qOf_length q f'
          have hrow : RowC 106 1 (.slice (some ⟨g5, 0, none⟩) q.length cap5) (qOf q f').length (pv (qOf q f')) c5 := by rw [pv_qOf, hq2l]; exact p3
          have hci : CoinsIn A (qOf q f') := ⟨fun x hx => HP.out.1.at_ x (k2 x hx)⟩
          have H3 := Lib.hid (And.intro k1 (And.intro hq2l (And.intro hci (And.intro hrow p4))))
          clear p1 p2 p3 p4 k1 k2 hq2l hrow hci HC HR5
          generalize qOf q f' = q2 at *
          have hqn : q.length ≤ 300 := by have := HI.out.1; omega
          have hSR := srt_sorted (fN l)
          have hSl : (srt (fN l)).length = q.length := by rw [← H3.out.1, List.length_map]; exact H3.out.2.1
          have HSL := Lib.hid (And.intro hSR (And.intro hSl (level_bounds (srt_bounds H.out.2.1))))
          clear hSR hSl
          -- the leaves, read wherever nothing old is turned
          have hS4 := H3.out.2.2.2.2
          have HRL : Hid (Rd w3 1 (.slice (some ⟨g5, 0, none⟩) q.length cap5) q2.length (pv q2)) := Lib.hid (H3.out.2.2.2.1.rd hS4 0 rfl)
          go_wp2_with fail
          go_loopg [8, 58] 14 (fun m s8 s58 wr => ∃ k : Nat, k + m = 14 ∧ s58 = .int .i64 (k : Int) ∧ ∃ (lk : List (Nat × Coin)) (A' c8 : List (Nat × Obj)), RowC 106 1 s8 lk.length (pv lk) c8 ∧ St w.heap.size w wr [c8, A', cl] ∧ lk.length ≤ 600 ∧ Hid (CoinsIn A' lk ∧ lk.map Prod.snd = levelC (srt (fN l)) k ∧ CoinsIn A' q2) ∧ Hid (Rd wr 1 (.slice (some ⟨g5, 0, none⟩) q.length cap5) q2.length (pv q2)))
          case atStart => exact ⟨0, by omega, rfl, q2, A, c5, by rw [← H3.out.2.1] at *; exact H3.out.2.2.2.1, hS4, by have := H3.out.2.1; omega, Lib.hid ⟨H3.out.2.2.1, H3.out.1, H3.out.2.2.1⟩, HRL⟩
          case round =>
            clear hS4 HRL
            obtain ⟨k, hk, rfl, lk, A', c8, hr8, hS, hlk, HL, HRL⟩ := hrel
            obtain ⟨ao8, cap8, rfl⟩ := hr8.shape
            cases gk with
            | succ m =>
              have hki : (k : Int) < 14 := by omega
              have hk14 : k < 14 := by omega
              generalize wr = wa at *
              have hrd : Reads wa lk := by
                intro x hx
                refine ⟨(HL.out.1.at_ x hx).worth hS 1 rfl, ?_⟩
                have h1 := (HSL.out.2.2 k x.2 (by rw [← HL.out.2.1]; exact List.mem_map.2 ⟨x, hx, rfl⟩)).2.1
                have h2 : 2 ^ k ≤ 2 ^ 14 := Nat.pow_le_pow_right (by omega) (by omega)
                have h3 := Nat.mul_le_mul_right 1073741824 h2
                omega
              have HRK := Lib.hid (And.intro hrd (hr8.rd hS 0 rfl))
              have HR8 := Lib.hid (And.intro hr8 hS)
              have hlki : (lk.length : Int) ≤ 600 := by omega
              clear hrd hr8 hS
              go_wp2_with fail
              go_loopg [9, 10] (lk.length / 2) (fun m2 s9 s10 wz => ∃ j : Nat, j + m2 = lk.length / 2 ∧ s10 = .int .i64 (2 * (j : Int)) ∧ ∃ (pq : List (Nat × Coin)) (A2 cq : List (Nat × Obj)), RowC 106 1 s9 pq.length (pv pq) cq ∧ St wa.heap.size wa wz [cq, A2] ∧ Hid (pq.length = j) ∧ Hid (CoinsIn (A2 ++ A') pq ∧ pq.map Prod.snd = (pairsC (lk.map Prod.snd)).take j))
              case atStart => exact ⟨0, by omega, rfl, [], [], [], RowC.nil _ _, ((St.init wa).one_nil).one_nil, Lib.hid rfl, Lib.hid ⟨⟨by simp⟩, by simp⟩⟩
              case round =>
                obtain ⟨j, hj, rfl, pq, A2, cq, hr9, hSz, HPL, HP9⟩ := hrel
                obtain ⟨ao9, cap9, rfl⟩ := hr9.shape
                cases gk with
                | succ m2 =>
                  have hj1 : 2 * j + 1 < lk.length := by omega
                  have hji : 2 * (j : Int) + 1 < (lk.length : Int) := by omega
                  obtain ⟨x, hx⟩ : ∃ x, lk[2 * j]? = some x := ⟨_, List.getElem?_eq_getElem (by omega)⟩
                  obtain ⟨y, hy⟩ : ∃ y, lk[2 * j + 1]? = some y := ⟨_, List.getElem?_eq_getElem hj1⟩
                  obtain ⟨ad8, rfl, hca1⟩ := (HRK.out.2).at (pv_get lk (2 * j) x hx)
                  obtain ⟨ad8', e8, hca2⟩ := (HRK.out.2).at (pv_get lk (2 * j + 1) y hy)
                  cases e8
                  replace hca2 : wa.cell? ⟨ad8.block, ad8.off + (2 * j + 1), none⟩ = some (.pointer (some ⟨y.1, 0, none⟩)) := hca2
                  obtain ⟨hxa1, hx2⟩ := HRK.out.1 x (List.mem_of_getElem? hx)
                  obtain ⟨hya1, hy2⟩ := HRK.out.1 y (List.mem_of_getElem? hy)
                  obtain ⟨u, v2, g1, g2, g3⟩ := pairsC_get (lk.map Prod.snd) j (by simpa using hj1)
                  rw [List.getElem?_map, hx] at g1
                  rw [List.getElem?_map, hy] at g2
                  simp only [Option.map_some, Option.some.injEq] at g1 g2
                  subst g1
                  subst g2
                  have HG := Lib.hid (And.intro g3 (And.intro hx hy))
                  have hS5 := ((hSz.drew.alloc (.cells #[.int .i64 ((x.2.worth : Int) + (y.2.worth : Int)), .int .i64 0, .pointer (some ⟨x.1, 0, none⟩), .pointer (some ⟨y.1, 0, none⟩)] 108)).pick [0, 2, 1] (by decide) [_, A2, cq] rfl).merge.pick [1, 0] (by decide) [cq, _] rfl
                  have hpl : pq.length ≤ 600 := by have := HPL.out; omega
                  clear g3 hx hy
                  have HCELL : Hid (∀ w', Below wa.heap.size wa w' → w'.cell? (ad8.add (2 * j)) = some (.pointer (some ⟨x.1, 0, none⟩)) ∧ w'.cell? ⟨ad8.block, ad8.off + (2 * j + 1), none⟩ = some (.pointer (some ⟨y.1, 0, none⟩)) ∧ w'.cell? ⟨x.1, 0, none⟩ = some (.int .i64 (x.2.worth : Int)) ∧ w'.cell? ⟨y.1, 0, none⟩ = some (.int .i64 (y.2.worth : Int))) := Lib.hid (by
                    intro w' hw'
                    refine ⟨?_, ?_, ?_, ?_⟩
                    · rw [hw'.cell (World.block_lt_of_cell? _ _ hca1)]; exact hca1
                    · rw [hw'.cell (World.block_lt_of_cell? _ _ hca2)]; exact hca2
                    · rw [hw'.cell (World.block_lt_of_cell? _ _ hxa1)]; exact hxa1
                    · rw [hw'.cell (World.block_lt_of_cell? _ _ hya1)]; exact hya1)
                  clear hca1 hca2 hxa1 hya1
                  go_wp2_with fail
                  have hj0 : (0 : Int) ≤ 2 * (j : Int) := by omega
                  have hj1 : 2 * (j : Int) < (lk.length : Int) := by omega
                  have hj2 : (0 : Int) ≤ 2 * (j : Int) + 1 := by omega
                  have hj3 : 2 * (j : Int) + 1 < (lk.length : Int) := hji
                  have htn : (2 * (j : Int)).toNat = 2 * j := by omega
                  have htn1 : (2 * (j : Int) + 1).toNat = 2 * j + 1 := by omega
                  have hwr1 : IntKind.i64.wrap (2 * (j : Int) + 1) = 2 * (j : Int) + 1 := IntWalk.i64_in _ (by omega)
                  have hwr2 : IntKind.i64.wrap ((x.2.worth : Int) + (y.2.worth : Int)) = (x.2.worth : Int) + (y.2.worth : Int) := IntWalk.i64_in _ (by omega)
                  refine wp_region_held_drew (S := fun w' => Below wa.heap.size wa w') mixed hSz.below.drew (fun hSS => ?_)
                  refine take_d (i := 0) 67 (.slice ao9 pq.length cap9) rfl rfl (by kernel_rfl) (by kernel_rfl) (by kernel_rfl) (fun _ _ _ h => h) (Or.inl ⟨by rfl, ?_⟩) hSS ?_
                  (focus (intro w' hw'; have hb1 := HCELL.out w' hw'; obtain ⟨hb1, hb2, hb3, hb4⟩ := hb1; first | (go_simp; done) | (go_simp; simp [hj0, hj1, hj2, hj3, htn, htn1, hwr1, hwr2]; done)))
                  simp only [Act.put, List.setIfInBounds_toArray, List.set_cons_zero, List.set_cons_succ]
                  refine take_d (i := 1) 68 (.slice (some ad8) lk.length cap8) rfl rfl (by kernel_rfl) (by kernel_rfl) (by kernel_rfl) (fun _ _ _ h => h) (Or.inl ⟨by rfl, ?_⟩) hSS ?_
                  (focus (intro w' hw'; have hb1 := HCELL.out w' hw'; obtain ⟨hb1, hb2, hb3, hb4⟩ := hb1; first | (go_simp; done) | (go_simp; simp [hj0, hj1, hj2, hj3, htn, htn1, hwr1, hwr2]; done)))
                  simp only [Act.put, List.setIfInBounds_toArray, List.set_cons_zero, List.set_cons_succ]
                  refine take_d (i := 2) 69 (.int .i64 (2 * (j : Int))) rfl rfl (by kernel_rfl) (by kernel_rfl) (by kernel_rfl) (fun _ _ _ h => h) (Or.inl ⟨by rfl, ?_⟩) hSS ?_
                  (focus (intro w' hw'; have hb1 := HCELL.out w' hw'; obtain ⟨hb1, hb2, hb3, hb4⟩ := hb1; first | (go_simp; done) | (go_simp; simp [hj0, hj1, hj2, hj3, htn, htn1, hwr1, hwr2]; done)))
                  simp only [Act.put, List.setIfInBounds_toArray, List.set_cons_zero, List.set_cons_succ]
                  refine take_d (i := 3) 70 (.pointer (some (ad8.add (2 * j)))) rfl rfl (by kernel_rfl) (by kernel_rfl) (by kernel_rfl) (fun _ _ _ h => h) (Or.inl ⟨by rfl, ?_⟩) hSS ?_
                  (focus (intro w' hw'; have hb1 := HCELL.out w' hw'; obtain ⟨hb1, hb2, hb3, hb4⟩ := hb1; first | (go_simp; done) | (go_simp; simp [hj0, hj1, hj2, hj3, htn, htn1, hwr1, hwr2]; done)))
                  simp only [Act.put, List.setIfInBounds_toArray, List.set_cons_zero, List.set_cons_succ]
                  refine take_d (i := 4) 71 (.pointer (some ⟨x.1, 0, none⟩)) rfl rfl (by kernel_rfl) (by kernel_rfl) (by kernel_rfl) (fun _ _ _ h => h) (Or.inl ⟨by rfl, ?_⟩) hSS ?_
                  (focus (intro w' hw'; have hb1 := HCELL.out w' hw'; obtain ⟨hb1, hb2, hb3, hb4⟩ := hb1; first | (go_simp; done) | (go_simp; simp [hj0, hj1, hj2, hj3, htn, htn1, hwr1, hwr2]; done)))
                  simp only [Act.put, List.setIfInBounds_toArray, List.set_cons_zero, List.set_cons_succ]
                  refine take_d (i := 5) 72 (.pointer (some ⟨x.1, 0, none⟩)) rfl rfl (by kernel_rfl) (by kernel_rfl) (by kernel_rfl) (fun _ _ _ h => h) (Or.inl ⟨by rfl, ?_⟩) hSS ?_
                  (focus (intro w' hw'; have hb1 := HCELL.out w' hw'; obtain ⟨hb1, hb2, hb3, hb4⟩ := hb1; first | (go_simp; done) | (go_simp; simp [hj0, hj1, hj2, hj3, htn, htn1, hwr1, hwr2]; done)))
                  simp only [Act.put, List.setIfInBounds_toArray, List.set_cons_zero, List.set_cons_succ]
                  refine take_d (i := 6) 73 (.pointer (some ⟨x.1, 0, none⟩)) rfl rfl (by kernel_rfl) (by kernel_rfl) (by kernel_rfl) (fun _ _ _ h => h) (Or.inl ⟨by rfl, ?_⟩) hSS ?_
                  (focus (intro w' hw'; have hb1 := HCELL.out w' hw'; obtain ⟨hb1, hb2, hb3, hb4⟩ := hb1; first | (go_simp; done) | (go_simp; simp [hj0, hj1, hj2, hj3, htn, htn1, hwr1, hwr2]; done)))
                  simp only [Act.put, List.setIfInBounds_toArray, List.set_cons_zero, List.set_cons_succ]
                  refine take_d (i := 7) 74 (.int .i64 (x.2.worth : Int)) rfl rfl (by kernel_rfl) (by kernel_rfl) (by kernel_rfl) (fun _ _ _ h => h) (Or.inl ⟨by rfl, ?_⟩) hSS ?_
                  (focus (intro w' hw'; have hb1 := HCELL.out w' hw'; obtain ⟨hb1, hb2, hb3, hb4⟩ := hb1; first | (go_simp; done) | (go_simp; simp [hj0, hj1, hj2, hj3, htn, htn1, hwr1, hwr2]; done)))
                  simp only [Act.put, List.setIfInBounds_toArray, List.set_cons_zero, List.set_cons_succ]
                  refine take_d (i := 8) 75 (.slice (some ad8) lk.length cap8) rfl rfl (by kernel_rfl) (by kernel_rfl) (by kernel_rfl) (fun _ _ _ h => h) (Or.inl ⟨by rfl, ?_⟩) hSS ?_
                  (focus (intro w' hw'; have hb1 := HCELL.out w' hw'; obtain ⟨hb1, hb2, hb3, hb4⟩ := hb1; first | (go_simp; done) | (go_simp; simp [hj0, hj1, hj2, hj3, htn, htn1, hwr1, hwr2]; done)))
                  simp only [Act.put, List.setIfInBounds_toArray, List.set_cons_zero, List.set_cons_succ]
                  refine take_d (i := 9) 76 (.int .i64 (2 * (j : Int))) rfl rfl (by kernel_rfl) (by kernel_rfl) (by kernel_rfl) (fun _ _ _ h => h) (Or.inl ⟨by rfl, ?_⟩) hSS ?_
                  (focus (intro w' hw'; have hb1 := HCELL.out w' hw'; obtain ⟨hb1, hb2, hb3, hb4⟩ := hb1; first | (go_simp; done) | (go_simp; simp [hj0, hj1, hj2, hj3, htn, htn1, hwr1, hwr2]; done)))
                  simp only [Act.put, List.setIfInBounds_toArray, List.set_cons_zero, List.set_cons_succ]
                  refine take_d (i := 10) 77 (.int .i64 (2 * (j : Int) + 1)) rfl rfl (by kernel_rfl) (by kernel_rfl) (by kernel_rfl) (fun _ _ _ h => h) (Or.inl ⟨by rfl, ?_⟩) hSS ?_
                  (focus (intro w' hw'; have hb1 := HCELL.out w' hw'; obtain ⟨hb1, hb2, hb3, hb4⟩ := hb1; first | (go_simp; done) | (go_simp; simp [hj0, hj1, hj2, hj3, htn, htn1, hwr1, hwr2]; done)))
                  simp only [Act.put, List.setIfInBounds_toArray, List.set_cons_zero, List.set_cons_succ]
                  refine take_d (i := 11) 78 (.pointer (some (ad8.add (2 * j + 1)))) rfl rfl (by kernel_rfl) (by kernel_rfl) (by kernel_rfl) (fun _ _ _ h => h) (Or.inl ⟨by rfl, ?_⟩) hSS ?_
                  (focus (intro w' hw'; have hb1 := HCELL.out w' hw'; obtain ⟨hb1, hb2, hb3, hb4⟩ := hb1; first | (go_simp; done) | (go_simp; simp [hj0, hj1, hj2, hj3, htn, htn1, hwr1, hwr2]; done)))
                  simp only [Act.put, List.setIfInBounds_toArray, List.set_cons_zero, List.set_cons_succ]
                  refine take_d (i := 12) 79 (.pointer (some ⟨y.1, 0, none⟩)) rfl rfl (by kernel_rfl) (by kernel_rfl) (by kernel_rfl) (fun _ _ _ h => h) (Or.inl ⟨by rfl, ?_⟩) hSS ?_
                  (focus (intro w' hw'; have hb1 := HCELL.out w' hw'; obtain ⟨hb1, hb2, hb3, hb4⟩ := hb1; first | (go_simp; done) | (go_simp; simp [hj0, hj1, hj2, hj3, htn, htn1, hwr1, hwr2]; done)))
                  simp only [Act.put, List.setIfInBounds_toArray, List.set_cons_zero, List.set_cons_succ]
                  refine take_d (i := 13) 80 (.pointer (some ⟨y.1, 0, none⟩)) rfl rfl (by kernel_rfl) (by kernel_rfl) (by kernel_rfl) (fun _ _ _ h => h) (Or.inl ⟨by rfl, ?_⟩) hSS ?_
                  (focus (intro w' hw'; have hb1 := HCELL.out w' hw'; obtain ⟨hb1, hb2, hb3, hb4⟩ := hb1; first | (go_simp; done) | (go_simp; simp [hj0, hj1, hj2, hj3, htn, htn1, hwr1, hwr2]; done)))
                  simp only [Act.put, List.setIfInBounds_toArray, List.set_cons_zero, List.set_cons_succ]
                  refine take_d (i := 14) 81 (.pointer (some ⟨y.1, 0, none⟩)) rfl rfl (by kernel_rfl) (by kernel_rfl) (by kernel_rfl) (fun _ _ _ h => h) (Or.inl ⟨by rfl, ?_⟩) hSS ?_
                  (focus (intro w' hw'; have hb1 := HCELL.out w' hw'; obtain ⟨hb1, hb2, hb3, hb4⟩ := hb1; first | (go_simp; done) | (go_simp; simp [hj0, hj1, hj2, hj3, htn, htn1, hwr1, hwr2]; done)))
                  simp only [Act.put, List.setIfInBounds_toArray, List.set_cons_zero, List.set_cons_succ]
                  refine take_d (i := 15) 82 (.int .i64 (y.2.worth : Int)) rfl rfl (by kernel_rfl) (by kernel_rfl) (by kernel_rfl) (fun _ _ _ h => h) (Or.inl ⟨by rfl, ?_⟩) hSS ?_
                  (focus (intro w' hw'; have hb1 := HCELL.out w' hw'; obtain ⟨hb1, hb2, hb3, hb4⟩ := hb1; first | (go_simp; done) | (go_simp; simp [hj0, hj1, hj2, hj3, htn, htn1, hwr1, hwr2]; done)))
                  simp only [Act.put, List.setIfInBounds_toArray, List.set_cons_zero, List.set_cons_succ]
                  refine take_d (i := 16) 83 (.int .i64 ((x.2.worth : Int) + (y.2.worth : Int))) rfl rfl (by kernel_rfl) (by kernel_rfl) (by kernel_rfl) (fun _ _ _ h => h) (Or.inl ⟨by rfl, ?_⟩) hSS ?_
                  (focus (intro w' hw'; have hb1 := HCELL.out w' hw'; obtain ⟨hb1, hb2, hb3, hb4⟩ := hb1; first | (go_simp; done) | (go_simp; simp [hj0, hj1, hj2, hj3, htn, htn1, hwr1, hwr2]; done)))
                  simp only [Act.put, List.setIfInBounds_toArray, List.set_cons_zero, List.set_cons_succ]
                  refine take_d (i := 17) 84 (.slice (some ad8) lk.length cap8) rfl rfl (by kernel_rfl) (by kernel_rfl) (by kernel_rfl) (fun _ _ _ h => h) (Or.inl ⟨by rfl, ?_⟩) hSS ?_
                  (focus (intro w' hw'; have hb1 := HCELL.out w' hw'; obtain ⟨hb1, hb2, hb3, hb4⟩ := hb1; first | (go_simp; done) | (go_simp; simp [hj0, hj1, hj2, hj3, htn, htn1, hwr1, hwr2]; done)))
                  simp only [Act.put, List.setIfInBounds_toArray, List.set_cons_zero, List.set_cons_succ]
                  refine take_d (i := 18) 85 (.int .i64 (2 * (j : Int))) rfl rfl (by kernel_rfl) (by kernel_rfl) (by kernel_rfl) (fun _ _ _ h => h) (Or.inl ⟨by rfl, ?_⟩) hSS ?_
                  (focus (intro w' hw'; have hb1 := HCELL.out w' hw'; obtain ⟨hb1, hb2, hb3, hb4⟩ := hb1; first | (go_simp; done) | (go_simp; simp [hj0, hj1, hj2, hj3, htn, htn1, hwr1, hwr2]; done)))
                  simp only [Act.put, List.setIfInBounds_toArray, List.set_cons_zero, List.set_cons_succ]
                  refine take_d (i := 19) 86 (.pointer (some (ad8.add (2 * j)))) rfl rfl (by kernel_rfl) (by kernel_rfl) (by kernel_rfl) (fun _ _ _ h => h) (Or.inl ⟨by rfl, ?_⟩) hSS ?_
                  (focus (intro w' hw'; have hb1 := HCELL.out w' hw'; obtain ⟨hb1, hb2, hb3, hb4⟩ := hb1; first | (go_simp; done) | (go_simp; simp [hj0, hj1, hj2, hj3, htn, htn1, hwr1, hwr2]; done)))
                  simp only [Act.put, List.setIfInBounds_toArray, List.set_cons_zero, List.set_cons_succ]
                  refine take_d (i := 20) 87 (.pointer (some ⟨x.1, 0, none⟩)) rfl rfl (by kernel_rfl) (by kernel_rfl) (by kernel_rfl) (fun _ _ _ h => h) (Or.inl ⟨by rfl, ?_⟩) hSS ?_
                  (focus (intro w' hw'; have hb1 := HCELL.out w' hw'; obtain ⟨hb1, hb2, hb3, hb4⟩ := hb1; first | (go_simp; done) | (go_simp; simp [hj0, hj1, hj2, hj3, htn, htn1, hwr1, hwr2]; done)))
                  simp only [Act.put, List.setIfInBounds_toArray, List.set_cons_zero, List.set_cons_succ]
                  refine take_d (i := 21) 88 (.slice (some ad8) lk.length cap8) rfl rfl (by kernel_rfl) (by kernel_rfl) (by kernel_rfl) (fun _ _ _ h => h) (Or.inl ⟨by rfl, ?_⟩) hSS ?_
                  (focus (intro w' hw'; have hb1 := HCELL.out w' hw'; obtain ⟨hb1, hb2, hb3, hb4⟩ := hb1; first | (go_simp; done) | (go_simp; simp [hj0, hj1, hj2, hj3, htn, htn1, hwr1, hwr2]; done)))
                  simp only [Act.put, List.setIfInBounds_toArray, List.set_cons_zero, List.set_cons_succ]
                  refine take_d (i := 22) 89 (.int .i64 (2 * (j : Int))) rfl rfl (by kernel_rfl) (by kernel_rfl) (by kernel_rfl) (fun _ _ _ h => h) (Or.inl ⟨by rfl, ?_⟩) hSS ?_
                  (focus (intro w' hw'; have hb1 := HCELL.out w' hw'; obtain ⟨hb1, hb2, hb3, hb4⟩ := hb1; first | (go_simp; done) | (go_simp; simp [hj0, hj1, hj2, hj3, htn, htn1, hwr1, hwr2]; done)))
                  simp only [Act.put, List.setIfInBounds_toArray, List.set_cons_zero, List.set_cons_succ]
                  refine take_d (i := 23) 90 (.int .i64 (2 * (j : Int) + 1)) rfl rfl (by kernel_rfl) (by kernel_rfl) (by kernel_rfl) (fun _ _ _ h => h) (Or.inl ⟨by rfl, ?_⟩) hSS ?_
                  (focus (intro w' hw'; have hb1 := HCELL.out w' hw'; obtain ⟨hb1, hb2, hb3, hb4⟩ := hb1; first | (go_simp; done) | (go_simp; simp [hj0, hj1, hj2, hj3, htn, htn1, hwr1, hwr2]; done)))
                  simp only [Act.put, List.setIfInBounds_toArray, List.set_cons_zero, List.set_cons_succ]
                  refine take_d (i := 24) 91 (.pointer (some (ad8.add (2 * j + 1)))) rfl rfl (by kernel_rfl) (by kernel_rfl) (by kernel_rfl) (fun _ _ _ h => h) (Or.inl ⟨by rfl, ?_⟩) hSS ?_
                  (focus (intro w' hw'; have hb1 := HCELL.out w' hw'; obtain ⟨hb1, hb2, hb3, hb4⟩ := hb1; first | (go_simp; done) | (go_simp; simp [hj0, hj1, hj2, hj3, htn, htn1, hwr1, hwr2]; done)))
                  simp only [Act.put, List.setIfInBounds_toArray, List.set_cons_zero, List.set_cons_succ]
                  refine take_d (i := 25) 92 (.pointer (some ⟨y.1, 0, none⟩)) rfl rfl (by kernel_rfl) (by kernel_rfl) (by kernel_rfl) (fun _ _ _ h => h) (Or.inl ⟨by rfl, ?_⟩) hSS ?_
                  (focus (intro w' hw'; have hb1 := HCELL.out w' hw'; obtain ⟨hb1, hb2, hb3, hb4⟩ := hb1; first | (go_simp; done) | (go_simp; simp [hj0, hj1, hj2, hj3, htn, htn1, hwr1, hwr2]; done)))
                  simp only [Act.put, List.setIfInBounds_toArray, List.set_cons_zero, List.set_cons_succ]
                  refine wpAnyH_ready (rs := [26]) (by kernel_rfl) (by simp) (AllReadyH.cons rfl (fun K1 hK1 => ?_) AllReadyH.nil)
                  rw [if_pos (by rfl)]
                  go_simp
                  refine hK1.out _ _ hSS (fun _ => ?_)
                  refine wpAnyH_ready (rs := [27]) (by kernel_rfl) (by simp) (AllReadyH.cons rfl (fun K2 hK2 => ?_) AllReadyH.nil)
                  rw [if_pos (by rfl)]
                  go_simp
                  refine hK2.out _ _ (hS5.below) (fun _ => ?_)
                  refine wpAnyH_ready (rs := [28]) (by kernel_rfl) (by simp) (AllReadyH.cons rfl (fun K3 hK3 => ?_) AllReadyH.nil)
                  rw [if_pos (by rfl)]
                  go_simp
                  have hS6 := hS5.alloc' (.cells #[.pointer (some ⟨wr.heap.size, 0, none⟩)] 106)
                  have hone : Rd ((wr.drew.alloc (.cells #[.int .i64 ((x.2.worth : Int) + (y.2.worth : Int)), .int .i64 0, .pointer (some ⟨x.1, 0, none⟩), .pointer (some ⟨y.1, 0, none⟩)] 108)).alloc (.cells #[.pointer (some ⟨wr.heap.size, 0, none⟩)] 106)) 1 (.slice (some ⟨wr.heap.size + 1, 0, none⟩) 1 1) 1 [.pointer (some ⟨wr.heap.size, 0, none⟩)] := by
                    have := Rd.one (wr.drew.alloc (.cells #[.int .i64 ((x.2.worth : Int) + (y.2.worth : Int)), .int .i64 0, .pointer (some ⟨x.1, 0, none⟩), .pointer (some ⟨y.1, 0, none⟩)] 108)) (.pointer (some ⟨wr.heap.size, 0, none⟩)) 106
                    rw [show (wr.drew.alloc (.cells #[.int .i64 ((x.2.worth : Int) + (y.2.worth : Int)), .int .i64 0, .pointer (some ⟨x.1, 0, none⟩), .pointer (some ⟨y.1, 0, none⟩)] 108)).heap.size = wr.heap.size + 1 from by simp] at this
                    exact this
                  refine hK3.out _ _ (hS6.below) (fun _ => ?_)
                  refine wpAnyH_ready (rs := [29]) (by kernel_rfl) (by simp) (AllReadyH.cons rfl (fun K4 hK4 => ?_) AllReadyH.nil)
                  refine step_app (n := pq.length) (m := 1) (xs := pv pq) (news := [.pointer (some ⟨wr.heap.size, 0, none⟩)]) 0 105 i0 (.pointer none) _ _ rfl rfl rfl rfl Try.underlying105 i0a i0b i0c i0d rfl (by decide) hS6 rfl hr9 hone (by simp [Value.oneCell']) (by unfold maxLen; omega) (by omega) (fun v1 c1 w5 hr1 hS7 => ?_)
                  refine hK4.out _ _ hS7.below (fun _ => ?_)
                  simp only [Act.put, List.setIfInBounds_toArray, List.set_cons_zero, List.set_cons_succ]
                  refine wpAnyH_ready (rs := [30]) (by kernel_rfl) (by simp) (AllReadyH.cons rfl (fun K5 hK5 => ?_) AllReadyH.nil)
                  rw [if_pos (by rfl)]
                  go_simp
                  refine hK5.out _ _ hS7.below (fun _ => ?_)
                  refine wpAnyH_done (by kernel_rfl) ?_ _
                  go_wp2_with fail
                  go_roundg m2
                  case measure => omega
                  case rel =>
                    rw [pv_snoc pq wr.heap.size (.pack x.2 y.2)] at hr1
                    refine ⟨j + 1, by omega, by go_num, pq ++ [(wr.heap.size, .pack x.2 y.2)], _, c1, by simpa using hr1, hS7, Lib.hid (by have := HPL.out; simp; omega), Lib.hid ⟨⟨?_⟩, ?_⟩⟩
                    · intro z hz
                      rcases List.mem_append.1 hz with h | h
                      · refine (HP9.out.1.at_ z h).mono ?_
                        rw [List.append_assoc]
                        exact List.subset_append_right _ _
                      · simp at h
                        subst h
                        refine .pack ?_ ((HL.out.1.at_ x (List.mem_of_getElem? HG.out.2.1)).mono (List.subset_append_right _ _)) ((HL.out.1.at_ y (List.mem_of_getElem? HG.out.2.2)).mono (List.subset_append_right _ _))
                        rw [List.append_assoc]
                        refine List.mem_append_left _ ?_
                        simp
                    · rw [List.map_append, HP9.out.2, List.take_add_one, HG.out.1]
                      rfl
                | zero =>
                  have hjl : j = lk.length / 2 := by omega
                  have hz : ¬ 2 * (j : Int) + 1 < (lk.length : Int) := by omega
                  have hjb : (j : Int) ≤ 300 := by omega
                  have hplen := HPL.out
                  have hpq : pq.map Prod.snd = pairsC (levelC (srt (fN l)) k) := by
                    rw [HP9.out.2, HL.out.2.1, List.take_of_length_le]
                    rw [pairsC_length, ← HL.out.2.1, List.length_map]
                    omega
                  have hJ := (HR8.out.2.join hSz).pick [1, 3, 0, 2, 4] (by decide) [A2, A', cq, c8, cl] rfl
                  have hJ2 := hJ.merge
                  have hrp : Reads wr pq := by
                    intro x hx
                    refine ⟨(HP9.out.1.at_ x hx).worth hJ2 0 rfl, ?_⟩
                    have hm : x.2 ∈ levelC (srt (fN l)) (k + 1) := by
                      rw [levelC]
                      refine (mergeK_perm _ _ _).symm.subset (List.mem_append_right _ ?_)
                      rw [← hpq]
                      exact List.mem_map.2 ⟨x, hx, rfl⟩
                    have h1 := (HSL.out.2.2 (k + 1) x.2 hm).2.1
                    have h2 : 2 ^ (k + 1) ≤ 2 ^ 14 := Nat.pow_le_pow_right (by omega) (by omega)
                    have h3 := Nat.mul_le_mul_right 1073741824 h2
                    omega
                  have hrl : Reads wr q2 := by
                    intro x hx
                    have h0 : Reads wa q2 := by
                      intro x hx
                      refine ⟨(HL.out.2.2.at_ x hx).worth HR8.out.2 1 rfl, ?_⟩
                      have h1 := (HSL.out.2.2 0 x.2 (by rw [levelC, ← H3.out.1]; exact List.mem_map.2 ⟨x, hx, rfl⟩)).2.1
                      omega
                    exact (h0.keep hSz.below) x hx
                  have hq2n : q2.length = q.length := H3.out.2.1
                  have hq2l : q2.length + pq.length ≤ 1000000 := by omega
                  have HJ := Lib.hid (And.intro hJ2 (And.intro hpq (And.intro hplen hq2n)))
                  have HM := Lib.hid (merged_any q2 pq _ _ wr (HRL.out.st hSz) (hr9.rd hSz 0 rfl) hrl hrp hq2l)
                  have HRZ := Lib.hid (HRL.out.st hSz)
                  have HJL := Lib.hid hjl
                  clear hJ hJ2 hrp hrl hpq hj hplen hq2l hq2n hjl hr9 hSz
                  go_wp2_with fail
                  refine HM.out.mono ?_
                  rintro e w6 ⟨v8, c9, rfl, hr10, hS10⟩
                  have hJ3 := (HJ.out.1.join hS10).pick [0, 1, 4] (by decide) [c9, A2 ++ A', cl] rfl
                  have HF := Lib.hid (And.intro hr10 (And.intro hJ3 (HRZ.out.keep hS10.below)))
                  clear hr10 hJ3 hS10 HM
                  go_wp2_with fail
                  go_roundg m
                  case measure => omega
                  case rel =>
                    refine ⟨k + 1, by omega, by go_num, mergeK keyP q2 pq, A2 ++ A', c9, HF.out.1, HF.out.2.1, ?_, Lib.hid ⟨⟨?_⟩, ?_, ⟨fun x hx => (HL.out.2.2.at_ x hx).mono (List.subset_append_right _ _)⟩⟩, Lib.hid HF.out.2.2⟩
                    · rw [mergeK_length]
                      have := HJ.out.2.2.1
                      have := HJ.out.2.2.2
                      have := HJL.out
                      omega
                    · intro x hx
                      rcases List.mem_append.1 ((mergeK_perm keyP q2 pq).subset hx) with h | h
                      · exact (HL.out.2.2.at_ x h).mono (List.subset_append_right _ _)
                      · exact HP9.out.1.at_ x h
                    · rw [mergeK_map, H3.out.1, HJ.out.2.1]
                      rfl
            | zero =>
              have hk14 : k = 14 := by omega
              have hz : ¬ (k : Int) < 14 := by omega
              have hlv : lk.map Prod.snd = levelC (srt (fN l)) 14 := by rw [HL.out.2.1, hk14]
              have hlen : 2 * q.length - 2 ≤ lk.length := by
                have h1 := level14_length (srt (fN l)) (by rw [HSL.out.2.1]; exact hq2) (by rw [HSL.out.2.1]; exact hqn)
                rw [← hlv, List.length_map, HSL.out.2.1] at h1
                exact h1
              obtain ⟨N, hN⟩ : ∃ N : Nat, N + 2 = 2 * q.length := ⟨2 * q.length - 2, by omega⟩
              have hNi : 2 * (q.length : Int) - 2 = (N : Int) := by omega
              have hN1 : N ≤ lk.length := by omega
              have hN3 : N ≤ 600 := by omega
              have hN2 : 2 ≤ N := by omega
              obtain ⟨g8, hg8⟩ := hr8.head (by omega)
              subst hg8
              have hcap8 := hr8.cap
              have hNc : (N : Int) ≤ (cap8 : Int) := by omega
              have hNc2 : N ≤ cap8 := by omega
              have hS9 := hS.pick [2, 0, 1] (by decide) [cl, c8, A'] rfl
              have HLV := Lib.hid (And.intro hlv (And.intro hN (And.intro hr8 hS9)))
              have HL0 : Hid (RowC 3 1 (.slice (some ⟨g, 0, none⟩) l.length l.length) l.length (iv (mkI (fun s => ((sumC (Coin.cnt s) ((lk.map Prod.snd).take 0) : Nat) : Int)) l.length)) cl) := HRO
              clear hk14 hlv hlen hr8 hS hS9 hk hcap8
              go_wp2_with fail
              go_loopg [108] N (fun m s108 wx => ∃ i2 : Nat, i2 + m = N ∧ s108 = .int .i64 (i2 : Int) ∧ ∃ clx, Hid (RowC 3 1 (.slice (some ⟨g, 0, none⟩) l.length l.length) l.length (iv (mkI (fun s => ((sumC (Coin.cnt s) ((lk.map Prod.snd).take i2) : Nat) : Int)) l.length)) clx ∧ St w.heap.size w wx [clx, c8, A']))
              case atStart => exact ⟨0, by omega, rfl, cl, Lib.hid ⟨HL0.out, HLV.out.2.2.2⟩⟩
              case round =>
                obtain ⟨i2, hi2, rfl, clx, HQ2⟩ := hrel
                cases gk with
                | zero =>
                  have hiN : i2 = N := by omega
                  have hz2 : ¬ (i2 : Int) < (N : Int) := by omega
                  have HIN := Lib.hid hiN
                  clear hi2 hiN
                  go_wp2_with fail
                  go_ret2
                  refine .inr ⟨H.out.2.1, _, clx, rfl, ?_, HQ2.out.2.pick [0] (by decide) [clx] rfl⟩
                  have h1 := HQ2.out.1
                  rw [mkI_congr _ (fun s => (lenP (fN l) s : Int)) _ (fun s _ => by
                    unfold lenP
                    have h3 := HSL.out.2.1
                    have h4 := HLV.out.2.1
                    rw [if_neg (by omega), HIN.out, HLV.out.1, show 2 * (srt (fN l)).length - 2 = N from by omega])] at h1
                  exact h1
                | succ m2 =>
                  have hiN : (i2 : Int) < (N : Int) := by omega
                  have hiN2 : i2 < N := by omega
                  obtain ⟨x, hx⟩ : ∃ x, lk[i2]? = some x := ⟨_, List.getElem?_eq_getElem (by omega)⟩
                  have hcp := HLV.out.2.2.1.cellAt HQ2.out.2 1 rfl (pv_get lk i2 x hx)
                  obtain ⟨b1, b2, b3⟩ := HSL.out.2.2 14 x.2 (by rw [← HLV.out.1]; exact List.mem_map.2 ⟨x, List.mem_of_getElem? hx, rfl⟩)
                  have hbd : ∀ s, sumC (Coin.cnt s) ((lk.map Prod.snd).take i2) + x.2.size ≤ 1000000000 := by
                    intro s
                    have h1 := sumC_cnt_le s (2 ^ 14) ((lk.map Prod.snd).take i2) (by
                      intro y hy
                      exact (HSL.out.2.2 14 y (by rw [← HLV.out.1]; exact List.mem_of_mem_take hy)).2.2)
                    have h2 : ((lk.map Prod.snd).take i2).length ≤ 600 := by rw [List.length_take]; omega
                    have h3 := Nat.mul_le_mul_right (2 ^ 14) h2
                    omega
                  have HC2 := Lib.hid (count_any (F := [c8, A']) (n := l.length) 1 rfl (by omega) x.2 x.1 clx wr (fun s => sumC (Coin.cnt s) ((lk.map Prod.snd).take i2)) (HL.out.1.at_ x (List.mem_of_getElem? hx)) HQ2.out.1 HQ2.out.2 b1 hbd)
                  have hstep : ∀ s, sumC (Coin.cnt s) ((lk.map Prod.snd).take i2) + x.2.cnt s = sumC (Coin.cnt s) ((lk.map Prod.snd).take (i2 + 1)) := by
                    intro s
                    rw [List.take_add_one, List.getElem?_map, hx, sumC_append]
                    simp [sumC]
                  have HST := Lib.hid hstep
                  clear hstep hbd hx b1 b2 b3
                  go_wp2_with fail
                  refine HC2.out.mono ?_
                  rintro e w7 ⟨rfl, c7, hr7, hS7⟩
                  have HF : Hid (RowC 3 1 (.slice (some ⟨g, 0, none⟩) l.length l.length) l.length (iv (mkI (fun s => ((sumC (Coin.cnt s) ((lk.map Prod.snd).take (i2 + 1)) : Nat) : Int)) l.length)) c7 ∧ St w.heap.size w w7 [c7, c8, A']) := Lib.hid ⟨by
                    rw [mkI_congr _ _ _ (fun s _ => by rw [← HST.out s])]
                    exact hr7, hS7⟩
                  clear hr7 hS7
                  go_wp2_with fail
                  go_roundg m2
                  case measure => omega
                  case rel => exact ⟨i2 + 1, by omega, by go_num, c7, HF⟩
theorem of_any (l : List Int) (v : Value) (w : World) (hn : l.length ≤ 1000000) (hb : Rd w 1 v l.length (iv l)) : Calls Try.prog 59 #[v] w (OfOut l w) := by
  cases h : badL l with
  | true => exact lof_bad l v w hn hb h
  | false => exact of_good l v w hb h
end Go.Proofs.Ythgbkncanoknkaa
/-
  How much of the codes lengths take, plain.
-/
set_option linter.unusedVariables false
set_option linter.unusedSimpArgs false
namespace Go.Proofs.Ythgbkncanoknkaa
/-- How much room lengths take, of 2^15. -/
def kraftP (l : List Int) : Nat := (l.map fun k => if 1 ≤ k ∧ k ≤ 15 then 2 ^ (15 - k.toNat) else 0).sum
theorem kraftP_append (a b : List Int) : kraftP (a ++ b) = kraftP a + kraftP b := by simp [kraftP]
theorem kraftP_take_succ (l : List Int) (i : Nat) (k : Int) (h : l[i]? = some k) : kraftP (l.take (i + 1)) = kraftP (l.take i) + (if 1 ≤ k ∧ k ≤ 15 then 2 ^ (15 - k.toNat) else 0) := by
  rw [List.take_add_one, h, Option.toList_some, kraftP_append]
  simp [kraftP]
theorem kraftP_le (l : List Int) : kraftP l ≤ 16384 * l.length := by
  induction l with
  | nil => simp [kraftP]
  | cons k l ih =>
    have h : (if 1 ≤ k ∧ k ≤ 15 then 2 ^ (15 - k.toNat) else 0) ≤ 16384 := by
      split
      · rename_i hk
        have : 2 ^ (15 - k.toNat) ≤ 2 ^ 14 := Nat.pow_le_pow_right (by omega) (by omega)
        omega
      · omega
    simp only [kraftP, List.map_cons, List.sum_cons, List.length_cons] at ih ⊢
    omega
end Go.Proofs.Ythgbkncanoknkaa
/-
  Canonical codes, plain.
-/
set_option linter.unusedVariables false
set_option linter.unusedSimpArgs false
namespace Go.Proofs.Ythgbkncanoknkaa

def okLens (l : List Int) : Bool := decide (l.length ≤ 300) && decide (kraftP l ≤ 32768) && l.all fun k => decide (0 ≤ k ∧ k ≤ 15)
/-- How many codes of each length there are; none of length nought. -/
def cntP (l : List Int) (k : Nat) : Nat := if k = 0 then 0 else l.count (k : Int)
/-- The first code of each length. -/
def fstP (l : List Int) : Nat → Nat
  | 0 => 0
  | k + 1 => (fstP l k + cntP l k) * 2
/-- Behind the last code of each length. -/
def endP (l : List Int) (k : Nat) : Nat := fstP l k + cntP l k
/-- The code of symbol s. -/
def codeP (l : List Int) (s : Nat) : Nat := fstP l (l.getD s 0).toNat + (l.take s).count (l.getD s 0)
theorem okLens_iff (l : List Int) : okLens l = true ↔ l.length ≤ 300 ∧ kraftP l ≤ 32768 ∧ ∀ k ∈ l, 0 ≤ k ∧ k ≤ 15 := by
  simp [okLens, and_assoc]

/-- The room that lengths up to k take. -/
def kraftTo (l : List Int) (k : Nat) : Nat := (l.map fun x => if 1 ≤ x ∧ x ≤ (k : Int) then 2 ^ (15 - x.toNat) else 0).sum
theorem kraftTo_succ (l : List Int) (k : Nat) (hk : k + 1 ≤ 15) : kraftTo l (k + 1) = kraftTo l k + cntP l (k + 1) * 2 ^ (14 - k) := by
  unfold cntP
  rw [if_neg (by omega)]
  induction l with
  | nil => simp [kraftTo]
  | cons x l ih =>
    simp only [kraftTo, List.map_cons, List.sum_cons] at ih ⊢
    rw [ih, List.count_cons]
    by_cases hx : x = ((k + 1 : Nat) : Int)
    · subst hx
      have e1 : (1 ≤ (((k + 1 : Nat)) : Int) ∧ (((k + 1 : Nat)) : Int) ≤ (((k + 1 : Nat)) : Int)) := by omega
      have e2 : ¬ (1 ≤ (((k + 1 : Nat)) : Int) ∧ (((k + 1 : Nat)) : Int) ≤ (k : Int)) := by omega
      rw [if_pos e1, if_neg e2, Int.toNat_natCast, show 15 - (k + 1) = 14 - k from by omega]
      simp only [beq_self_eq_true, if_true, Nat.add_mul, Nat.one_mul]
      omega
    · have e3 : (x == ((k + 1 : Nat) : Int)) = false := by simpa using hx
      rw [e3]
      have e4 : (1 ≤ x ∧ x ≤ ((k + 1 : Nat) : Int)) ↔ (1 ≤ x ∧ x ≤ (k : Int)) := by omega
      simp only [e4]
      simp
      omega
theorem kraftTo_zero (l : List Int) : kraftTo l 0 = 0 := by
  unfold kraftTo
  induction l with
  | nil => rfl
  | cons x l ih => simp only [List.map_cons, List.sum_cons, ih]; rw [if_neg (by omega)]
theorem kraftTo_mono (l : List Int) (k : Nat) : ∀ m, k + m ≤ 15 → kraftTo l k ≤ kraftTo l (k + m)
  | 0, _ => Nat.le_refl _
  | m + 1, h => by
    have := kraftTo_mono l k m (by omega)
    rw [← Nat.add_assoc, kraftTo_succ _ _ (by omega)]
    omega
theorem endP_kraft (l : List Int) : ∀ k, k ≤ 15 → endP l k * 2 ^ (15 - k) = kraftTo l k
  | 0, _ => by simp [endP, fstP, cntP, kraftTo_zero]
  | k + 1, h => by
    have ih := endP_kraft l k (by omega)
    rw [kraftTo_succ _ _ h, ← ih]
    have e : (15 - k) = (14 - k) + 1 := by omega
    rw [show 15 - (k + 1) = 14 - k from by omega, e, Nat.pow_succ]
    simp only [endP, fstP]
    rw [Nat.add_mul, Nat.mul_comm (2 ^ (14 - k)) 2, ← Nat.mul_assoc]
theorem kraftTo_all (l : List Int) : kraftTo l 15 = kraftP l := rfl
theorem endP_le (l : List Int) (hk : kraftP l ≤ 32768) (k : Nat) (h : k ≤ 15) : endP l k ≤ 2 ^ k := by
  have h1 := endP_kraft l k h
  have h2 := kraftTo_mono l k (15 - k) (by omega)
  rw [show k + (15 - k) = 15 from by omega, kraftTo_all] at h2
  have h3 : 2 ^ k * 2 ^ (15 - k) = 32768 := by rw [← Nat.pow_add, show k + (15 - k) = 15 from by omega]
  exact Nat.le_of_mul_le_mul_right (by omega) (Nat.two_pow_pos (15 - k))
theorem fstP_succ (l : List Int) (k : Nat) : fstP l (k + 1) = 2 * endP l k := by rw [fstP, endP]; omega
theorem fstP_le_endP (l : List Int) (k : Nat) : fstP l k ≤ endP l k := by unfold endP; omega
/-- The codes of a greater length lie behind. -/
theorem fstP_far (l : List Int) (k : Nat) : ∀ m, endP l k * 2 ^ (m + 1) ≤ fstP l (k + m + 1)
  | 0 => by rw [fstP_succ]; simp; omega
  | m + 1 => by
    have h1 := fstP_far l k m
    have h2 := fstP_le_endP l (k + m + 1)
    rw [show k + (m + 1) + 1 = (k + m + 1) + 1 from by omega, fstP_succ, Nat.pow_succ, ← Nat.mul_assoc]
    omega
theorem count_take_lt (l : List Int) (s : Nat) (k : Int) (h : l[s]? = some k) : (l.take s).count k < l.count k := by
  have h1 : (l.take (s + 1)).count k ≤ l.count k := (List.take_sublist _ _).count_le k
  rw [List.take_add_one, h, List.count_append] at h1
  simp at h1
  omega
theorem count_take_mono (l : List Int) (k : Int) {a b : Nat} (h : a ≤ b) : (l.take a).count k ≤ (l.take b).count k := by
  have : l.take a = (l.take b).take a := by rw [List.take_take, Nat.min_eq_left h]
  rw [this]
  exact (List.take_sublist _ _).count_le k
theorem count_take_step (l : List Int) (s t : Nat) (k : Int) (h : l[s]? = some k) (hst : s < t) : (l.take s).count k < (l.take t).count k := by
  have h2 := count_take_mono l k (show s + 1 ≤ t by omega)
  rw [List.take_add_one, h, List.count_append] at h2
  simp at h2
  omega
theorem codeP_eq (l : List Int) (s K : Nat) (h : l[s]? = some (K : Int)) : codeP l s = fstP l K + (l.take s).count (K : Int) := by
  unfold codeP
  rw [List.getD_eq_getElem?_getD, h]
  simp
theorem codeP_range (l : List Int) (s K : Nat) (h : l[s]? = some (K : Int)) (hK : 1 ≤ K) : fstP l K ≤ codeP l s ∧ codeP l s < endP l K := by
  rw [codeP_eq l s K h]
  have := count_take_lt l s _ h
  unfold endP cntP
  rw [if_neg (by omega)]
  omega
theorem codeP_step (l : List Int) (s t K : Nat) (h : l[s]? = some (K : Int)) (h' : l[t]? = some (K : Int)) (hst : s < t) : codeP l s < codeP l t := by
  rw [codeP_eq l s K h, codeP_eq l t K h']
  have := count_take_step l s t _ h hst
  omega
/-- A code of a longer length, cut, is behind all codes of the shorter one. -/
theorem codeP_far (l : List Int) (s t K M : Nat) (h : l[s]? = some (K : Int)) (h' : l[t]? = some (M : Int)) (hK : 1 ≤ K) (hM : K < M) : codeP l s < codeP l t / 2 ^ (M - K) ∧ (codeP l s + 1) * 2 ^ (M - K) ≤ codeP l t := by
  have h1 := (codeP_range l s K h hK).2
  have h2 := (codeP_range l t M h' (by omega)).1
  have h3 := fstP_far l K (M - K - 1)
  rw [show K + (M - K - 1) + 1 = M from by omega, show M - K - 1 + 1 = M - K from by omega] at h3
  have h4 : (codeP l s + 1) * 2 ^ (M - K) ≤ endP l K * 2 ^ (M - K) := Nat.mul_le_mul_right _ h1
  have h5 : (codeP l s + 1) * 2 ^ (M - K) ≤ codeP l t := by omega
  refine ⟨?_, h5⟩
  have := (Nat.le_div_iff_mul_le (Nat.two_pow_pos (M - K))).2 h5
  omega

/-! Symbols read -/
/-- The symbols of one length. -/
def symsP (l : List Int) (k : Nat) : List Int := ((List.range l.length).filter fun (s : Nat) => l[s]? == some (k : Int)).map fun (s : Nat) => (s : Int)
theorem symsP_take_succ (l : List Int) (i k : Nat) (x : Int) (h : l[i]? = some x) : symsP (l.take (i + 1)) k = symsP (l.take i) k ++ (if x = (k : Int) then [(i : Int)] else []) := by
  have hi : i < l.length := (List.getElem?_eq_some_iff.1 h).1
  unfold symsP
  rw [List.length_take, List.length_take, Nat.min_eq_left (by omega), Nat.min_eq_left (by omega), List.range_succ, List.filter_append, List.map_append]
  congr 1
  · congr 1
    apply List.filter_congr
    intro s hs
    have hs' : s < i := by simpa using hs
    rw [List.getElem?_take, List.getElem?_take, if_pos (by omega), if_pos hs']
  · have h2 : (l.take (i + 1))[i]? = some x := by rw [List.getElem?_take, if_pos (by omega), h]
    simp only [List.filter_cons, List.filter_nil, h2]
    by_cases hx : x = (k : Int) <;> simp [hx]
theorem symsP_length (l : List Int) (k : Nat) : ∀ i, i ≤ l.length → (symsP (l.take i) k).length = (l.take i).count (k : Int)
  | 0, _ => by simp [symsP]
  | i + 1, h => by
    have hx : l[i]? = some l[i] := List.getElem?_eq_getElem (by omega)
    rw [symsP_take_succ l i k _ hx, List.length_append, symsP_length l k i (by omega), List.take_add_one, hx, List.count_append]
    by_cases hk : l[i] = (k : Int) <;> simp [hk]
theorem symsP_at (l : List Int) (k : Nat) : ∀ i, i ≤ l.length → ∀ j, (symsP (l.take i) k)[j]? = none ∨ ∃ s : Nat, (symsP (l.take i) k)[j]? = some (s : Int) ∧ s < i ∧ l[s]? = some (k : Int) ∧ (l.take s).count (k : Int) = j
  | 0, _, j => by left; simp [symsP]
  | i + 1, h, j => by
    have hx : l[i]? = some l[i] := List.getElem?_eq_getElem (by omega)
    have hlen := symsP_length l k i (by omega)
    rw [symsP_take_succ l i k _ hx, List.getElem?_append]
    by_cases hj : j < (symsP (l.take i) k).length
    · rw [if_pos hj]
      rcases symsP_at l k i (by omega) j with h0 | ⟨s, h1, h2, h3⟩
      · exact .inl h0
      · exact .inr ⟨s, h1, by omega, h3⟩
    · rw [if_neg hj]
      by_cases hk : l[i] = (k : Int)
      · rw [if_pos hk]
        by_cases hj2 : j = (symsP (l.take i) k).length
        · right
          refine ⟨i, by rw [hj2]; simp, by omega, by rw [hx, hk], by rw [hj2, hlen]⟩
        · left
          rw [List.getElem?_eq_none]
          simp; omega
      · left
        rw [if_neg hk]
        simp
/-- The symbol whose code of so many bits this is. -/
def lookP (l : List Int) (k v : Nat) : Option Nat := (List.range l.length).find? fun s => l[s]? == some (k : Int) && codeP l s == v
theorem lookP_some (l : List Int) (k v s : Nat) (h : lookP l k v = some s) : l[s]? = some (k : Int) ∧ codeP l s = v := by
  have := List.find?_some h
  simpa using this
theorem codeP_inj (l : List Int) (s t K : Nat) (h : l[s]? = some (K : Int)) (h' : l[t]? = some (K : Int)) (e : codeP l s = codeP l t) : s = t := by
  rcases Nat.lt_trichotomy s t with hh | hh | hh
  · have := codeP_step l s t K h h' hh; omega
  · exact hh
  · have := codeP_step l t s K h' h hh; omega
theorem lookP_of (l : List Int) (k v s : Nat) (h : l[s]? = some (k : Int)) (e : codeP l s = v) : lookP l k v = some s := by
  have hs : s < l.length := (List.getElem?_eq_some_iff.1 h).1
  have h1 : (lookP l k v).isSome = true := by
    unfold lookP
    rw [List.find?_isSome]
    exact ⟨s, by simpa using hs, by simp [h, e]⟩
  obtain ⟨t, ht⟩ := Option.isSome_iff_exists.1 h1
  have h2 := lookP_some l k v t ht
  rw [ht, codeP_inj l t s k h2.1 h (h2.2.trans e.symm)]
theorem lookP_none (l : List Int) (k v : Nat) (h : lookP l k v = none) (s : Nat) : ¬ (l[s]? = some (k : Int) ∧ codeP l s = v) := by
  intro ⟨h1, h2⟩
  rw [lookP_of l k v s h1 h2] at h
  cases h
/-- By place among the symbols of the length. -/
theorem lookP_syms (l : List Int) (k v : Nat) (hk : 1 ≤ k) : lookP l k v = none ∧ ¬ (fstP l k ≤ v ∧ v < endP l k) ∨ ∃ s : Nat, lookP l k v = some s ∧ fstP l k ≤ v ∧ v < endP l k ∧ (symsP l k)[v - fstP l k]? = some (s : Int) := by
  have hl := symsP_length l k l.length (Nat.le_refl _)
  have ha := symsP_at l k l.length (Nat.le_refl _) (v - fstP l k)
  rw [List.take_length] at hl ha
  by_cases hr : fstP l k ≤ v ∧ v < endP l k
  · right
    rcases ha with h0 | ⟨s, h1, h2, h3, h4⟩
    · rw [List.getElem?_eq_none_iff, hl] at h0
      unfold endP cntP at hr
      rw [if_neg (by omega)] at hr
      omega
    · refine ⟨s, lookP_of l k v s h3 ?_, hr.1, hr.2, h1⟩
      rw [codeP_eq l s k h3, h4]
      omega
  · left
    refine ⟨?_, hr⟩
    cases h : lookP l k v with
    | none => rfl
    | some s =>
      have h1 := lookP_some l k v s h
      have h2 := codeP_range l s k h1.1 hk
      rw [h1.2] at h2
      exact absurd h2 hr
/-- One symbol: m bits may still come, k have come and make v. -/
def symP (l : List Int) : Nat → Nat → Nat → List Bool → Option (Nat × Nat)
  | 0, _, _, _ => none
  | _ + 1, _, _, [] => none
  | m + 1, k, v, b :: bs => match lookP l (k + 1) (2 * v + b.toNat) with
    | some s => some (s, k + 1)
    | none => symP l m (k + 1) (2 * v + b.toNat) bs
/-- Symbols up to an end: error, symbols, bits that were read. -/
def readP (l : List Int) (e most : Int) : Nat → List Int → Nat → List Bool → Int × List Int × Nat
  | 0, _, _, _ => (6, [], 0)
  | m + 1, out, at_, bits => if most ≤ (out.length : Int) then (2, [], 0) else match symP l 15 0 0 bits with
    | none => (6, [], 0)
    | some (s, n) => if (s : Int) = e then (0, out ++ [(s : Int)], at_ + n) else readP l e most m (out ++ [(s : Int)]) (at_ + n) (bits.drop n)
theorem symP_len (l : List Int) : ∀ m k v bits s n, symP l m k v bits = some (s, n) → k + 1 ≤ n ∧ n ≤ k + bits.length ∧ n ≤ k + m ∧ s < l.length
  | 0, _, _, _, _, _, h => by simp [symP] at h
  | _ + 1, _, _, [], _, _, h => by simp [symP] at h
  | m + 1, k, v, b :: bs, s, n, h => by
    rw [symP] at h
    split at h
    · rename_i s' hs
      simp at h
      obtain ⟨rfl, rfl⟩ := h
      have := lookP_some _ _ _ _ hs
      have := (List.getElem?_eq_some_iff.1 this.1).1
      simp; omega
    · have := symP_len l m _ _ _ _ _ h
      simp; omega
/-- Where Kraft is just whole a symbol is always found. -/
theorem symP_whole (l : List Int) (h : kraftP l = 32768) (hall : ∀ k ∈ l, 0 ≤ k ∧ k ≤ 15) : ∀ m k v bits, k + m = 15 → endP l k ≤ v → v < 2 ^ k → m ≤ bits.length → ∃ s n, symP l m k v bits = some (s, n)
  | 0, k, v, bits, hk, he, hv, _ => by
    exfalso
    obtain rfl : k = 15 := by omega
    have := endP_kraft l 15 (by omega)
    rw [kraftTo_all, h] at this
    simp at this
    omega
  | m + 1, k, v, [], _, _, _, hb => by simp at hb
  | m + 1, k, v, b :: bs, hk, he, hv, hb => by
    rw [symP]
    have hv2 : 2 * v + b.toNat < 2 ^ (k + 1) := by rw [Nat.pow_succ]; cases b <;> simp <;> omega
    rcases lookP_syms l (k + 1) (2 * v + b.toNat) (by omega) with ⟨h0, h1⟩ | ⟨s, h0, _⟩
    · rw [h0]
      refine symP_whole l h hall m (k + 1) _ bs (by omega) ?_ hv2 (by simpa using hb)
      rw [fstP_succ] at h1
      omega
    · rw [h0]
      exact ⟨_, _, rfl⟩
end Go.Proofs.Ythgbkncanoknkaa
/-
  Runs of zeros, plain: the symbols of a run, of a text, and what symbols come to.
-/
set_option linter.unusedVariables false
set_option linter.unusedSimpArgs false
namespace Go.Proofs.Ythgbkncanoknkaa

/-- The symbols of n zeros. -/
def runL (n : Nat) : List Int := if h : n = 0 then [] else (1 - ((n % 2 : Nat) : Int)) :: runL ((n - 1) / 2)
termination_by n
decreasing_by omega
theorem runL_zero : runL 0 = [] := by rw [runL]; simp
theorem runL_pos {n : Nat} (h : 0 < n) : runL n = (1 - ((n % 2 : Nat) : Int)) :: runL ((n - 1) / 2) := by rw [runL, dif_neg (by omega)]
theorem runL_le (n : Nat) : (runL n).length ≤ n := by
  induction n using Nat.strongRecOn with
  | _ n ih =>
    rcases Nat.eq_zero_or_pos n with rfl | h
    · simp [runL_zero]
    · rw [runL_pos h]
      have := ih ((n - 1) / 2) (by omega)
      simp only [List.length_cons]
      omega
/-- The symbols of n zeros and the text behind them. -/
def enc : List UInt8 → Nat → List Int
  | [], n => runL n ++ [257]
  | b :: bs, n => if b = 0 then enc bs (n + 1) else runL n ++ ((b.toNat : Int) + 1) :: enc bs 0
/-- What symbols come to: the bytes, and the fault. -/
def dec (most : Nat) : List Int → List UInt8 → Nat → List UInt8 × Int
  | [], _, _ => ([], 6)
  | x :: l, b, wth =>
    if x < 0 ∨ 257 < x ∨ (x = 257 ∧ l ≠ []) then ([], 6)
    else if x = 257 then (b, 0)
    else if 1 < x then (if most ≤ b.length then ([], 2) else dec most l (b ++ [UInt8.ofNat (x - 1).toNat]) 1)
    else if most - b.length < wth * (x.toNat + 1) then ([], 2) else dec most l (b ++ List.replicate (wth * (x.toNat + 1)) 0) (wth * 2)
section
variable {most : Nat} {x : Int} {l : List Int} {b : List UInt8} {wth : Nat}
theorem dec_bad (h : x < 0 ∨ 257 < x ∨ (x = 257 ∧ l ≠ [])) : dec most (x :: l) b wth = ([], 6) := by rw [dec, if_pos h]
theorem dec_end : dec most [257] b wth = (b, 0) := by rw [dec]; simp
theorem dec_full (h1 : 1 < x) (h2 : x < 257) (h : most ≤ b.length) : dec most (x :: l) b wth = ([], 2) := by rw [dec, if_neg (by omega), if_neg (by omega), if_pos h1, if_pos h]
theorem dec_byte (h1 : 1 < x) (h2 : x < 257) (h : ¬ most ≤ b.length) : dec most (x :: l) b wth = dec most l (b ++ [UInt8.ofNat (x - 1).toNat]) 1 := by rw [dec, if_neg (by omega), if_neg (by omega), if_pos h1, if_neg h]
theorem dec_great (h1 : 0 ≤ x) (h2 : x ≤ 1) (h : most - b.length < wth * (x.toNat + 1)) : dec most (x :: l) b wth = ([], 2) := by rw [dec, if_neg (by omega), if_neg (by omega), if_neg (by omega), if_pos h]
theorem dec_run (h1 : 0 ≤ x) (h2 : x ≤ 1) (h : ¬ most - b.length < wth * (x.toNat + 1)) : dec most (x :: l) b wth = dec most l (b ++ List.replicate (wth * (x.toNat + 1)) 0) (wth * 2) := by rw [dec, if_neg (by omega), if_neg (by omega), if_neg (by omega), if_neg h]
end
/-- The symbols of n zeros, behind symbols that told of some. -/
theorem dec_runL (most : Nat) (l : List Int) : ∀ (n : Nat) (b : List UInt8) (wth : Nat), 0 < wth → b.length + wth * n ≤ most →
    ∃ w', 0 < w' ∧ dec most (runL n ++ l) b wth = dec most l (b ++ List.replicate (wth * n) 0) w' := by
  intro n
  induction n using Nat.strongRecOn with
  | _ n ih =>
    intro b wth hw h
    rcases Nat.eq_zero_or_pos n with rfl | hn
    · exact ⟨wth, hw, by simp [runL_zero]⟩
    · rw [runL_pos hn, List.cons_append]
      obtain ⟨d, hd, hd2, hnd⟩ : ∃ d, (1 - ((n % 2 : Nat) : Int)) = ((d : Nat) : Int) ∧ d ≤ 1 ∧ n = d + 1 + 2 * ((n - 1) / 2) := ⟨1 - n % 2, by omega, by omega, by omega⟩
      rw [hd]
      have hmul : wth * n = wth * (d + 1) + wth * 2 * ((n - 1) / 2) := by rw [Nat.mul_assoc, ← Nat.mul_add, ← hnd]
      rw [dec_run (by omega) (by omega) (by rw [Int.toNat_natCast]; omega)]
      rw [Int.toNat_natCast]
      obtain ⟨w', h1, h2⟩ := ih ((n - 1) / 2) (by omega) (b ++ List.replicate (wth * (d + 1)) 0) (wth * 2) (by omega) (by rw [List.length_append, List.length_replicate]; omega)
      refine ⟨w', h1, ?_⟩
      rw [h2, List.append_assoc, List.replicate_append_replicate, hmul]
theorem enc_zeros (n k : Nat) : enc (List.replicate n 0) k = runL (k + n) ++ [257] := by
  induction n generalizing k with
  | zero => rfl
  | succ n ih => rw [List.replicate_succ, enc, if_pos rfl, ih]; congr 2; omega
/-- A run takes as many symbols as n + 1 has bits, less one. -/
theorem runL_length (n : Nat) : 2 ^ (runL n).length ≤ n + 1 ∧ n + 1 < 2 ^ ((runL n).length + 1) := by
  induction n using Nat.strongRecOn with
  | _ n ih =>
    rcases Nat.eq_zero_or_pos n with rfl | h
    · simp [runL_zero]
    · rw [runL_pos h]
      have := ih ((n - 1) / 2) (by omega)
      simp only [List.length_cons]
      rw [Nat.pow_succ, Nat.pow_succ 2 (_ + 1)]
      omega
/-- A byte that is no nought parts a text. -/
theorem enc_join (a b : List UInt8) (x : UInt8) (hx : x ≠ 0) : ∀ n, enc (a ++ x :: b) n = (enc a n).dropLast ++ ((x.toNat : Int) + 1) :: enc b 0 := by
  induction a with
  | nil => intro n; simp [enc, hx]
  | cons y a ih =>
    intro n
    rw [List.cons_append, enc, enc]
    by_cases hy : y = 0
    · rw [if_pos hy, if_pos hy, ih]
    · rw [if_neg hy, if_neg hy, ih]
      have hne : enc a 0 ≠ [] := by
        intro h
        have : ∀ (bs : List UInt8) k, enc bs k ≠ [] := by
          intro bs
          induction bs with
          | nil => intro k; simp [enc]
          | cons z bs ih2 => intro k; rw [enc]; split; exact ih2 _; simp
        exact this _ _ h
      rw [List.dropLast_append_of_ne_nil (by simp), List.dropLast_cons_of_ne_nil hne]
      simp
theorem enc_ne (bs : List UInt8) : ∀ k, enc bs k ≠ [] := by
  induction bs with
  | nil => intro k; simp [enc]
  | cons z bs ih2 => intro k; rw [enc]; split; exact ih2 _; simp
theorem enc_le (bs : List UInt8) : ∀ k, (enc bs k).length ≤ bs.length + k + 1 := by
  induction bs with
  | nil => intro k; have := runL_le k; simp [enc]; omega
  | cons z bs ih2 =>
    intro k
    rw [enc]
    split
    · have := ih2 (k + 1); simp; omega
    · have := ih2 0; have := runL_le k; simp; omega
/-- m ones, which tell of two zeros, then of four .. -/
theorem dec_ones (most : Nat) (l : List Int) : ∀ (m : Nat) (b : List UInt8) (wth : Nat), b.length + wth * (2 ^ (m + 1) - 2) ≤ most →
    ∃ w', dec most (List.replicate m 1 ++ l) b wth = dec most l (b ++ List.replicate (wth * (2 ^ (m + 1) - 2)) 0) w' := by
  intro m
  induction m with
  | zero => intro b wth _; exact ⟨wth, by simp⟩
  | succ m ih =>
    intro b wth h
    have e : wth * (2 ^ (m + 1 + 1) - 2) = wth * 2 + wth * 2 * (2 ^ (m + 1) - 2) := by
      rw [Nat.mul_assoc, ← Nat.mul_add]
      congr 1
      have := Nat.two_pow_pos (m + 1)
      have : 2 ^ (m + 1) = 2 * 2 ^ m := by rw [Nat.pow_succ, Nat.mul_comm]
      have := Nat.two_pow_pos m
      rw [Nat.pow_succ 2 (m + 1)]
      omega
    rw [List.replicate_succ, List.cons_append, dec_run (by omega) (by omega) (by simp; omega)]
    obtain ⟨w', h1⟩ := ih (b ++ List.replicate (wth * 2) 0) (wth * 2) (by rw [List.length_append, List.length_replicate]; omega)
    refine ⟨w', ?_⟩
    simp only [show (1 : Int).toNat + 1 = 2 from rfl]
    rw [h1, List.append_assoc, List.replicate_append_replicate, e]
theorem dec_ones_great (most : Nat) (l : List Int) : ∀ (m : Nat) (b : List UInt8) (wth : Nat), b.length ≤ most → most < b.length + wth * (2 ^ (m + 1) - 2) →
    dec most (List.replicate m 1 ++ l) b wth = ([], 2) := by
  intro m
  induction m with
  | zero => intro b wth _ h; simp at h; omega
  | succ m ih =>
    intro b wth hb h
    have e : wth * (2 ^ (m + 1 + 1) - 2) = wth * 2 + wth * 2 * (2 ^ (m + 1) - 2) := by
      rw [Nat.mul_assoc, ← Nat.mul_add]
      congr 1
      have : 2 ^ (m + 1) = 2 * 2 ^ m := by rw [Nat.pow_succ, Nat.mul_comm]
      have := Nat.two_pow_pos m
      rw [Nat.pow_succ 2 (m + 1)]
      omega
    rw [List.replicate_succ, List.cons_append]
    by_cases hc : most - b.length < wth * ((1 : Int).toNat + 1)
    · exact dec_great (by omega) (by omega) hc
    · rw [dec_run (by omega) (by omega) hc]
      simp only [show (1 : Int).toNat + 1 = 2 from rfl] at hc ⊢
      exact ih _ _ (by rw [List.length_append, List.length_replicate]; omega) (by rw [List.length_append, List.length_replicate]; omega)
end Go.Proofs.Ythgbkncanoknkaa
/-
  entropy, plain: symbols, how many of each, codes' lengths.
-/
set_option linter.unusedVariables false
set_option linter.unusedSimpArgs false
namespace Go.Proofs.Ythgbkncanoknkaa
open Go.RowKit
theorem runL_range : ∀ n : Nat, ∀ x ∈ runL n, 0 ≤ x ∧ x ≤ 1 := by
  intro n
  induction n using Nat.strongRecOn with
  | _ n ih =>
    intro x hx
    rcases Nat.eq_zero_or_pos n with h | h
    · subst h; rw [runL_zero] at hx; cases hx
    · rw [runL_pos h] at hx
      rcases List.mem_cons.1 hx with rfl | hx
      · omega
      · exact ih _ (by omega) x hx
theorem enc_range : ∀ (bs : List UInt8) (k : Nat), ∀ x ∈ enc bs k, 0 ≤ x ∧ x ≤ 257
  | [], k, x, hx => by
    rw [enc, List.mem_append] at hx
    rcases hx with hx | hx
    · have := runL_range _ x hx; omega
    · simp at hx; omega
  | b :: bs, k, x, hx => by
    rw [enc] at hx
    split at hx
    · exact enc_range bs _ x hx
    · rcases List.mem_append.1 hx with hx | hx
      · have := runL_range _ x hx; omega
      · rcases List.mem_cons.1 hx with rfl | hx
        · have := b.toNat_lt; omega
        · exact enc_range bs _ x hx
/-- How many of each symbol. -/
def frE (xs : List Int) : List Int := mkI (fun s => ((xs.count (s : Int) : Nat) : Int)) 258
theorem frE_length (xs : List Int) : (frE xs).length = 258 := mkI_length _ _
theorem frE_zero : frE [] = List.replicate 258 0 := by
  unfold frE
  simp only [List.count_nil]
  exact mkI_const 0 258
theorem frE_step (xs : List Int) (x : Nat) : frE (xs ++ [(x : Int)]) = (frE xs).set x (((xs.count (x : Int) : Nat) : Int) + 1) := by
  unfold frE
  rw [mkI_set]
  refine mkI_congr _ _ _ (fun i hi => ?_)
  rw [List.count_append]
  by_cases e : i = x
  · subst e; rw [if_pos rfl]; simp
  · rw [if_neg e]
    have : ([(x : Int)] : List Int).count (i : Int) = 0 := by rw [List.count_eq_zero]; simp; omega
    rw [this]
    simp
theorem frE_good (xs : List Int) (h : xs.length ≤ 1000000) : badL (frE xs) = false := by
  unfold badL
  rw [frE_length, Bool.or_eq_false_iff]
  refine ⟨by decide, ?_⟩
  rw [List.any_eq_false]
  intro x hx
  unfold frE mkI at hx
  obtain ⟨s, _, rfl⟩ := List.mem_map.1 hx
  have := List.count_le_length (a := (s : Int)) (l := xs)
  unfold badF
  simp
  omega
/-- The codes' lengths. -/
def lensE (xs : List Int) : List Int := mkI (fun s => (lenP (fN (frE xs)) s : Int)) 258
theorem lensE_length (xs : List Int) : (lensE xs).length = 258 := mkI_length _ _
theorem lensE_range (xs : List Int) : ∀ x ∈ lensE xs, 0 ≤ x ∧ x ≤ 15 := by
  intro x hx
  unfold lensE mkI at hx
  obtain ⟨s, _, rfl⟩ := List.mem_map.1 hx
  have hF : (fN (frE xs)).length ≤ 300 := by rw [fN_length, frE_length]; omega
  rcases Nat.eq_zero_or_pos ((fN (frE xs)).getD s 0) with h | h
  · rw [lenP_zero hF h]; omega
  · have := lenP_bounds hF h; omega
theorem kraft_mk (g : Nat → Nat) (n : Nat) : kraftP (mkI (fun s => (g s : Int)) n) = ((List.range n).map fun s => krP (g s)).sum := by
  unfold kraftP mkI
  rw [List.map_map]
  refine congrArg List.sum (List.map_congr_left (fun s _ => ?_))
  show (if 1 ≤ ((g s : Nat) : Int) ∧ ((g s : Nat) : Int) ≤ 15 then 2 ^ (15 - (((g s : Nat) : Int)).toNat) else 0) = krP (g s)
  unfold krP
  rw [Int.toNat_natCast]
  by_cases q : 1 ≤ g s ∧ g s ≤ 15
  · rw [if_pos q, if_pos (by omega)]
  · rw [if_neg q, if_neg (by omega)]
theorem lensE_kraft (xs : List Int) : kraftP (lensE xs) ≤ 32768 := by
  have hF : (fN (frE xs)).length ≤ 300 := by rw [fN_length, frE_length]; omega
  have hk := kraft_lenP hF
  rw [fN_length, frE_length] at hk
  have e := kraft_mk (fun s => lenP (fN (frE xs)) s) 258
  unfold lensE
  rw [e, hk]
  split
  · omega
  · split <;> omega
theorem lensE_ok (xs : List Int) : okLens (lensE xs) = true := by
  rw [okLens_iff]
  exact ⟨by rw [lensE_length]; omega, lensE_kraft xs, lensE_range xs⟩
end Go.Proofs.Ythgbkncanoknkaa
/-
  Arrays that lie in a block of their own, taken and laid whole; a result that is such an array.
-/
set_option linter.unusedVariables false
set_option linter.unusedSimpArgs false
namespace Go.Proofs.Ythgbkncanoknkaa
open Go.RowKit
section
variable {P : Program} {B : Nat} {w0 w : World} {L : List HL}
theorem St.heap (hS : St B w0 w L) (i : Nat) {g : Nat} {o : Obj} (hi : L[i]? = some [(g, o)]) : w.heap[g]? = some o := (hS.own _ (List.mem_of_getElem? hi) (g, o) (by simp)).1
/-- A whole new row into the block of a heaplet. -/
theorem St.setRow (hS : St B w0 w L) (i : Nat) {g : Nat} {X X' : Array Value} {T : TypeId} (hi : L[i]? = some [(g, .cells X T (0, 0))]) : St B w0 (w.setRow g X') (L.set i [(g, .cells X' T (0, 0))]) := by
  have hg := hS.heap i hi
  refine hS.change i hi _ rfl rfl rfl (by simp [World.setRow]) ?_ ?_ ?_ (by simp)
  · intro k hk hne
    have : g ≠ k := hne (g, .cells X T (0, 0)) (by simp)
    exact setRow_other w g k _ (fun e => this e.symm)
  · intro x hx
    simp only [List.mem_singleton] at hx
    subst hx
    exact setRow_heap w g X _ T _ hg
  · intro x hx
    simp only [List.mem_singleton] at hx
    subst hx
    exact .inl ⟨_, List.mem_singleton.2 rfl, rfl⟩
theorem results_cell_two {fn : Func} {p u : Tmp} {ty : TypeId} (h : fn.results = #[.cell p ty, .tmp u]) (tmps : Array Value) (g : Nat) (t : TypeId) (cs : Array Value) (d : TypeDesc) (i : Nat)
    (hp : tmps.getD p undef = .pointer (some ⟨g, 0, none⟩)) (hS : St B w0 w L) (hi : L[i]? = some [(g, .cells cs t (0, 0))])
    (hu : P.underlying ty = some d) (hd : (match d with | .struct _ | .array _ _ => true | _ => false) = true) (hz : (P.info? ty).map (·.size) = some cs.size) :
    (results fn tmps).run P w = .ok (.tuple #[.agg cs, tmps.getD u undef]) w := by
  have hp' : tmps[p]?.getD undef = .pointer (some ⟨g, 0, none⟩) := by simpa using hp
  simp [results, h, hp', asAddr, run_loadVar_row w g t ty cs (0, 0) d (hS.heap i hi) hu hd hz]
variable {ops : Array Oper} {rest : List Oper} {o : Oper} {a : Act} {Q : Exit → Act → World → Prop}
theorem wpList_loadRow (j : Nat) (ty : TypeId) (x : Operand) (hgd : o.guard = none) (ho : o.op = .load ty x) {g : Nat} {X : Array Value} {T : TypeId} {d : TypeDesc} (hx : a.eval x = .pointer (some ⟨g, 0, none⟩))
    (hu : P.underlying ty = some d) (hd : (match d with | .struct _ | .array _ _ => true | _ => false) = true) (hz : (P.info? ty).map (·.size) = some X.size)
    (hS : St B w0 w L) (hj : L[j]? = some [(g, .cells X T (0, 0))]) (h : wpList P ops Q rest (a.put o.dst (.agg X)) w) : wpList P ops Q (o :: rest) a w :=
  wpList_load_row hgd ty x ho g hx T X (0, 0) d (hS.heap j hj) hu hd hz h
theorem wpList_storeRow (j : Nat) (ty : TypeId) (x y : Operand) (hgd : o.guard = none) (ho : o.op = .store ty x y) {g : Nat} {X X' : Array Value} {T : TypeId} (hx : a.eval x = .pointer (some ⟨g, 0, none⟩)) (hy : a.eval y = .agg X')
    (hz : (P.info? ty).map (·.size) = some X'.size) (hold : X.size = X'.size) (h1 : X'.all (·.oneCell') = true)
    (hS : St B w0 w L) (hj : L[j]? = some [(g, .cells X T (0, 0))]) (h : ∀ w', St B w0 w' (L.set j [(g, .cells X' T (0, 0))]) → wpList P ops Q rest (a.put o.dst undef) w') : wpList P ops Q (o :: rest) a w :=
  wpList_store_row hgd ty x y ho g X' hx hy T X (hS.heap j hj) hz hold h1 (h _ (hS.setRow j hj))
end
/-- An array of n numbers, by places. -/
def arrN (n : Nat) (f : Nat → Int) : Array Value := ((List.range n).map fun k => Value.int .i64 (f k)).toArray
theorem arrN_size (n : Nat) (f : Nat → Int) : (arrN n f).size = n := by simp [arrN]
theorem arrN_get (n : Nat) (f : Nat → Int) (k : Nat) (h : k < n) : (arrN n f)[k]? = some (.int .i64 (f k)) := by simp [arrN, h]
theorem arrN_set (n : Nat) (f : Nat → Int) (k : Nat) (v : Int) : (arrN n f).setIfInBounds k (.int .i64 v) = arrN n (fun j => if j = k then v else f j) := by
  apply Array.ext_getElem?
  intro j
  rw [Array.getElem?_setIfInBounds]
  by_cases h : k = j
  · subst h
    by_cases hk : k < n
    · rw [if_pos rfl, if_pos (by rw [arrN_size]; exact hk), arrN_get _ _ _ hk]; simp
    · rw [if_pos rfl, if_neg (by rw [arrN_size]; exact hk)]
      simp [arrN, hk]
  · rw [if_neg h]
    by_cases hj : j < n
    · rw [arrN_get _ _ _ hj, arrN_get _ _ _ hj, if_neg (fun e => h e.symm)]
    · simp [arrN, hj]
theorem arrN_congr {n : Nat} {f g : Nat → Int} (h : ∀ k, k < n → f k = g k) : arrN n f = arrN n g := by
  apply Array.ext_getElem?
  intro j
  by_cases hj : j < n
  · rw [arrN_get _ _ _ hj, arrN_get _ _ _ hj, h j hj]
  · simp [arrN, hj]
end Go.Proofs.Ythgbkncanoknkaa

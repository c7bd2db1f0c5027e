/-
  Contract of bwt.Back.
-/
import Derived.Test.YtdgpbgdpdmikaabBwt
set_option linter.unusedVariables false
set_option linter.unusedSimpArgs false
namespace Go.Proofs.Ytdgpbgdpdmikaab
open Go.RowKit
set_option maxRecDepth 100000
/-- Is the place a text's, with these bytes? -/
def goodI (s : List Nat) (a : Int) : Prop := 0 ≤ a ∧ GoodB s a.toNat
def BackOut (l : List UInt8) (a : Int) (w : World) (e : Ending) (w' : World) : Prop :=
  (goodI (nb l) a ∧ ∃ v c x, e = .returned (.tuple #[v, .int .i64 0]) ∧ RowC 5 1 v x.length (bv x) c ∧ nb x = invP (nb l) a.toNat ∧ St w.heap.size w w' [c]) ∨
  (¬ goodI (nb l) a ∧ e = .returned (.tuple #[.slice none 0 0, .int .i64 6]) ∧ St w.heap.size w w' [])
theorem row_le {s : List Nat} {at_ : Nat} (ha : at_ ≤ s.length) : ∀ j, (∀ i, i < j → rowP s at_ i ≠ at_) → rowP s at_ j ≤ s.length
  | 0, _ => Nat.zero_le _
  | j + 1, h => toP_le ha (row_le ha j fun i hi => h i (by omega)) (h j (by omega))
/-- Bytes by places. -/
def mkU (f : Nat → UInt8) (n : Nat) : List UInt8 := (List.range n).map f
theorem mkU_length (f : Nat → UInt8) (n : Nat) : (mkU f n).length = n := by simp [mkU]
theorem mkU_get (f : Nat → UInt8) (n i : Nat) (h : i < n) : (mkU f n)[i]? = some (f i) := by simp [mkU, h]
theorem mkU_set (f : Nat → UInt8) (n i : Nat) (v : UInt8) : (mkU f n).set i v = mkU (fun j => if j = i then v else f j) n := by
  apply List.ext_getElem?
  intro j
  rw [List.getElem?_set, mkU_length]
  by_cases hj : j < n
  · rw [mkU_get _ _ _ hj, mkU_get _ _ _ hj]
    by_cases e : i = j
    · subst e; simp [hj]
    · have e' : ¬ j = i := fun x => e x.symm
      simp [e, e']
  · rw [List.getElem?_eq_none (by rw [mkU_length]; omega), List.getElem?_eq_none (by rw [mkU_length]; omega)]
    by_cases e : i = j
    · subst e; simp [hj]
    · simp [e]
theorem mkU_congr (f g : Nat → UInt8) (n : Nat) (h : ∀ i, i < n → f i = g i) : mkU f n = mkU g n := by
  unfold mkU
  apply List.map_congr_left
  intro i hi
  exact h i (by simpa using hi)
theorem mkU_const (n : Nat) (v : UInt8) : mkU (fun _ => v) n = List.replicate n v := by
  unfold mkU
  rw [List.eq_replicate_iff]
  refine ⟨by simp, ?_⟩
  intro x hx
  obtain ⟨_, _, rfl⟩ := List.mem_map.1 hx
  rfl
theorem ch_nb (l : List UInt8) (i : Nat) : ch (nb l) i = (l.getD i 0).toNat := by
  unfold ch nb
  rw [List.getD_eq_getElem?_getD, List.getD_eq_getElem?_getD, List.getElem?_map]
  cases l[i]? <;> rfl
def invU (l : List UInt8) (at_ : Nat) (i : Nat) : UInt8 := l.getD (idxR at_ (rowP (nb l) at_ (l.length - 1 - i))) 0
theorem nb_invU (l : List UInt8) (at_ : Nat) : nb (mkU (invU l at_) l.length) = invP (nb l) at_ := by
  unfold invP nb mkU
  rw [List.map_map, List.length_map]
  apply List.map_congr_left
  intro i _
  have := ch_nb l (idxR at_ (rowP (nb l) at_ (l.length - 1 - i)))
  unfold nb at this
  rw [this]
  rfl
set_option maxHeartbeats 4000000 in
theorem back_any (l : List UInt8) (v : Value) (a : Int) (w : World) (hn : l.length ≤ 1000000) (hb : Rd w 1 v l.length (bv l)) :
    Calls Try.prog 19 #[v, .int .i64 a] w (BackOut l a w) := by
  obtain ⟨i0, i0a, i0b, i0c, i0d⟩ := info_parts infoU8
  obtain ⟨ao, cap, rfl⟩ := hb.shape
  have hnl : (l.length : Int) ≤ 1000000 := by omega
  have HB := Lib.hid hb
  have hS0 := St.init w
  clear hb
  by_cases h0 : l.length = 0
  · have hl0 : l = [] := List.eq_nil_of_length_eq_zero h0
    subst hl0
    by_cases ha : a = 0
    · subst ha
      go_enter Try.func19, Try.ntmps19
      go_wp2_with fail
      go_ret2
      exact .inl ⟨⟨Int.le_refl _, Nat.le_refl _, by intro j hj; simp [nb] at hj, rfl⟩, _, [], [], rfl, RowC.nil _ _, rfl, hS0.one_nil⟩
    · have hbad : ¬ goodI (nb []) a := by
        rintro ⟨h1, h2, _⟩
        simp [nb] at h2
        omega
      have ha1 : (a == 0) = false := by simpa using ha
      have HBAD := Lib.hid hbad
      clear hbad ha h0
      by_cases hlt : a < 1
      · go_enter Try.func19, Try.ntmps19
        go_wp2_with fail
        go_ret2
        exact .inr ⟨HBAD.out, rfl, hS0⟩
      · have hgt : 0 < a := by omega
        go_enter Try.func19, Try.ntmps19
        go_wp2_with fail
        go_ret2
        exact .inr ⟨HBAD.out, rfl, hS0⟩
  · have hl1 : ((l.length : Int) == 0) = false := by simp; exact fun e => h0 (by rw [e]; rfl)
    have hsl := nb_length l
    by_cases hlt : a < 1
    · have hbad : ¬ goodI (nb l) a := by
        rintro ⟨h1, h2, h3, _⟩
        exact h3 0 (by omega) (by rw [rowP]; omega)
      have HBAD := Lib.hid hbad
      clear hbad hsl h0
      go_enter Try.func19, Try.ntmps19
      go_wp2_with fail
      go_ret2
      exact .inr ⟨HBAD.out, rfl, hS0⟩
    · by_cases hgt : (l.length : Int) < a
      · have hbad : ¬ goodI (nb l) a := by
          rintro ⟨h1, h2, _⟩
          omega
        have HBAD := Lib.hid hbad
        clear hbad hsl h0
        go_enter Try.func19, Try.ntmps19
        go_wp2_with fail
        go_ret2
        exact .inr ⟨HBAD.out, rfl, hS0⟩
      · obtain ⟨at_, rfl⟩ : ∃ k : Nat, a = (k : Int) := ⟨a.toNat, by omega⟩
        have hal : at_ ≤ l.length := by omega
        have ha1 : 1 ≤ at_ := by omega
        go_enter Try.func19, Try.ntmps19
        go_wp2_with fail
        refine (next_any l _ at_ w hn hal HB.out).mono ?_
        rintro e w1 ⟨vt, cn, rfl, hrn, hS1⟩
        obtain ⟨aot, capt, rfl⟩ := hrn.shape
        obtain ⟨gt, rfl⟩ := hrn.head (by omega)
        have HN := Lib.hid hrn
        clear hrn
        go_wp2_with (at_make; (refine wpList_mk (n := l.length) 22 i0 (.int .u8 0) _ _ rfl rfl _ _ _ _ rfl rfl Try.underlying22 i0a i0b i0c i0d rfl ?_ ?_ ?_ ?_ hS1 ?_); omega; omega; omega; (unfold maxLen; omega); intro g cl w2 hr hS2)
        have HQ : Hid (RowC 5 1 (.slice (some ⟨g, 0, none⟩) l.length l.length) l.length (bv (mkU (fun i => if l.length ≤ i then invU l at_ i else 0) l.length)) cl ∧ St w.heap.size w w2 [cl, cn] ∧ ∀ j, j < l.length - l.length → rowP (nb l) at_ j ≠ at_) := Lib.hid ⟨by
          rw [mkU_congr _ (fun _ => 0) _ (fun j h => if_neg (by omega)), mkU_const]
          simpa [bv] using hr, hS2, fun j h => by omega⟩
        clear hr hS2 hS1 hS0 h0
        go_wp2_with fail
        go_loopg [8, 9] l.length (fun m s8 s9 wr => m ≤ l.length ∧ s9 = .int .i64 ((m : Int) - 1) ∧ ∃ row : Nat, Hid (row = rowP (nb l) at_ (l.length - m)) ∧ s8 = .int .i64 (row : Int) ∧ ∃ c, Hid (RowC 5 1 (.slice (some ⟨g, 0, none⟩) l.length l.length) l.length (bv (mkU (fun i => if m ≤ i then invU l at_ i else 0) l.length)) c ∧ St w.heap.size w wr [c, cn] ∧ ∀ j, j < l.length - m → rowP (nb l) at_ j ≠ at_))
        case atStart => exact ⟨Nat.le_refl _, rfl, 0, Lib.hid (by rw [Nat.sub_self]; rfl), rfl, cl, HQ⟩
        case round =>
          clear HQ
          obtain ⟨hm, rfl, row, HR, rfl, c, HQ⟩ := hrel
          have hS := HQ.out.2.1
          cases gk with
          | zero =>
            have hz : ¬ (0 : Int) ≤ ((0 : Nat) : Int) - 1 := by omega
            have hrow := HR.out
            rw [Nat.sub_zero] at hrow
            by_cases hra : row = at_
            · have hgood : goodI (nb l) (at_ : Int) := by
                refine ⟨by omega, ?_⟩
                rw [Int.toNat_natCast, GoodB, hsl]
                exact ⟨hal, fun j hj => HQ.out.2.2 j (by omega), by rw [← hrow]; exact hra⟩
              have HG := Lib.hid hgood
              have q1 : ((row : Int) != (at_ : Int)) = false := by rw [hra]; simp
              clear hgood hra hrow
              go_wp2_with fail
              go_ret2
              refine .inl ⟨HG.out, .slice (some ⟨g, 0, none⟩) l.length l.length, c, mkU (invU l at_) l.length, rfl, ?_, by rw [Int.toNat_natCast]; exact nb_invU l at_, hS.pick [0] (by decide) [c] rfl⟩
              have := HQ.out.1
              rw [mkU_congr _ (invU l at_) _ (fun i _ => if_pos (Nat.zero_le _))] at this
              rw [mkU_length]
              exact this
            · have hbad : ¬ goodI (nb l) (at_ : Int) := by
                rintro ⟨_, _, _, h3⟩
                rw [Int.toNat_natCast, hsl, ← hrow] at h3
                exact hra h3
              have HG := Lib.hid hbad
              have q1 : ((row : Int) != (at_ : Int)) = true := by simp; omega
              clear hbad hra hrow
              go_wp2_with fail
              go_ret2
              exact .inr ⟨HG.out, rfl, hS.pick [] (by simp) [] rfl⟩
          | succ m =>
            have e1 : ((m + 1 : Nat) : Int) - 1 = (m : Int) := by omega
            rw [e1]
            clear e1
            have hml : m < l.length := by omega
            have hm0 : (0 : Int) ≤ (m : Int) := by omega
            have hmi : (m : Int) < (l.length : Int) := by omega
            have hrow := HR.out
            have hrle : row ≤ l.length := by
              rw [hrow, ← hsl]
              refine row_le (by rw [hsl]; exact hal) _ (fun i hi => HQ.out.2.2 i ?_)
              rw [hsl] at hi
              omega
            by_cases hra : row = at_
            · have hbad : ¬ goodI (nb l) (at_ : Int) := by
                rintro ⟨_, _, h3, _⟩
                rw [Int.toNat_natCast, hsl] at h3
                exact h3 (l.length - (m + 1)) (by omega) (by rw [← hrow]; exact hra)
              have HG := Lib.hid hbad
              have q1 : ((row : Int) == (at_ : Int)) = true := by rw [hra]; simp
              clear hbad hra hrow
              go_wp2_with fail
              go_ret2
              exact .inr ⟨HG.out, rfl, hS.pick [] (by simp) [] rfl⟩
            · have q1 : ((row : Int) == (at_ : Int)) = false := by simp; omega
              have hkl : idxR at_ row < l.length := by
                have := idxR_lt (l := nb l) (at_ := at_) (r := row) (by rw [hsl]; exact hrle) (by rw [hsl]; exact hal) hra
                rwa [hsl] at this
              have hro := HQ.out.1
              have hfr := hro.freeAt hS 0 rfl m
              have hlr := hro.cellAt hS 0 rfl (bv_get _ m _ (mkU_get _ _ m hml))
              rw [if_neg (by omega)] at hlr
              obtain ⟨ad, rfl, hc⟩ := (HB.out.keep hS.below).at (bv_get l (idxR at_ row) _ (List.getElem?_eq_getElem hkl))
              have hx : l[idxR at_ row]'hkl = invU l at_ m := by
                unfold invU
                rw [show l.length - 1 - m = l.length - (m + 1) from by omega, ← hrow, List.getD_eq_getElem?_getD, List.getElem?_eq_getElem hkl]
                rfl
              rw [hx] at hc
              obtain ⟨c', h1, h2⟩ := hro.store hS 0 rfl rfl m (.int .u8 ((invU l at_ m).toNat : Int))
              have hnx := HN.out.cellAt h2 1 rfl (iv_get _ row _ (mkI_get _ _ row (by omega)))
              rw [if_neg hra] at hnx
              have htl : toP (nb l) at_ row ≤ l.length := by rw [← hsl]; exact toP_le (by rw [hsl]; exact hal) (by rw [hsl]; exact hrle) hra
              have HF : Hid (toP (nb l) at_ row = rowP (nb l) at_ (l.length - m) ∧ ∃ c', RowC 5 1 (.slice (some ⟨g, 0, none⟩) l.length l.length) l.length (bv (mkU (fun i => if m ≤ i then invU l at_ i else 0) l.length)) c' ∧ St w.heap.size w (wr.setCell ⟨g, m, none⟩ (.int .u8 ((invU l at_ m).toNat : Int))) [c', cn] ∧ ∀ j, j < l.length - m → rowP (nb l) at_ j ≠ at_) := Lib.hid (by
                refine ⟨by rw [show l.length - m = (l.length - (m + 1)) + 1 from by omega, rowP, ← hrow], c', ?_, h2, fun j hj => ?_⟩
                · rw [← bv_set, mkU_set] at h1
                  rw [mkU_congr _ _ _ (fun i hi => ?_)]
                  · exact h1
                  · by_cases e : i = m
                    · subst e; rw [if_pos rfl, if_pos (Nat.le_refl _)]
                    · rw [if_neg e]
                      by_cases h3 : m + 1 ≤ i
                      · rw [if_pos h3, if_pos (show m ≤ i by omega)]
                      · rw [if_neg h3, if_neg (show ¬ m ≤ i by omega)]
                · by_cases e : j = l.length - (m + 1)
                  · rw [e, ← hrow]; exact hra
                  · exact HQ.out.2.2 j (by omega))
              have hid : (at_ < row ∧ idxR at_ row = row - 1) ∨ (¬ at_ < row ∧ idxR at_ row = row) := by unfold idxR; split <;> omega
              have hri : (row : Int) < (l.length : Int) + 1 := by omega
              clear h1 h2 hro hS HQ hrow hra hx HR
              generalize toP (nb l) at_ row = tp at *
              generalize invU l at_ m = ux at *
              rcases hid with ⟨q2, q3⟩ | ⟨q2, q3⟩
              · rw [q3] at hc
                have hkl2 : (row : Int) - 1 < (l.length : Int) := by omega
                clear q3 hkl
                go_wp2_with fail
                go_roundg m
                case measure => omega
                case rel =>
                  obtain ⟨ht, c'', hx⟩ := HF.out
                  exact ⟨by omega, by go_num, tp, Lib.hid ht, rfl, c'', Lib.hid hx⟩
              · rw [q3] at hc
                have hkl2 : (row : Int) < (l.length : Int) := by omega
                clear q3 hkl
                go_wp2_with fail
                go_roundg m
                case measure => omega
                case rel =>
                  obtain ⟨ht, c'', hx⟩ := HF.out
                  exact ⟨by omega, by go_num, tp, Lib.hid ht, rfl, c'', Lib.hid hx⟩
end Go.Proofs.Ytdgpbgdpdmikaab

/-
  Contracts of slices.Equal at numbers, and of suffix.Common.
-/
import Derived.Test.YtdgpbgdpdmikaaaSufSort
import Derived.Test.YtdgpbgdpdmikaaaPureLcp
import Derived.WalkMore
set_option linter.unusedVariables false
set_option linter.unusedSimpArgs false
namespace Go.Proofs.Ytdgpbgdpdmikaaa
open Go.RowKit
set_option maxRecDepth 100000
set_option maxHeartbeats 1000000 in
theorem equal_any (v v' : Value) (a b : List Int) (w : World) (h : Rd w 1 v a.length (iv a)) (h' : Rd w 1 v' b.length (iv b)) :
    Calls Try.prog 45 #[v, v'] w fun e w' => e = .returned (.bool (decide (a = b))) ∧ Drew w w' := by
  obtain ⟨ao, cap, rfl⟩ := h.shape
  obtain ⟨ao', cap', rfl⟩ := h'.shape
  have hsm := h.small
  have hsm' := h'.small
  by_cases hl : a.length = b.length
  · have h2 := h'
    rw [← hl] at h2
    obtain ⟨hz1, hz2⟩ := h2.cap
    have hl' : (a.length : Int) ≤ 9223372036854775807 := by omega
    have HL := Lib.hid hl
    have hlc : (b.length : Int) = a.length := by omega
    rw [← hl] at h' ⊢
    clear hl hlc
    go_enter Try.func45, Try.ntmps45
    go_wp2_with fail
    go_loopg [13] a.length (fun m s13 wr => ∃ i : Nat, i + m = a.length ∧ s13 = .int .i64 (i : Int) ∧ Hid (decide (a.drop i = b.drop i) = decide (a = b)) ∧ Drew w wr)
    case atStart => exact ⟨0, by omega, rfl, Lib.hid rfl, Drew.refl _⟩
    case round =>
      obtain ⟨i, hi, rfl, HE, hd⟩ := hrel
      obtain ⟨n, rfl⟩ := hd.out
      cases gk with
      | zero =>
        obtain rfl : i = a.length := by omega
        clear hi
        have he := HE.out
        rw [List.drop_length, HL.out, List.drop_length] at he
        have HQ := Lib.hid he
        clear he
        go_wp2_with fail
        go_ret
        exact ⟨by rw [← HQ.out]; rfl, Drew.mk _ _⟩
      | succ m =>
        have hlt : i < a.length := by omega
        obtain ⟨x, hx⟩ : ∃ x, a[i]? = some x := ⟨_, List.getElem?_eq_getElem hlt⟩
        obtain ⟨y, hy⟩ : ∃ y, b[i]? = some y := ⟨_, List.getElem?_eq_getElem (by have := HL.out; omega)⟩
        obtain ⟨ad, rfl, hcell⟩ := (h.drewN (n + 1)).at (iv_get a i x hx)
        obtain ⟨ad', rfl, hcell'⟩ := (h'.drewN (n + 1)).at (iv_get b i y hy)
        have he := HE.out
        have hda : a.drop i = x :: a.drop (i + 1) := by rw [List.drop_eq_getElem_cons hlt]; congr 1; exact (List.getElem?_eq_some_iff.1 hx).2
        have hdb : b.drop i = y :: b.drop (i + 1) := by rw [List.drop_eq_getElem_cons (by have := HL.out; omega)]; congr 1; exact (List.getElem?_eq_some_iff.1 hy).2
        rw [hda, hdb] at he
        have HQ := Lib.hid he
        clear he hda hdb hx hy
        by_cases hxy : x = y
        · subst hxy
          go_wp2_with (first | ((with_reducible refine wp_draw_all (id := 6) mixed ?_ (fun _ _ => ?_)); kernel_rfl) | ((with_reducible refine wpStill_plain ?_ ?_ (fun _ _ => ?_)); rfl; rfl) | (with_reducible refine wpStill_nil ?_))
          go_roundg m
          case measure => omega
          case rel => exact ⟨i + 1, by omega, by go_num, Lib.hid (by rw [← HQ.out]; simp), Drew.then _ _⟩
        · go_wp2_with (first | ((with_reducible refine wp_draw_all (id := 6) mixed ?_ (fun _ _ => ?_)); kernel_rfl) | ((with_reducible refine wpStill_plain ?_ ?_ (fun _ _ => ?_)); rfl; rfl) | (with_reducible refine wpStill_nil ?_))
          go_ret
          exact ⟨by rw [← HQ.out]; simp [hxy], Drew.then _ _⟩
  · have hl' : ¬ (a.length : Int) = b.length := by omega
    have hne : ¬ a = b := fun e => hl (by rw [e])
    clear hl
    go_enter Try.func45, Try.ntmps45
    go_wp2_with fail
    go_ret
    exact ⟨by simp [hne], Drew.refl _⟩
def CommonOut (b : List UInt8) (T : List Nat) (w : World) (e : Ending) (w' : World) : Prop :=
  ∃ (v : Value) (c : HL), e = .returned v ∧ RowC 3 1 v b.length (iv (mkI (fun k => (cm (nb b) T k : Int)) b.length)) c ∧ St w.heap.size w w' [c]
set_option maxHeartbeats 8000000 in
theorem common_any (b : List UInt8) (T : List Nat) (vb va : Value) (w : World) (hn : b.length ≤ 1000000) (hb : Rd w 1 vb b.length (bv b)) (ha : Rd w 1 va b.length (iv (tI T))) (hsa : IsSA (nb b) T) :
    Calls Try.prog 37 #[vb, va] w (CommonOut b T w) := by
  obtain ⟨i0, i0a, i0b, i0c, i0d⟩ := info_parts infoInt
  obtain ⟨ao, cap, rfl⟩ := hb.shape
  obtain ⟨ao2, cap2, rfl⟩ := ha.shape
  have hTl : T.length = b.length := by rw [hsa.len, nb_length]
  have HB := Lib.hid hb
  have HA := Lib.hid ha
  have HT := Lib.hid (And.intro hsa hTl)
  have hnl : (b.length : Int) ≤ 1000000 := by omega
  clear hb ha hsa hTl
  go_enter Try.func37, Try.ntmps37
  go_wp2_with fail
  go_step3
  go_wp2_with fail
  refine (sort_any b _ w hn HB.out).mono ?_
  rintro e w1 ⟨v2, T2, c2, rfl, hr2, hl2, hS1, hsa2⟩
  obtain rfl : T = T2 := HT.out.1.unique hsa2
  obtain ⟨ao3, cap3, rfl⟩ := hr2.shape
  have h1 : Rd w1 1 (.slice ao2 b.length cap2) (tI T).length (iv (tI T)) := by rw [tI_length, HT.out.2]; exact HA.out.keep hS1.below
  have h2 : Rd w1 1 (.slice ao3 b.length cap3) (tI T).length (iv (tI T)) := by rw [tI_length, HT.out.2]; exact hr2.rd hS1 0 rfl
  have H12 := Lib.hid (And.intro h1 h2)
  clear h1 h2 hr2 hl2 hsa2
  have HS1 := Lib.hid hS1
  clear hS1
  go_wp2_with fail
  refine (equal_any _ _ (tI T) (tI T) w1 H12.out.1 H12.out.2).mono ?_
  rintro e w2 ⟨rfl, hd⟩
  have hS2 := (HS1.out.Drew hd).pick [] (by decide) [] rfl
  rw [show decide (tI T = tI T) = true from by simp]
  clear hd
  go_wp2_with (at_make; (refine wpList_mk (n := b.length) 22 i0 (.int .i64 0) _ _ rfl rfl _ _ _ _ rfl rfl Try.underlying22 i0a i0b i0c i0d rfl ?_ ?_ ?_ ?_ hS2 ?_); omega; omega; omega; (unfold maxLen; omega); intro g cl w3 hr hS3)
  have HQ : Hid (RowC 3 1 (.slice (some ⟨g, 0, none⟩) b.length b.length) b.length (iv (mkI (fun j => if rk T j < 0 then (rk T j : Int) else 0) b.length)) cl ∧ St w.heap.size w w3 [cl]) := Lib.hid ⟨by
    rw [mkI_congr _ (fun _ => 0) _ (fun j _ => if_neg (by omega)), mkI_const, iv_replicate]
    exact hr, hS3⟩
  clear hr hS3 hS2
  go_wp2_with fail
  go_loopg [22] b.length (fun m s22 wr => ∃ i : Nat, i + m = b.length ∧ s22 = .int .i64 (i : Int) ∧ ∃ cl, Hid (RowC 3 1 (.slice (some ⟨g, 0, none⟩) b.length b.length) b.length (iv (mkI (fun j => if rk T j < i then (rk T j : Int) else 0) b.length)) cl ∧ St w.heap.size w wr [cl]))
  case atStart => exact ⟨0, by omega, rfl, cl, HQ⟩
  case round =>
    clear HQ
    obtain ⟨i, hi, rfl, cl, HQ⟩ := hrel
    have hr := HQ.out.1
    have hS := HQ.out.2
    cases gk with
    | zero =>
      obtain rfl : i = b.length := by omega
      have hrl : ∀ j, j < b.length → rk T j < b.length := fun j hj => by have := HT.out.1.rk_lt (p := j) (by rw [nb_length]; exact hj); rwa [nb_length] at this
      rw [mkI_congr _ (fun j => (rk T j : Int)) _ (fun j hj => if_pos (hrl j hj))] at hr
      have HR := Lib.hid hr
      have HRL := Lib.hid hrl
      clear hr HQ hi hrl
      go_wp2_with (at_make; (refine wpList_mk (n := b.length) 22 i0 (.int .i64 0) _ _ rfl rfl _ _ _ _ rfl rfl Try.underlying22 i0a i0b i0c i0d rfl ?_ ?_ ?_ ?_ hS ?_); omega; omega; omega; (unfold maxLen; omega); intro go co w4 hro hS4)
      have HQ : Hid (RowC 3 1 (.slice (some ⟨go, 0, none⟩) b.length b.length) b.length (iv (mkI (fun k => if ch T k < 0 then (cm (nb b) T k : Int) else 0) b.length)) co ∧ St w.heap.size w w4 [co, cl]) := Lib.hid ⟨by
        rw [mkI_congr _ (fun _ => 0) _ (fun j _ => if_neg (by omega)), mkI_const, iv_replicate]
        exact hro, hS4⟩
      clear hro hS4 hS
      go_ways
      go_step3
      go_wp2_with fail
      go_loopg [9, 37] b.length (fun m s9 s37 wr => ∃ p : Nat, p + m = b.length ∧ s37 = .int .i64 (p : Int) ∧ ∃ h : Nat, s9 = .int .i64 (h : Int) ∧ h ≤ b.length ∧ Hid (p < b.length → 0 < rk T p → h ≤ lq (nb b) T p) ∧ ∃ co, Hid (RowC 3 1 (.slice (some ⟨go, 0, none⟩) b.length b.length) b.length (iv (mkI (fun k => if ch T k < p then (cm (nb b) T k : Int) else 0) b.length)) co ∧ St w.heap.size w wr [co, cl]))
      case atStart => exact ⟨0, by omega, rfl, 0, rfl, by omega, Lib.hid (fun _ _ => Nat.zero_le _), co, HQ⟩
      case round =>
        clear HQ
        obtain ⟨p, hp, rfl, h, rfl, hhn, HK, co, HQ⟩ := hrel
        have hro := HQ.out.1
        have hS := HQ.out.2
        cases gk with
        | zero =>
          obtain rfl : p = b.length := by omega
          have hall : ∀ k, k < b.length → ch T k < b.length := fun k hk => by
            have := HT.out.1.lt (ch_some T k (by rw [HT.out.2]; exact hk))
            rwa [nb_length] at this
          rw [mkI_congr _ (fun k => (cm (nb b) T k : Int)) _ (fun k hk => if_pos (hall k hk))] at hro
          have HE := Lib.hid (And.intro hro (hS.pick [0] (by decide) [co] rfl))
          clear hro hS HQ hall hp
          go_wp2_with fail
          go_ways
          go_ret
          exact ⟨_, co, rfl, HE.out⟩
        | succ m =>
          have hlt : p < b.length := by omega
          have hpl : (p : Int) < (b.length : Int) := by omega
          have hlr := HR.out.cellAt hS 1 rfl (iv_get _ p _ (mkI_get _ _ p hlt))
          have hrn := HRL.out p hlt
          have hrk := HT.out.1.rk_get (p := p) (by rw [nb_length]; exact hlt)
          cases hz : rk T p with
          | zero =>
            rw [hz] at hlr hrk
            have HZ := Lib.hid (And.intro hz hrk)
            clear hz hrk hrn
            go_wp2_with fail
            go_roundg m
            case measure => omega
            case rel =>
              rw [mkI_congr _ (fun k => if ch T k < p + 1 then (cm (nb b) T k : Int) else 0) _ (fun k hk => by
                by_cases e : ch T k = p
                · have hk0 : k = 0 := by
                    have := HT.out.1.rk_of (ch_some T k (by rw [HT.out.2]; exact hk))
                    rw [e, HZ.out.1] at this
                    exact this.symm
                  rw [if_neg (by omega), if_pos (by omega), hk0]
                  rfl
                · by_cases h2 : ch T k < p
                  · rw [if_pos h2, if_pos (by omega)]
                  · rw [if_neg h2, if_neg (by omega)])] at hro
              exact ⟨p + 1, by omega, by go_num, 0, rfl, by omega, Lib.hid (fun _ _ => Nat.zero_le _), co, Lib.hid ⟨hro, hS⟩⟩
          | succ r =>
            rw [hz] at hlr hrk hrn
            have hrT : r < T.length := by rw [HT.out.2]; omega
            have hTr := ch_some T r hrT
            have hqn : ch T r < b.length := by have := HT.out.1.lt hTr; rwa [nb_length] at this
            obtain ⟨ad, rfl, hcq⟩ := (HA.out.keep hS.below).at (iv_get _ r _ (tI_get T r hrT))
            have hrl : (r : Int) + 1 < (b.length : Int) := by omega
            have hlqe : lq (nb b) T p = lcp ((nb b).drop p) ((nb b).drop (ch T r)) := by unfold lq; rw [hz, Nat.add_sub_cancel]
            have hLn := lcp_len (nb b) p (ch T r)
            rw [nb_length] at hLn
            have hcm : cm (nb b) T (r + 1) = lcp ((nb b).drop p) ((nb b).drop (ch T r)) := by
              have := cm_rk HT.out.1 (p := p) (by rw [nb_length]; exact hlt)
              rw [hz, if_neg (Nat.succ_ne_zero _)] at this
              rw [this, hlqe]
            obtain ⟨adb, rfl, hx0⟩ := HB.out.at (bv_get b 0 _ (List.getElem?_eq_getElem (show 0 < b.length by omega)))
            clear hx0
            have HBC : Hid (∀ wx, Below w.heap.size w wx → ∀ k, k < b.length → wx.cell? (adb.add k) = some (.int .u8 (ch (nb b) k : Int))) := Lib.hid fun wx hb k hk => by
              obtain ⟨ad', e, hc⟩ := (HB.out.keep hb).at (bv_get b k _ (List.getElem?_eq_getElem hk))
              cases e
              rw [nb_at b k _ (List.getElem?_eq_getElem hk)]
              exact hc
            have hk0 := HK.out hlt (by omega)
            rw [hlqe] at hk0
            generalize ch T r = q at *
            have HH := Lib.hid (And.intro hz (And.intro hrk (And.intro hTr (And.intro hlqe hcm))))
            have H0 := Lib.hid (And.intro hk0 hS)
            have hqi : (q : Int) < (b.length : Int) := by omega
            have KEY : Hid (∀ wr h, lcp ((nb b).drop p) ((nb b).drop q) = h → St w.heap.size w wr [co, cl] → ∃ co', RowC 3 1 (.slice (some ⟨go, 0, none⟩) b.length b.length) b.length (iv (mkI (fun k => if ch T k < p + 1 then (cm (nb b) T k : Int) else 0) b.length)) co' ∧ St w.heap.size w (wr.setCell ⟨go, r + 1, none⟩ (.int .i64 (h : Int))) [co', cl]) := Lib.hid (by
              intro wr h hl hS
              obtain ⟨co', ho', hS'⟩ := hro.store hS 0 rfl rfl (r + 1) (.int .i64 (h : Int))
              refine ⟨co', ?_, hS'⟩
              rw [iv_set, mkI_set, mkI_congr _ (fun k => if ch T k < p + 1 then (cm (nb b) T k : Int) else 0) _ (fun k hk => by
                by_cases e : k = r + 1
                · subst e
                  rw [if_pos rfl, ch_get hrk, if_pos (by omega), hcm, hl]
                · rw [if_neg e]
                  have hne : ch T k ≠ p := by
                    intro h3
                    have h4 := HT.out.1.rk_of (ch_some T k (by rw [HT.out.2]; exact hk))
                    rw [h3, hz] at h4
                    exact e h4.symm
                  by_cases h2 : ch T k < p
                  · rw [if_pos h2, if_pos (by omega)]
                  · rw [if_neg h2, if_neg (by omega)])] at ho'
              exact ho')
            have HNX : Hid (∀ h, lcp ((nb b).drop p) ((nb b).drop q) = h → Hid (p + 1 < b.length → 0 < rk T (p + 1) → h - 1 ≤ lq (nb b) T (p + 1))) := Lib.hid (by
              intro h hl
              refine Lib.hid fun h1 h2 => ?_
              have := kasai HT.out.1 (p := p) (by rw [nb_length]; exact h1) (by omega) h2
              rwa [hlqe, hl] at this)
            have HRO := Lib.hid hro
            clear hk0 hS hTr hrk hz hlqe hcm HK HQ hlr hrT hro
            have hqc : wr.cell? (ad.add r) = some (.int .i64 (q : Int)) := hcq
            have hlr := HR.out.cellAt H0.out.2 1 rfl (iv_get _ p _ (mkI_get _ _ p hlt))
            rw [HH.out.1] at hlr
            clear hcq
            go_wp2_with fail
            go_loopg [9] (b.length + 1 - h) (fun j s9 wr => ∃ hv : Nat, hv + j = b.length + 1 ∧ s9 = .int .i64 (hv : Int) ∧ Hid (hv ≤ lcp ((nb b).drop p) ((nb b).drop q)) ∧ Hid (St w.heap.size w wr [co, cl]))
            case atStart => exact ⟨h, by omega, rfl, Lib.hid H0.out.1, Lib.hid H0.out.2⟩
            case round =>
              clear hqc hlr H0
              obtain ⟨hv, hh, rfl, HL, HS⟩ := hrel
              have hS := HS.out
              cases gk with
              | zero => exact absurd HL.out (by omega)
              | succ j =>
                have hhl := HL.out
                have hlr := HR.out.cellAt hS 1 rfl (iv_get _ p _ (mkI_get _ _ p hlt))
                rw [HH.out.1] at hlr
                have hlo := HRO.out.cellAt hS 0 rfl (iv_get _ (r + 1) _ (mkI_get _ _ (r + 1) (by omega)))
                rw [ch_get HH.out.2.1, if_neg (Nat.lt_irrefl p)] at hlo
                have hfo := HRO.out.freeAt hS 0 rfl (r + 1)
                have hhi : (hv : Int) ≤ 1000000 := by omega
                have HXX : Hid (Value.int .i64 (max ((hv : Int) - 1) 0) = Value.int .i64 ((hv - 1 : Nat) : Int)) := Lib.hid (by congr 1; omega)
                rcases Nat.lt_or_ge (p + hv) b.length with c1 | c1
                · rcases Nat.lt_or_ge (q + hv) b.length with c2 | c2
                  · have hc1 : (p : Int) + (hv : Int) < (b.length : Int) := by omega
                    have hd1 : ¬ (b.length : Int) ≤ (p : Int) + (hv : Int) := by omega
                    have hc2 : (q : Int) + (hv : Int) < (b.length : Int) := by omega
                    have hd2 : ¬ (b.length : Int) ≤ (q : Int) + (hv : Int) := by omega
                    have hb1 := HBC.out wr hS.below (p + hv) c1
                    have hb2 := HBC.out wr hS.below (q + hv) c2
                    by_cases he : ch (nb b) (p + hv) = ch (nb b) (q + hv)
                    · have hne : (((ch (nb b) (p + hv) : Nat) : Int) != ((ch (nb b) (q + hv) : Nat) : Int)) = false := by rw [he]; simp
                      have HMO : Hid (hv + 1 ≤ lcp ((nb b).drop p) ((nb b).drop q)) := Lib.hid (lcp_more (nb b) hv p q hhl (by rw [nb_length]; exact c1) (by rw [nb_length]; exact c2) he)
                      clear he
                      go_wp2_with (first | ((with_reducible refine wpStill_plain ?_ ?_ (fun _ _ => ?_)); rfl; rfl) | (with_reducible refine wpStill_nil ?_) | ((with_reducible refine wpStill_wantg 6 false ?_ ?_ ?_ (fun _ _ => ?_)); rfl; kernel_rfl; rfl) | ((with_reducible refine wpStill_wantg 14 false ?_ ?_ ?_ (fun _ _ => ?_)); rfl; kernel_rfl; rfl) | ((with_reducible refine wp_draw_all (id := 17) mixed ?_ (fun _ _ => ?_)); kernel_rfl))
                      go_roundg j
                      case measure => omega
                      case rel => exact ⟨hv + 1, by omega, by go_num, HMO, Lib.hid hS.drew⟩
                    · have hne : (((ch (nb b) (p + hv) : Nat) : Int) != ((ch (nb b) (q + hv) : Nat) : Int)) = true := by simp; omega
                      have HEQ : Hid (lcp ((nb b).drop p) ((nb b).drop q) = hv) := Lib.hid (lcp_end (nb b) hv p q hhl (fun _ _ => he))
                      clear he
                      go_wp2_with (first | ((with_reducible refine wpStill_plain ?_ ?_ (fun _ _ => ?_)); rfl; rfl) | (with_reducible refine wpStill_nil ?_) | ((with_reducible refine wpStill_wantg 6 false ?_ ?_ ?_ (fun _ _ => ?_)); rfl; kernel_rfl; rfl) | ((with_reducible refine wpStill_wantg 14 false ?_ ?_ ?_ (fun _ _ => ?_)); rfl; kernel_rfl; rfl) | ((with_reducible refine wp_draw_all (id := 17) mixed ?_ (fun _ _ => ?_)); kernel_rfl))
                      all_goals go_roundg m
                      all_goals first
                        | omega
                        | (obtain ⟨co', ho', hS'⟩ := KEY.out _ hv HEQ.out hS
                           exact ⟨p + 1, by omega, by go_num, hv - 1, by congr 1; omega, by omega, HNX.out hv HEQ.out, co', Lib.hid ⟨ho', hS'.drew⟩⟩)
                  · have hc1 : (p : Int) + (hv : Int) < (b.length : Int) := by omega
                    have hd1 : ¬ (b.length : Int) ≤ (p : Int) + (hv : Int) := by omega
                    have hc2 : (b.length : Int) ≤ (q : Int) + (hv : Int) := by omega
                    have HEQ : Hid (lcp ((nb b).drop p) ((nb b).drop q) = hv) := Lib.hid (lcp_end (nb b) hv p q hhl (fun _ h1 => by rw [nb_length] at h1; omega))
                    go_wp2_with (first | ((with_reducible refine wpStill_plain ?_ ?_ (fun _ _ => ?_)); rfl; rfl) | (with_reducible refine wpStill_nil ?_) | ((with_reducible refine wpStill_wantg 6 false ?_ ?_ ?_ (fun _ _ => ?_)); rfl; kernel_rfl; rfl) | ((with_reducible refine wpStill_skipg 14 false ?_ ?_ (fun _ _ => ?_)); rfl; kernel_rfl) | ((with_reducible refine wp_draw_all (id := 17) mixed ?_ (fun _ _ => ?_)); kernel_rfl))
                    all_goals go_roundg m
                    all_goals first
                      | omega
                      | (obtain ⟨co', ho', hS'⟩ := KEY.out _ hv HEQ.out hS
                         exact ⟨p + 1, by omega, by go_num, hv - 1, by congr 1; omega, by omega, HNX.out hv HEQ.out, co', Lib.hid ⟨ho', hS'.drew⟩⟩)
                · have hc1 : (b.length : Int) ≤ (p : Int) + (hv : Int) := by omega
                  have HEQ : Hid (lcp ((nb b).drop p) ((nb b).drop q) = hv) := Lib.hid (lcp_end (nb b) hv p q hhl (fun h1 _ => by rw [nb_length] at h1; omega))
                  go_wp2_with (first | ((with_reducible refine wpStill_plain ?_ ?_ (fun _ _ => ?_)); rfl; rfl) | (with_reducible refine wpStill_nil ?_) | ((with_reducible refine wpStill_skipg 6 false ?_ ?_ (fun _ _ => ?_)); rfl; kernel_rfl) | ((with_reducible refine wpStill_skipg 14 false ?_ ?_ (fun _ _ => ?_)); rfl; kernel_rfl) | ((with_reducible refine wp_draw_all (id := 17) mixed ?_ (fun _ _ => ?_)); kernel_rfl))
                  all_goals go_roundg m
                  all_goals first
                    | omega
                    | (obtain ⟨co', ho', hS'⟩ := KEY.out _ hv HEQ.out hS
                       exact ⟨p + 1, by omega, by go_num, hv - 1, by congr 1; omega, by omega, HNX.out hv HEQ.out, co', Lib.hid ⟨ho', hS'.drew⟩⟩)
    | succ m =>
      have hlt : i < b.length := by omega
      have hil : (i : Int) < (b.length : Int) := by omega
      have hTi := ch_some T i (by rw [HT.out.2]; exact hlt)
      have hci : ch T i < b.length := by have := HT.out.1.lt hTi; rwa [nb_length] at this
      have hcl : (ch T i : Int) < (b.length : Int) := by omega
      obtain ⟨ad, rfl, hc⟩ := (HA.out.keep hS.below).at (iv_get _ i _ (tI_get T i (by rw [HT.out.2]; exact hlt)))
      have hfr := hr.freeAt hS 0 rfl (ch T i)
      have hlr := hr.cellAt hS 0 rfl (iv_get _ (ch T i) _ (mkI_get _ _ (ch T i) hci))
      have HTi := Lib.hid hTi
      generalize (if rk T (ch T i) < i then (rk T (ch T i) : Int) else 0) = z at hlr
      clear hTi
      go_wp2_with fail
      go_roundg m
      case measure => omega
      case rel =>
        obtain ⟨c', hr', hS'⟩ := hr.store hS 0 rfl rfl (ch T i) (.int .i64 (i : Int))
        have hri := HT.out.1.rk_of HTi.out
        rw [iv_set, mkI_set, mkI_congr _ (fun j => if rk T j < i + 1 then (rk T j : Int) else 0) _ (fun j hj => by
          by_cases e : j = ch T i
          · rw [if_pos e, e, hri, if_pos (by omega)]
          · rw [if_neg e]
            have hne : rk T j ≠ i := by
              intro h
              have := HT.out.1.rk_get (p := j) (by rw [nb_length]; exact hj)
              rw [h] at this
              exact e (ch_get this).symm
            by_cases h2 : rk T j < i
            · rw [if_pos h2, if_pos (by omega)]
            · rw [if_neg h2, if_neg (by omega)])] at hr'
        exact ⟨i + 1, by omega, by go_num, c', Lib.hid ⟨hr', hS'⟩⟩
end Go.Proofs.Ytdgpbgdpdmikaaa

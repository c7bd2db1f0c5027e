/-
  Contracts of the reference's before, Suffixes.
-/
import Derived.Test.YtdgpbgdpdmikaabSufSort
import Derived.Test.YtdgpbgdpdmikaabPureSufRef
import Derived.Test.YtdgpbgdpdmikaabAppG
set_option linter.unusedVariables false
set_option linter.unusedSimpArgs false
namespace Go.Proofs.Ytdgpbgdpdmikaab
open Go.RowKit
set_option maxRecDepth 100000
set_option maxHeartbeats 2000000 in
theorem before_any (b : List UInt8) (vb : Value) (i j : Nat) (w : World) (hn : b.length ≤ 1000000) (hb : Rd w 1 vb b.length (bv b)) (hi : i ≤ b.length) (hj : j ≤ b.length) :
    Calls Try.prog 40 #[vb, .int .i64 (i : Int), .int .i64 (j : Int)] w fun e w' => e = .returned (.bool (lexlt ((nb b).drop i) ((nb b).drop j))) ∧ Drew w w' := by
  obtain ⟨ao, cap, rfl⟩ := hb.shape
  have hat : ∀ ad, ao = some ad → ∀ k, k < b.length → w.cell? (ad.add k) = some (.int .u8 (ch (nb b) k : Int)) := by
    rintro ad rfl k hk
    obtain ⟨ad', e, hc⟩ := hb.at (bv_get b k _ (List.getElem?_eq_getElem hk))
    cases e
    rw [nb_at b k _ (List.getElem?_eq_getElem hk)]
    exact hc
  have hno : ao = none → b.length = 0 := by rintro rfl; exact hb.none_iff.1
  have HAT := Lib.hid hat
  have HNO := Lib.hid hno
  have hnl : (b.length : Int) ≤ 1000000 := by omega
  have hl : (nb b).length = b.length := nb_length b
  generalize nb b = s at *
  have HL := Lib.hid hl
  clear hat hb hno hl
  go_enter Try.func40, Try.ntmps40
  go_wp2_with fail
  go_loopg [1, 2] (b.length - i) (fun m s1 s2 wr => ∃ k : Nat, i + k + m = b.length ∧ j + k ≤ b.length ∧ s1 = .int .i64 ((i : Int) + (k : Int)) ∧ s2 = .int .i64 ((j : Int) + (k : Int)) ∧ Hid (lexlt (s.drop i) (s.drop j) = lexlt (s.drop (i + k)) (s.drop (j + k))) ∧ Drew w wr)
  case atStart => exact ⟨0, by omega, by omega, by simp, by simp, Lib.hid rfl, Drew.refl _⟩
  case round =>
    obtain ⟨k, hk, hjk, rfl, rfl, HX, hd⟩ := hrel
    obtain ⟨nd, rfl⟩ := hd.out
    rcases Nat.lt_or_ge (i + k) b.length with c1 | c1
    · have q1 : (i : Int) + (k : Int) < (b.length : Int) := by omega
      have q1' : ¬ (b.length : Int) ≤ (i : Int) + (k : Int) := by omega
      rcases Nat.lt_or_ge (j + k) b.length with c2 | c2
      · have q2 : (j : Int) + (k : Int) < (b.length : Int) := by omega
        obtain ⟨ad, rfl⟩ : ∃ ad, ao = some ad := by
          cases ao with
          | none => have := HNO.out rfl; omega
          | some ad => exact ⟨ad, rfl⟩
        have h1 := HAT.out ad rfl (i + k) c1
        have h2 := HAT.out ad rfl (j + k) c2
        have HS := Lib.hid (lex_step s (i + k) (j + k) (by rw [HL.out]; exact c1) (by rw [HL.out]; exact c2))
        by_cases qc : ch s (i + k) = ch s (j + k)
        · have q3 : (((ch s (i + k) : Nat) : Int) != ((ch s (j + k) : Nat) : Int)) = false := by rw [qc]; simp
          have HQ := Lib.hid qc
          clear qc
          go_wp2_with (first | ((with_reducible refine wpStill_plain ?_ ?_ (fun _ _ => ?_)); rfl; rfl) | (with_reducible refine wpStill_nil ?_) | ((with_reducible refine wp_draw_all (id := 2) mixed ?_ (fun _ _ => ?_)); kernel_rfl))
          cases gk with
          | zero => omega
          | succ m =>
            go_roundg m
            case measure => omega
            case rel => exact ⟨k + 1, by omega, by omega, by go_num, by go_num, Lib.hid (by rw [HX.out, HS.out, if_pos HQ.out]; rfl), Drew.mk _ (nd + 1)⟩
        · have q3 : (((ch s (i + k) : Nat) : Int) != ((ch s (j + k) : Nat) : Int)) = true := by simp; omega
          have HR := Lib.hid (HX.out.trans HS.out)
          rw [if_neg qc] at HR
          clear qc
          go_wp2_with (first | ((with_reducible refine wpStill_plain ?_ ?_ (fun _ _ => ?_)); rfl; rfl) | (with_reducible refine wpStill_nil ?_) | ((with_reducible refine wp_draw_all (id := 2) mixed ?_ (fun _ _ => ?_)); kernel_rfl) | ((with_reducible refine wp_draw_all (id := 3) mixed ?_ (fun _ _ => ?_)); kernel_rfl))
          go_ret
          exact ⟨by rw [HR.out]; simp, Drew.mk _ (nd + 2)⟩
      · have q2 : ¬ (j : Int) + (k : Int) < (b.length : Int) := by omega
        have HR := Lib.hid (HX.out.trans (lex_end s (i + k) (j + k) (by rw [HL.out]; omega)))
        rw [HL.out] at HR
        go_wp2_with fail
        go_ret
        exact ⟨by rw [HR.out]; simp [Nat.not_lt.2 c2], Drew.mk _ nd⟩
    · have q1 : ¬ (i : Int) + (k : Int) < (b.length : Int) := by omega
      have q1' : (b.length : Int) ≤ (i : Int) + (k : Int) := by omega
      have HR := Lib.hid (HX.out.trans (lex_end s (i + k) (j + k) (by rw [HL.out]; omega)))
      rw [HL.out] at HR
      rcases Nat.lt_or_ge (j + k) b.length with c2 | c2
      · have q2 : (j : Int) + (k : Int) < (b.length : Int) := by omega
        go_wp2_with fail
        go_ret
        exact ⟨by rw [HR.out]; simp [c1, c2], Drew.mk _ nd⟩
      · have q2 : ¬ (j : Int) + (k : Int) < (b.length : Int) := by omega
        go_wp2_with fail
        go_ret
        exact ⟨by rw [HR.out]; simp [Nat.not_lt.2 c2], Drew.mk _ nd⟩
theorem tI_insert (l : List Nat) (k x : Nat) : (iv (tI l)).take (k * 1) ++ ([Value.int .i64 (x : Int)] ++ (iv (tI l)).drop (k * 1)) = iv (tI (l.take k ++ [x] ++ l.drop k)) := by
  simp [iv, tI, List.map_take, List.map_drop]
theorem insert_len (l : List Nat) (k x : Nat) (hk : k ≤ l.length) : (l.take k ++ [x] ++ l.drop k).length = l.length + 1 := by
  simp
  omega
set_option maxHeartbeats 4000000 in
theorem refsuffixes_any (b : List UInt8) (vb : Value) (w : World) (hn : b.length ≤ 1000000) (hb : Rd w 1 vb b.length (bv b)) :
    Calls Try.prog 30 #[vb] w (SortOut b w) := by
  obtain ⟨i0, i0a, i0b, i0c, i0d⟩ := info_parts infoInt
  obtain ⟨ao, cap, rfl⟩ := hb.shape
  have HB := Lib.hid hb
  have hnl : (b.length : Int) ≤ 1000000 := by omega
  clear hb
  go_enter Try.func30, Try.ntmps30
  go_wp2_with fail
  go_loopg [3, 4] b.length (fun m s3 s4 wr => m ≤ b.length ∧ s4 = .int .i64 ((m : Int) - 1) ∧ ∃ l c, RowC 3 1 s3 l.length (iv (tI l)) c ∧ St w.heap.size w wr [c] ∧ m + l.length = b.length ∧ Hid (SufL (nb b) m l))
  case atStart => exact ⟨Nat.le_refl _, rfl, [], [], RowC.nil _ _, (St.init w).one_nil, by simp, Lib.hid (by have := SufL.nil (nb b); rwa [nb_length] at this)⟩
  case round =>
    obtain ⟨hm, rfl, l, c, hr, hS, hll, HL⟩ := hrel
    obtain ⟨ao2, cap2, rfl⟩ := hr.shape
    cases gk with
    | zero =>
      have hz : ¬ (0 : Int) ≤ ((0 : Nat) : Int) - 1 := by omega
      go_wp2_with fail
      go_ret
      have hle : l.length = b.length := by omega
      exact ⟨.slice ao2 l.length cap2, l, c, rfl, by rw [← hle]; exact hr, hle, hS, HL.out.isSA⟩
    | succ i =>
      have e1 : ((i + 1 : Nat) : Int) - 1 = (i : Int) := by omega
      rw [e1]
      clear e1
      have hil : i < b.length := by omega
      have hi0 : (0 : Int) ≤ (i : Int) := by omega
      have hll' : l.length ≤ 1000000 := by omega
      go_wp2_with fail
      go_loopg [5, 6] l.length (fun m2 s5 s6 wk => ∃ lo hi : Nat, hi ≤ lo + m2 ∧ lo ≤ hi ∧ hi ≤ l.length ∧ s5 = .int .i64 (lo : Int) ∧ s6 = .int .i64 (hi : Int) ∧ Hid (SufB (nb b) i l lo hi) ∧ St w.heap.size w wk [c])
      case atStart => exact ⟨0, l.length, by omega, by omega, by omega, rfl, rfl, Lib.hid (SufB.init _ _ _), hS⟩
      case round =>
        clear hS
        obtain ⟨lo, hi, h1, h2, h3, rfl, rfl, HBI, hS⟩ := hrel
        rcases Nat.lt_or_ge lo hi with c1 | c1
        · have q1 : (lo : Int) < (hi : Int) := by omega
          have hml : (lo + hi) / 2 < l.length := by omega
          have hlm := ch_some l ((lo + hi) / 2) hml
          have hmb := HL.out.mem hlm
          rw [nb_length] at hmb
          obtain ⟨g, hg⟩ := hr.head (by omega)
          subst hg
          have hcell := hr.cellAt hS 0 rfl (iv_get _ _ _ (tI_get l ((lo + hi) / 2) hml))
          have hmi : ((lo : Int) + (hi : Int)) / 2 < (l.length : Int) := by omega
          have hmi2 : (((lo + hi) / 2 : Nat) : Int) < (l.length : Int) := by omega
          have HM := Lib.hid hlm
          clear hlm
          go_wp2_with fail
          refine (before_any b _ (ch l ((lo + hi) / 2)) i wr hn (HB.out.keep hS.below) (by omega) (by omega)).mono ?_
          rintro e w2 ⟨rfl, hd⟩
          replace hS := hS.Drew hd
          clear hd hcell
          cases hq : lexlt ((nb b).drop (ch l ((lo + hi) / 2))) ((nb b).drop i) with
          | true =>
            have HU := Lib.hid (HBI.out.up HL.out HM.out hq)
            clear hq
            go_wp2_with fail
            cases gk with
            | zero => omega
            | succ m2 =>
              go_roundg m2
              case measure => omega
              case rel => exact ⟨(lo + hi) / 2 + 1, hi, by omega, by omega, h3, by go_num, rfl, HU, hS⟩
          | false =>
            have HU := Lib.hid (HBI.out.down HL.out HM.out hq)
            clear hq
            go_wp2_with fail
            cases gk with
            | zero => omega
            | succ m2 =>
              go_roundg m2
              case measure => omega
              case rel => exact ⟨lo, (lo + hi) / 2, by omega, by omega, by omega, rfl, by go_num, HU, hS⟩
        · obtain rfl : hi = lo := by omega
          have q1 : ¬ (hi : Int) < (hi : Int) := by omega
          have hki : (hi : Int) ≤ (l.length : Int) := by omega
          clear h1 h2 c1
          have hll63 : l.length + 1 ≤ maxLen := by unfold maxLen; omega
          have HINS := Lib.hid (HL.out.insert (by rw [nb_length]; exact hil) h3 HBI.out)
          have hsz : 8 * (l.length + 1) ≤ 140737488355328 := by omega
          have hSa := hS.drew.alloc (.cells #[.int .i64 (i : Int)] 3)
          have hrow : RowC 3 1 (.slice (some ⟨wr.heap.size, 0, none⟩) 1 1) 1 [.int .i64 (i : Int)] [(wr.heap.size, .cells #[.int .i64 (i : Int)] 3 (0, 0))] := RowC.fresh wr.heap.size [.int .i64 (i : Int)] rfl (Nat.le_refl 1) (by simp [maxLen]) rfl rfl
          have hrd := hr.rd hSa 1 rfl
          have hone : ∀ u ∈ (iv (tI l)).drop (hi * 1), u.oneCell' = true := by
            intro u hu
            obtain ⟨b, _, rfl⟩ := List.mem_map.1 (List.mem_of_mem_drop hu)
            rfl
          have hcp := hrd.cap
          have hkc : (hi : Int) ≤ (cap2 : Int) := by omega
          have FIN : ∀ (v1 : Value) (c1 c0 : List (Nat × Obj)) (w2 : World), RowC 3 1 v1 (hi + (1 + (l.length - hi))) ((iv (tI l)).take (hi * 1) ++ ([Value.int .i64 (i : Int)] ++ (iv (tI l)).drop (hi * 1))) c1 → St w.heap.size w w2 [c1, c0, c] →
              ∃ l' c', RowC 3 1 v1 l'.length (iv (tI l')) c' ∧ St w.heap.size w w2 [c'] ∧ i + l'.length = b.length ∧ Hid (SufL (nb b) i l') := by
            intro v1 c1 c0 w2 hr1 hS2
            rw [tI_insert l hi i, show hi + (1 + (l.length - hi)) = l.length + 1 from by omega, ← insert_len l hi i h3] at hr1
            exact ⟨_, c1, hr1, hS2.pick [0] (by decide) [c1] rfl, by rw [insert_len l hi i h3]; omega, HINS⟩
          have HFIN := Lib.hid FIN
          clear FIN
          by_cases hck : cap2 = hi
          · subst hck
            obtain rfl : cap2 = l.length := by omega
            cases ao2 with
            | some g =>
              have hdrop : Rd (wr.drew.alloc (.cells #[.int .i64 (i : Int)] 3)) 1 (.slice (some g) (l.length - l.length) (l.length - l.length)) (l.length - l.length) ((iv (tI l)).drop (l.length * 1)) := hrd.drop l.length (by omega) (fun h => absurd rfl h) (fun e => rfl)
              rw [Nat.sub_self] at hdrop
              go_wp2_with fail
              go_region_law (first | (refine step_app (n := 1) (m := 0) (xs := [.int .i64 (i : Int)]) (news := (iv (tI l)).drop (l.length * 1)) 0 37 i0 (.int .i64 0) _ _ rfl rfl rfl rfl Try.underlying37 i0a i0b i0c i0d rfl (by decide) hSa rfl hrow hdrop hone (by unfold maxLen; omega) (by omega) (fun v0 c0 w0 hr0 hS0 => ?_)) | (refine step_appG (vx := v0) (n := l.length) (m := 1 + 0) (xs := (iv (tI l)).take (l.length * 1)) (news := [.int .i64 (i : Int)] ++ (iv (tI l)).drop (l.length * 1)) 37 i0 (.int .i64 0) _ _ rfl rfl rfl rfl Try.underlying37 i0a i0b i0c i0d rfl (by decide) hS0 ((hr.rd hS0 1 rfl).capTo l.length (by omega)) (hr0.rd hS0 0 rfl) (by omega) (by omega) (by unfold maxLen; omega) (by omega) (fun v1 c1 w2 hr1 hS2 => ?_)))
              go_wp2_with fail
              go_roundg i
              case measure => omega
              case rel => exact ⟨by omega, by go_num, HFIN.out v1 c1 c0 w2 (by rw [Nat.sub_self]; exact hr1) hS2⟩
            | none =>
              obtain ⟨h00, h01, h02⟩ := hrd.none_iff
              have hl0 : l = [] := by simpa [iv, tI] using h02
              subst hl0
              go_wp2_with fail
              go_region_law (first | (refine step_app (n := 1) (m := 0) (xs := [.int .i64 (i : Int)]) (news := []) 0 37 i0 (.int .i64 0) _ _ rfl rfl rfl rfl Try.underlying37 i0a i0b i0c i0d rfl (by decide) hSa rfl hrow (Rd.nil _ 1) (by simp) (by unfold maxLen; omega) (by omega) (fun v0 c0 w0 hr0 hS0 => ?_)) | (refine step_appG (vx := v0) (n := 0) (m := 1 + 0) (xs := []) (news := [.int .i64 (i : Int)] ++ []) 37 i0 (.int .i64 0) _ _ rfl rfl rfl rfl Try.underlying37 i0a i0b i0c i0d rfl (by decide) hS0 (Rd.nil _ 1) (hr0.rd hS0 0 rfl) (by omega) (by omega) (by unfold maxLen; omega) (by omega) (fun v1 c1 w2 hr1 hS2 => ?_)))
              go_wp2_with fail
              go_roundg i
              case measure => omega
              case rel => exact ⟨by omega, by go_num, HFIN.out v1 c1 c0 w2 hr1 hS2⟩
          · obtain ⟨g, hg⟩ : ∃ g, ao2 = some g := by
              cases ao2 with
              | none => have := hrd.none_iff; omega
              | some g => exact ⟨g, rfl⟩
            subst hg
            have hdrop : Rd (wr.drew.alloc (.cells #[.int .i64 (i : Int)] 3)) 1 (.slice (some (g.add hi)) (l.length - hi) (cap2 - hi)) (l.length - hi) ((iv (tI l)).drop (hi * 1)) := hrd.drop hi (by omega) (fun _ => by simp) (fun e => absurd e hck)
            go_wp2_with fail
            go_region_law (first | (refine step_app (n := 1) (m := l.length - hi) (xs := [.int .i64 (i : Int)]) (news := (iv (tI l)).drop (hi * 1)) 0 37 i0 (.int .i64 0) _ _ rfl rfl rfl rfl Try.underlying37 i0a i0b i0c i0d rfl (by decide) hSa rfl hrow hdrop hone (by unfold maxLen; omega) (by omega) (fun v0 c0 w0 hr0 hS0 => ?_)) | (refine step_appG (vx := v0) (n := hi) (m := 1 + (l.length - hi)) (xs := (iv (tI l)).take (hi * 1)) (news := [.int .i64 (i : Int)] ++ (iv (tI l)).drop (hi * 1)) 37 i0 (.int .i64 0) _ _ rfl rfl rfl rfl Try.underlying37 i0a i0b i0c i0d rfl (by decide) hS0 ((hr.rd hS0 1 rfl).capTo hi (by omega)) (hr0.rd hS0 0 rfl) (by omega) (by omega) (by unfold maxLen; omega) (by omega) (fun v1 c1 w2 hr1 hS2 => ?_)))
            go_wp2_with fail
            go_roundg i
            case measure => omega
            case rel => exact ⟨by omega, by go_num, HFIN.out v1 c1 c0 w2 hr1 hS2⟩
end Go.Proofs.Ytdgpbgdpdmikaab

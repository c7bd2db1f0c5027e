/-
  Contracts of bwt.Forward and the reference's Forward.
-/
import Derived.Test.YtdgpbgdpdmikaabBwtBack
import Derived.Test.YtdgpbgdpdmikaabSufRef
set_option linter.unusedVariables false
set_option linter.unusedSimpArgs false
namespace Go.Proofs.Ytdgpbgdpdmikaab
open Go.RowKit
set_option maxRecDepth 100000
/-- The place of the whole among the rows. -/
def atF (n : Nat) (T : List Nat) : Nat := (n :: T).idxOf 0
def FwdOut (b : List UInt8) (w : World) (e : Ending) (w' : World) : Prop :=
  ∃ (T : List Nat) (v : Value) (c : HL) (L : List UInt8), IsSA (nb b) T ∧ e = .returned (.tuple #[v, .int .i64 (atF b.length T : Int)]) ∧ RowC 5 1 v L.length (bv L) c ∧ nb L = fwdN (nb b) (b.length :: T) ∧ St w.heap.size w w' [c]
/-- How far the bytes and the place have come. -/
def fwP (s T : List Nat) (i : Nat) : List Nat := fwdN s (s.length :: T.take i)
def faP (T : List Nat) (i : Nat) : Nat := if T.idxOf 0 < i then T.idxOf 0 + 1 else 0
theorem fwP_step {s T : List Nat} {i p : Nat} (h : T[i]? = some p) : fwP s T (i + 1) = fwP s T i ++ (if p = 0 then [] else [ch s (p - 1)]) := by
  unfold fwP fwdN
  rw [List.take_add_one, h, ← List.cons_append, List.filter_append, List.map_append]
  congr 1
  by_cases e : p = 0
  · subst e; rfl
  · simp [e]
theorem fwP_zero {s T : List Nat} (h : s.length ≠ 0) : fwP s T 0 = [ch s (s.length - 1)] := by
  unfold fwP fwdN
  rw [List.take_zero, List.filter_cons, if_pos (by simpa using h)]
  rfl
theorem faP_step {s T : List Nat} {i p : Nat} (hT : IsSA s T) (h : T[i]? = some p) : faP T (i + 1) = if p = 0 then i + 1 else faP T i := by
  unfold faP
  by_cases e : p = 0
  · subst e
    have : T.idxOf 0 = i := hT.rk_of h
    rw [if_pos rfl, this, if_pos (Nat.lt_succ_self _)]
  · rw [if_neg e]
    have hne : T.idxOf 0 ≠ i := by
      intro e2
      have hl := (List.getElem?_eq_some_iff.1 h).1
      have hs : 0 < s.length := by have := hT.len; omega
      have := hT.rk_get (p := 0) hs
      unfold rk at this
      rw [e2, h] at this
      cases this
      exact e rfl
    by_cases c : T.idxOf 0 < i
    · rw [if_pos c, if_pos (by omega)]
    · rw [if_neg c, if_neg (by omega)]
theorem faP_end {s T : List Nat} (hT : IsSA s T) (h : 0 < s.length) : faP T s.length = (s.length :: T).idxOf 0 := by
  unfold faP
  have hl : T.idxOf 0 < s.length := hT.rk_lt h
  rw [if_pos hl, List.idxOf_cons]
  have : (s.length == 0) = false := beq_eq_false_iff_ne.2 (by omega)
  rw [this]
  rfl
theorem fw_snoc (L : List UInt8) (x : UInt8) : bv L ++ [Value.int .u8 (x.toNat : Int)] = bv (L ++ [x]) := by simp [bv]
theorem faP_le (T : List Nat) (i : Nat) : faP T i ≤ i := by unfold faP; split <;> omega
set_option maxHeartbeats 4000000 in
theorem forward_any (b : List UInt8) (v : Value) (w : World) (hn : b.length ≤ 1000000) (hb : Rd w 1 v b.length (bv b)) :
    Calls Try.prog 17 #[v] w (FwdOut b w) := by
  obtain ⟨i0, i0a, i0b, i0c, i0d⟩ := info_parts infoU8
  obtain ⟨ao, cap, rfl⟩ := hb.shape
  have hnl : (b.length : Int) ≤ 1000000 := by omega
  have HB := Lib.hid hb
  have hS0 := St.init w
  clear hb
  by_cases h0 : b.length = 0
  · have hl0 : b = [] := List.eq_nil_of_length_eq_zero h0
    subst hl0
    go_enter Try.func17, Try.ntmps17
    go_wp2_with fail
    go_ret2
    exact ⟨[], _, [], [], ⟨List.Perm.refl _, List.Pairwise.nil⟩, rfl, RowC.nil _ _, rfl, hS0.one_nil⟩
  · have hl1 : ((b.length : Int) == 0) = false := by simp; exact fun e => h0 (by rw [e]; rfl)
    have hsl := nb_length b
    have hbl : (b.length : Int) - 1 < (b.length : Int) := by omega
    have hb0 : 0 < b.length := by omega
    have hlast : b[b.length - 1]? = some (b.getD (b.length - 1) 0) := by
      rw [List.getD_eq_getElem?_getD, List.getElem?_eq_getElem (show b.length - 1 < b.length by omega)]
      rfl
    obtain ⟨ad, rfl, hc⟩ := HB.out.at (bv_get b _ _ hlast)
    have hS1 := hS0.alloc (.cells #[.int .u8 ((b.getD (b.length - 1) 0).toNat : Int)] 5)
    have hone : RowC 5 1 (.slice (some ⟨w.heap.size, 0, none⟩) 1 1) 1 (bv [b.getD (b.length - 1) 0]) [(w.heap.size, .cells #[.int .u8 ((b.getD (b.length - 1) 0).toNat : Int)] 5 (0, 0))] := RowC.fresh w.heap.size (bv [b.getD (b.length - 1) 0]) rfl (Nat.le_refl 1) (by simp [maxLen]) rfl rfl
    have H1 := Lib.hid (And.intro hS1 hone)
    have H0 := Lib.hid h0
    clear hS1 hone hlast h0 hS0
    go_enter Try.func17, Try.ntmps17
    go_wp2_with fail
    refine (sort_any b _ _ hn (HB.out.keep H1.out.1.below)).mono ?_
    rintro e w2 ⟨v2, T, c2, rfl, hr2, hTl, hS2, hsa⟩
    obtain ⟨ao2, cap2, rfl⟩ := hr2.shape
    have hS3 := H1.out.1.join hS2
    have HT := Lib.hid (And.intro hr2 (And.intro hTl hsa))
    have HQ : Hid (RowC 5 1 (.slice (some ⟨w.heap.size, 0, none⟩) 1 1) [b.getD (b.length - 1) 0].length (bv [b.getD (b.length - 1) 0]) [(w.heap.size, .cells #[.int .u8 ((b.getD (b.length - 1) 0).toNat : Int)] 5 (0, 0))] ∧ nb [b.getD (b.length - 1) 0] = fwP (nb b) T 0) := Lib.hid ⟨H1.out.2, by
      rw [fwP_zero (by rw [hsl]; exact H0.out), hsl, ch_nb]
      rfl⟩
    clear hr2 hTl hS2 hsa hc
    generalize b.getD (b.length - 1) 0 = x0 at *
    go_wp2_with fail
    go_loopg [4, 5, 21] b.length (fun m s4 s5 s21 wr => ∃ i : Nat, i + m = b.length ∧ s21 = .int .i64 (i : Int) ∧ s5 = .int .i64 (faP T i : Int) ∧ ∃ (L : List UInt8) (c : List (Nat × Obj)), RowC 5 1 s4 L.length (bv L) c ∧ Hid (nb L = fwP (nb b) T i) ∧ L.length ≤ i + 1 ∧ St w.heap.size w wr [c2, c])
    case atStart => exact ⟨0, by omega, rfl, rfl, [x0], _, HQ.out.1, Lib.hid HQ.out.2, by simp, hS3⟩
    case round =>
      clear hS3 HQ
      obtain ⟨i, hi, rfl, rfl, L, c, hr, HL, hLl, hS⟩ := hrel
      obtain ⟨ao3, cap3, rfl⟩ := hr.shape
      cases gk with
      | zero =>
        have hib : i = b.length := by omega
        have hz : ¬ (i : Int) < (b.length : Int) := by omega
        have HI := Lib.hid hib
        clear hi hib
        go_wp2_with fail
        go_ret2
        refine ⟨T, .slice ao3 L.length cap3, c, L, HT.out.2.2, ?_, hr, ?_, hS.pick [1] (by decide) [c] rfl⟩
        · have : faP T (nb b).length = atF (nb b).length T := faP_end HT.out.2.2 (by rw [hsl]; exact hb0)
          rw [hsl] at this
          rw [← this, HI.out]
          rfl
        · rw [HL.out, fwP, HI.out, hsl, List.take_of_length_le (by rw [HT.out.2.1]; exact Nat.le_refl _)]
      | succ m =>
        have hib : i < b.length := by omega
        have hii : (i : Int) < (b.length : Int) := by omega
        have hTi := ch_some T i (by rw [HT.out.2.1]; exact hib)
        have hpl : ch T i < b.length := by have := HT.out.2.2.lt hTi; rwa [nb_length] at this
        obtain ⟨g2, rfl⟩ := HT.out.1.head (by omega)
        have hcT := HT.out.1.cellAt hS 0 rfl (iv_get _ i _ (tI_get T i (by rw [HT.out.2.1]; exact hib)))
        have hst := fwP_step (s := nb b) hTi
        have hfa := faP_step HT.out.2.2 hTi
        have hle := faP_le T i
        generalize ch T i = p at *
        by_cases hp : p = 0
        · have q1 : ((p : Int) == 0) = true := by rw [hp]; rfl
          rw [if_pos hp] at hst hfa
          have HST := Lib.hid (And.intro hst hfa)
          clear hst hfa hTi hp
          go_wp2_with fail
          go_roundg m
          case measure => omega
          case rel => exact ⟨i + 1, by omega, by go_num, by rw [HST.out.2]; go_num, L, c, hr, Lib.hid (by rw [HST.out.1, List.append_nil]; exact HL.out), by omega, hS⟩
        · have q1 : ((p : Int) == 0) = false := by simp; exact hp
          rw [if_neg hp] at hst hfa
          have hpb : b[p - 1]? = some (b.getD (p - 1) 0) := by
            rw [List.getD_eq_getElem?_getD, List.getElem?_eq_getElem (show p - 1 < b.length by omega)]
            rfl
          obtain ⟨ad', e', hc⟩ := (HB.out.keep hS.below).at (bv_get b _ _ hpb)
          cases e'
          rw [ch_nb] at hst
          have HST := Lib.hid (And.intro hst hfa)
          have hpi : (p : Int) - 1 < (b.length : Int) := by omega
          have hp1 : 1 ≤ p := by omega
          clear hst hfa hTi hp hpb
          generalize b.getD (p - 1) 0 = x at *
          go_wp2_with (at_builtin; (refine wpList_app1 1 22 i0 (.int .u8 0) _ _ _ rfl rfl rfl rfl Try.underlying22 i0a i0b i0c i0d rfl hS rfl hr rfl ?_ ?_ ?_); (unfold maxLen; omega); omega; intro v1 c1 w3 hr1 hS4)
          go_roundg m
          case measure => omega
          case rel =>
            rw [fw_snoc] at hr1
            exact ⟨i + 1, by omega, by go_num, by rw [HST.out.2], L ++ [x], c1, by simpa using hr1, Lib.hid (by rw [HST.out.1, ← HL.out]; simp [nb]), by simp; omega, hS4⟩
set_option maxHeartbeats 4000000 in
theorem refforward_any (b : List UInt8) (v : Value) (w : World) (hn : b.length ≤ 1000000) (hb : Rd w 1 v b.length (bv b)) :
    Calls Try.prog 18 #[v] w (FwdOut b w) := by
  obtain ⟨i0, i0a, i0b, i0c, i0d⟩ := info_parts infoU8
  obtain ⟨ao, cap, rfl⟩ := hb.shape
  have hnl : (b.length : Int) ≤ 1000000 := by omega
  have HB := Lib.hid hb
  have hS0 := St.init w
  clear hb
  by_cases h0 : b.length = 0
  · have hl0 : b = [] := List.eq_nil_of_length_eq_zero h0
    subst hl0
    go_enter Try.func18, Try.ntmps18
    go_wp2_with fail
    go_ret2
    exact ⟨[], _, [], [], ⟨List.Perm.refl _, List.Pairwise.nil⟩, rfl, RowC.nil _ _, rfl, hS0.one_nil⟩
  · have hl1 : ((b.length : Int) == 0) = false := by simp; exact fun e => h0 (by rw [e]; rfl)
    have hsl := nb_length b
    have hbl : (b.length : Int) - 1 < (b.length : Int) := by omega
    have hb0 : 0 < b.length := by omega
    have hlast : b[b.length - 1]? = some (b.getD (b.length - 1) 0) := by
      rw [List.getD_eq_getElem?_getD, List.getElem?_eq_getElem (show b.length - 1 < b.length by omega)]
      rfl
    obtain ⟨ad, rfl, hc⟩ := HB.out.at (bv_get b _ _ hlast)
    have hS1 := hS0.alloc (.cells #[.int .u8 ((b.getD (b.length - 1) 0).toNat : Int)] 5)
    have hone : RowC 5 1 (.slice (some ⟨w.heap.size, 0, none⟩) 1 1) 1 (bv [b.getD (b.length - 1) 0]) [(w.heap.size, .cells #[.int .u8 ((b.getD (b.length - 1) 0).toNat : Int)] 5 (0, 0))] := RowC.fresh w.heap.size (bv [b.getD (b.length - 1) 0]) rfl (Nat.le_refl 1) (by simp [maxLen]) rfl rfl
    have H1 := Lib.hid (And.intro hS1 hone)
    have H0 := Lib.hid h0
    clear hS1 hone hlast h0 hS0
    go_enter Try.func18, Try.ntmps18
    go_wp2_with fail
    refine (refsuffixes_any b _ _ hn (HB.out.keep H1.out.1.below)).mono ?_
    rintro e w2 ⟨v2, T, c2, rfl, hr2, hTl, hS2, hsa⟩
    obtain ⟨ao2, cap2, rfl⟩ := hr2.shape
    have hS3 := H1.out.1.join hS2
    have HT := Lib.hid (And.intro hr2 (And.intro hTl hsa))
    have HQ : Hid (RowC 5 1 (.slice (some ⟨w.heap.size, 0, none⟩) 1 1) [b.getD (b.length - 1) 0].length (bv [b.getD (b.length - 1) 0]) [(w.heap.size, .cells #[.int .u8 ((b.getD (b.length - 1) 0).toNat : Int)] 5 (0, 0))] ∧ nb [b.getD (b.length - 1) 0] = fwP (nb b) T 0) := Lib.hid ⟨H1.out.2, by
      rw [fwP_zero (by rw [hsl]; exact H0.out), hsl, ch_nb]
      rfl⟩
    clear hr2 hTl hS2 hsa hc
    generalize b.getD (b.length - 1) 0 = x0 at *
    go_wp2_with fail
    go_loopg [4, 5, 7] b.length (fun m s4 s5 s7 wr => ∃ i : Nat, i + m = b.length ∧ s7 = .int .i64 (i : Int) ∧ s5 = .int .i64 (faP T i : Int) ∧ ∃ (L : List UInt8) (c : List (Nat × Obj)), RowC 5 1 s4 L.length (bv L) c ∧ Hid (nb L = fwP (nb b) T i) ∧ L.length ≤ i + 1 ∧ St w.heap.size w wr [c2, c])
    case atStart => exact ⟨0, by omega, rfl, rfl, [x0], _, HQ.out.1, Lib.hid HQ.out.2, by simp, hS3⟩
    case round =>
      clear hS3 HQ
      obtain ⟨i, hi, rfl, rfl, L, c, hr, HL, hLl, hS⟩ := hrel
      obtain ⟨ao3, cap3, rfl⟩ := hr.shape
      cases gk with
      | zero =>
        have hib : i = b.length := by omega
        have hz : ¬ (i : Int) < (b.length : Int) := by omega
        have HI := Lib.hid hib
        clear hi hib
        go_wp2_with fail
        go_ret2
        refine ⟨T, .slice ao3 L.length cap3, c, L, HT.out.2.2, ?_, hr, ?_, hS.pick [1] (by decide) [c] rfl⟩
        · have : faP T (nb b).length = atF (nb b).length T := faP_end HT.out.2.2 (by rw [hsl]; exact hb0)
          rw [hsl] at this
          rw [← this, HI.out]
          rfl
        · rw [HL.out, fwP, HI.out, hsl, List.take_of_length_le (by rw [HT.out.2.1]; exact Nat.le_refl _)]
      | succ m =>
        have hib : i < b.length := by omega
        have hii : (i : Int) < (b.length : Int) := by omega
        have hTi := ch_some T i (by rw [HT.out.2.1]; exact hib)
        have hpl : ch T i < b.length := by have := HT.out.2.2.lt hTi; rwa [nb_length] at this
        obtain ⟨g2, rfl⟩ := HT.out.1.head (by omega)
        have hcT := HT.out.1.cellAt hS 0 rfl (iv_get _ i _ (tI_get T i (by rw [HT.out.2.1]; exact hib)))
        have hst := fwP_step (s := nb b) hTi
        have hfa := faP_step HT.out.2.2 hTi
        have hle := faP_le T i
        generalize ch T i = p at *
        by_cases hp : p = 0
        · have q1 : ((p : Int) == 0) = true := by rw [hp]; rfl
          rw [if_pos hp] at hst hfa
          have HST := Lib.hid (And.intro hst hfa)
          clear hst hfa hTi hp
          go_wp2_with fail
          go_roundg m
          case measure => omega
          case rel => exact ⟨i + 1, by omega, by go_num, by rw [HST.out.2]; go_num, L, c, hr, Lib.hid (by rw [HST.out.1, List.append_nil]; exact HL.out), by omega, hS⟩
        · have q1 : ((p : Int) == 0) = false := by simp; exact hp
          rw [if_neg hp] at hst hfa
          have hpb : b[p - 1]? = some (b.getD (p - 1) 0) := by
            rw [List.getD_eq_getElem?_getD, List.getElem?_eq_getElem (show p - 1 < b.length by omega)]
            rfl
          obtain ⟨ad', e', hc⟩ := (HB.out.keep hS.below).at (bv_get b _ _ hpb)
          cases e'
          rw [ch_nb] at hst
          have HST := Lib.hid (And.intro hst hfa)
          have hpi : (p : Int) - 1 < (b.length : Int) := by omega
          have hp1 : 1 ≤ p := by omega
          clear hst hfa hTi hp hpb
          generalize b.getD (p - 1) 0 = x at *
          go_wp2_with (at_builtin; (refine wpList_app1 1 22 i0 (.int .u8 0) _ _ _ rfl rfl rfl rfl Try.underlying22 i0a i0b i0c i0d rfl hS rfl hr rfl ?_ ?_ ?_); (unfold maxLen; omega); omega; intro v1 c1 w3 hr1 hS4)
          go_roundg m
          case measure => omega
          case rel =>
            rw [fw_snoc] at hr1
            exact ⟨i + 1, by omega, by go_num, by rw [HST.out.2], L ++ [x], c1, by simpa using hr1, Lib.hid (by rw [HST.out.1, ← HL.out]; simp [nb]), by simp; omega, hS4⟩
end Go.Proofs.Ytdgpbgdpdmikaab

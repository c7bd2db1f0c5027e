/-
  The walk of SealedRaw.
-/
import Derived.Test.YthgbkncanoknkaaSg12
set_option linter.unusedVariables false
set_option linter.unusedSimpArgs false
namespace Go.Proofs.Ythgbkncanoknkaa
open Go.RowKit
set_option maxRecDepth 100000
theorem faultR_snoc (a : List Rec) (r : Rec) : faultR (a ++ [r]) = if faultR a = 0 then ckR r else faultR a := by
  induction a with
  | nil =>
    show (if ckR r = 0 then 0 else ckR r) = ckR r
    split
    · rename_i e; exact e.symm
    · rfl
  | cons x a ih =>
    by_cases e : ckR x = 0
    · have h1 : faultR (x :: (a ++ [r])) = faultR (a ++ [r]) := by simp only [faultR, e, if_true]
      have h2 : faultR (x :: a) = faultR a := by simp only [faultR, e, if_true]
      rw [List.cons_append, h1, h2, ih]
    · have h1 : faultR (x :: (a ++ [r])) = ckR x := by simp only [faultR, if_neg e]
      have h2 : faultR (x :: a) = ckR x := by simp only [faultR, if_neg e]
      rw [List.cons_append, h1, h2, if_neg e]
theorem rcs_take {k : Nat} {os : List Rec} (h : k ≤ os.length) : (rcs os).take (k * 4) = rcs (os.take k) := by
  have h1 : rcs os = rcs (os.take k) ++ rcs (os.drop k) := by rw [← rcs_append, List.take_append_drop]
  have h2 : (rcs (os.take k)).length = k * 4 := by rw [rcs_len, List.length_take]; congr 1; omega
  rw [h1, ← h2, List.take_left]
set_option maxHeartbeats 4000000 in
theorem SealedRaw_walk (w : World) (v : Value) (n0 : Nat) (os : List Rec) (h : Rd w 4 v n0 (rcs os) ∧ os.length = n0 ∧ ∀ o ∈ os, WfR o) (sz : n0 * 48 ≤ 140737488351232) :
    Calls Try.prog 3 #[v] w fun e w' => e = .returned (.bool true) ∧ Below w.heap.size w w' := by
  obtain ⟨i0, i0a, i0b, i0c, i0d⟩ := info_parts infoRC
  obtain ⟨hrd, rfl, hwf⟩ := h
  go_enter Try.func3, Try.ntmps3
  go_wp2_with fail
  refine (begun16_any _).mono ?_
  rintro e w1 ⟨rfl, hb⟩
  have hr := hrd.keep hb
  have HB := Lib.hid hb
  clear hrd hb
  obtain ⟨ao, cap, rfl⟩ := hr.shape
  obtain ⟨hcp1, hcp2⟩ := hr.cap
  by_cases q : 20 < os.length
  · have qi : (20 : Int) < (os.length : Int) := by omega
    have qc : (20 : Int) ≤ (cap : Int) := by omega
    have hr2 := hr.take 20 (by omega)
    rw [rcs_take (by omega)] at hr2
    have hln : (os.take 20).length = 20 := by rw [List.length_take]; omega
    have hwf2 : ∀ o ∈ os.take 20, WfR o := fun o ho => hwf o (List.mem_of_mem_take ho)
    generalize os.take 20 = l at hr2 hln hwf2
    have HLN : Hid (l.length = 20 ∧ l.length ≤ 20) := Lib.hid ⟨hln, by omega⟩
    have HL : Hid (Rd w1 4 (.slice ao 20 cap) 20 (rcs l) ∧ ∀ o ∈ l, WfR o) := Lib.hid ⟨hr2, hwf2⟩
    clear hr hr2 hwf hwf2 hln
    go_wp2_with fail
    skip
    go_loopg [4, 5, 6] l.length (fun m s4 s5 s6 wr => ∃ i : Nat, i + m = l.length ∧ s6 = .int .i64 (i : Int) ∧ ∃ (rs : List Rec) (c : List (Nat × Obj)) (wt : Nat), Hid (rs = (l.take i).map cutR ∧ wt = faultR rs) ∧ rs.length = i ∧ s5 = .int .i64 (wt : Int) ∧ RowC 26 4 s4 rs.length (rcs rs) c ∧ St w1.heap.size w1 wr [c])
    case atStart => exact ⟨0, by omega, rfl, [], [], 0, Lib.hid ⟨rfl, rfl⟩, rfl, rfl, RowC.nil _ _, (St.init w1).one_nil⟩
    case round =>
      obtain ⟨i, hi, rfl, rs, c, wt, HRS, hrl, rfl, hr, hS⟩ := hrel
      obtain ⟨ao4, cap4, rfl⟩ := hr.shape
      cases gk with
      | zero =>
        have hz : ¬ (i : Int) < (20 : Int) := by have := HLN.out; omega
        have HR := Lib.hid (And.intro hr hS)
        have hrl2 : rs.length ≤ 100 := by have := HLN.out; omega
        have HV : Hid ((valsP rs).length ≤ 100000) := Lib.hid (by
          rw [HRS.out.1]
          have h1 : ∀ (x : List Rec), (valsP (x.map cutR)).length ≤ 300 * x.length := by
            intro x
            induction x with
            | nil => simp [valsP]
            | cons r x ih =>
              have e : valsP ((r :: x).map cutR) = r.val.take 300 ++ valsP (x.map cutR) := by simp [valsP, cutR]
              rw [e, List.length_append, List.length_take, List.length_cons]
              omega
          have h2 := h1 (l.take i)
          have h3 : (l.take i).length ≤ 20 := by have := HLN.out; rw [List.length_take]; omega
          omega)
        clear hr hS hi hrl
        go_wp2_with fail
        refine (build_any _ rs wr (HR.out.1.rd HR.out.2 0 rfl) hrl2 HV.out).mono ?_
        rintro e w5 (⟨hf, rfl, hS5⟩ | ⟨hf, y, v5, c5, rfl, hr5, _, hS5⟩)
        · rw [← HRS.out.2] at hf ⊢
          have hf2 : ((wt : Int) == 0) = false := by rw [beq_eq_false_iff_ne]; omega
          have HB5 := Lib.hid (HB.out.trans ((HR.out.2.join hS5).below.mono HB.out.size))
          clear hf hS5
          go_wp2_with fail
          go_ret
          exact ⟨by simp, HB5.out⟩
        · rw [← HRS.out.2] at hf
          subst hf
          obtain ⟨ao5, cap5, rfl⟩ := hr5.shape
          have HB5 := Lib.hid (HB.out.trans ((HR.out.2.join hS5).below.mono HB.out.size))
          clear hr5 hS5
          go_wp2_with fail
          go_ret
          exact ⟨rfl, HB5.out⟩
      | succ m =>
        have hif : (i : Int) < (20 : Int) := by have := HLN.out; omega
        obtain ⟨r, hrr⟩ : ∃ r, l[i]? = some r := ⟨_, List.getElem?_eq_getElem (by omega)⟩
        obtain ⟨ad, rfl⟩ := HL.out.1.rec_some hrr
        obtain ⟨k0, k1, k2, k3⟩ := (HL.out.1.st hS).rec hrr
        obtain ⟨hw1, hw2, _, _⟩ := HL.out.2 r (List.mem_of_getElem? hrr)
        have HRR := Lib.hid hrr
        have HR := Lib.hid (And.intro hr hS)
        have hwi : IntKind.i64.wrap ((i : Int) + 1) = (i : Int) + 1 := IntWalk.i64_in _ (by have := HLN.out; omega)
        have HRL := Lib.hid hrl
        have hrln : rs.length ≤ 20 := by have := HLN.out; omega
        have HCC := Lib.hid (cut14_any r wr hw1 hw2)
        clear hr hS hrr hrl hw1 hw2
        go_wp2_with fail
        refine HCC.out.mono ?_
        rintro e w2 ⟨rfl, hb⟩
        have HN : Hid (rs ++ [cutR r] = (l.take (i + 1)).map cutR ∧ faultR (rs ++ [cutR r]) = if wt = 0 then ckR (cutR r) else wt) := Lib.hid ⟨by
          rw [List.take_add_one, HRR.out, List.map_append, ← HRS.out.1]; rfl, by rw [faultR_snoc, ← HRS.out.2]⟩
        obtain ⟨q, HQ⟩ : ∃ q, Hid (q = cutR r) := ⟨_, Lib.hid rfl⟩
        rw [← HQ.out] at HN ⊢
        unfold recV
        have hS2 := HR.out.2.mono hb
        have hS3 := (hS2.alloc (.cells #[.int .i64 q.kind, .int .i64 q.seq, .string ⟨q.key.toArray⟩, .string ⟨q.val.toArray⟩] 26 (0, 0))).alloc' (.cells #[.int .i64 q.kind, .int .i64 q.seq, .string ⟨q.key.toArray⟩, .string ⟨q.val.toArray⟩] 26 (0, 0))
        have hr3 := HR.out.1
        have hn3 : Rd ((w2.alloc (.cells #[.int .i64 q.kind, .int .i64 q.seq, .string ⟨q.key.toArray⟩, .string ⟨q.val.toArray⟩] 26)).alloc (.cells #[.int .i64 q.kind, .int .i64 q.seq, .string ⟨q.key.toArray⟩, .string ⟨q.val.toArray⟩] 26)) 4 (.slice (some ⟨w2.heap.size + 1, 0, none⟩) 1 1) 1 (recC q) := by
          have := Rd.litsN 4 (w2.alloc (.cells #[.int .i64 q.kind, .int .i64 q.seq, .string ⟨q.key.toArray⟩, .string ⟨q.val.toArray⟩] 26)) #[.int .i64 q.kind, .int .i64 q.seq, .string ⟨q.key.toArray⟩, .string ⟨q.val.toArray⟩] 26 (by decide) rfl (by decide)
          rwa [show (w2.alloc (.cells #[.int .i64 q.kind, .int .i64 q.seq, .string ⟨q.key.toArray⟩, .string ⟨q.val.toArray⟩] 26)).heap.size = w2.heap.size + 1 from by simp] at this
        clear hb hS2 k0 k1 k2 k3
        by_cases qw : wt = 0
        · have qwi : ((wt : Int) == 0) = true := by rw [qw]; rfl
          have HF : Hid (faultR (rs ++ [q]) = ckR q) := Lib.hid (by rw [HN.out.2, if_pos qw])
          clear qw
          go_wp2_with ((at_builtin; (refine wpList_app 1 22 i0 (.agg #[.int .i64 0, .int .i64 0, .string ⟨#[]⟩, .string ⟨#[]⟩]) _ _ rfl rfl rfl rfl Try.underlying22 i0a i0b i0c i0d rfl (by decide) hS3 rfl hr3 hn3 (recC_one q) ?_ ?_ ?_); (unfold maxLen; omega); omega; intro v5 c5 w5 hr5 hS5); obtain ⟨k0, k1, k2, k3⟩ := recO_cells hS5 0 rfl; have H5 := Lib.hid (And.intro hr5 hS5); clear hS3 hr3 hn3 hr5 hS5)
          refine (refcheck14_any q _).mono ?_
          rintro e w6 ⟨rfl, o6, rfl⟩
          rw [← HF.out]
          go_wp2_with fail
          go_roundg m
          case measure => omega
          case rel =>
            have hr5 := H5.out.1
            rw [rcs_snoc] at hr5
            exact ⟨i + 1, by omega, by go_num, rs ++ [q], c5, _, Lib.hid ⟨HN.out.1, rfl⟩, by rw [List.length_append, HRL.out]; rfl, rfl, by rw [List.length_append]; exact hr5, (H5.out.2.alloc' o6).pick [1] (by decide) _ rfl⟩
        · have qwi : ((wt : Int) == 0) = false := by rw [beq_eq_false_iff_ne]; omega
          have HF : Hid (faultR (rs ++ [q]) = wt) := Lib.hid (by rw [HN.out.2, if_neg qw])
          clear qw
          go_wp2_with ((at_builtin; (refine wpList_app 1 22 i0 (.agg #[.int .i64 0, .int .i64 0, .string ⟨#[]⟩, .string ⟨#[]⟩]) _ _ rfl rfl rfl rfl Try.underlying22 i0a i0b i0c i0d rfl (by decide) hS3 rfl hr3 hn3 (recC_one q) ?_ ?_ ?_); (unfold maxLen; omega); omega; intro v5 c5 w5 hr5 hS5))
          go_roundg m
          case measure => omega
          case rel =>
            rw [rcs_snoc] at hr5
            exact ⟨i + 1, by omega, by go_num, rs ++ [q], c5, wt, Lib.hid ⟨HN.out.1, HF.out.symm⟩, by rw [List.length_append, HRL.out]; rfl, rfl, by rw [List.length_append]; exact hr5, hS5.pick [1] (by decide) _ rfl⟩
  · have qi : ¬ (20 : Int) < (os.length : Int) := by omega
    obtain ⟨l, rfl⟩ : ∃ l, l = os := ⟨_, rfl⟩
    have HLN : Hid (l.length = l.length ∧ l.length ≤ 20) := Lib.hid ⟨rfl, by omega⟩
    have HL : Hid (Rd w1 4 (.slice ao l.length cap) l.length (rcs l) ∧ ∀ o ∈ l, WfR o) := Lib.hid ⟨hr, hwf⟩
    clear hr hwf
    go_wp2_with fail
    skip
    go_loopg [4, 5, 6] l.length (fun m s4 s5 s6 wr => ∃ i : Nat, i + m = l.length ∧ s6 = .int .i64 (i : Int) ∧ ∃ (rs : List Rec) (c : List (Nat × Obj)) (wt : Nat), Hid (rs = (l.take i).map cutR ∧ wt = faultR rs) ∧ rs.length = i ∧ s5 = .int .i64 (wt : Int) ∧ RowC 26 4 s4 rs.length (rcs rs) c ∧ St w1.heap.size w1 wr [c])
    case atStart => exact ⟨0, by omega, rfl, [], [], 0, Lib.hid ⟨rfl, rfl⟩, rfl, rfl, RowC.nil _ _, (St.init w1).one_nil⟩
    case round =>
      obtain ⟨i, hi, rfl, rs, c, wt, HRS, hrl, rfl, hr, hS⟩ := hrel
      obtain ⟨ao4, cap4, rfl⟩ := hr.shape
      cases gk with
      | zero =>
        have hz : ¬ (i : Int) < (l.length : Int) := by have := HLN.out; omega
        have HR := Lib.hid (And.intro hr hS)
        have hrl2 : rs.length ≤ 100 := by have := HLN.out; omega
        have HV : Hid ((valsP rs).length ≤ 100000) := Lib.hid (by
          rw [HRS.out.1]
          have h1 : ∀ (x : List Rec), (valsP (x.map cutR)).length ≤ 300 * x.length := by
            intro x
            induction x with
            | nil => simp [valsP]
            | cons r x ih =>
              have e : valsP ((r :: x).map cutR) = r.val.take 300 ++ valsP (x.map cutR) := by simp [valsP, cutR]
              rw [e, List.length_append, List.length_take, List.length_cons]
              omega
          have h2 := h1 (l.take i)
          have h3 : (l.take i).length ≤ 20 := by have := HLN.out; rw [List.length_take]; omega
          omega)
        clear hr hS hi hrl
        go_wp2_with fail
        refine (build_any _ rs wr (HR.out.1.rd HR.out.2 0 rfl) hrl2 HV.out).mono ?_
        rintro e w5 (⟨hf, rfl, hS5⟩ | ⟨hf, y, v5, c5, rfl, hr5, _, hS5⟩)
        · rw [← HRS.out.2] at hf ⊢
          have hf2 : ((wt : Int) == 0) = false := by rw [beq_eq_false_iff_ne]; omega
          have HB5 := Lib.hid (HB.out.trans ((HR.out.2.join hS5).below.mono HB.out.size))
          clear hf hS5
          go_wp2_with fail
          go_ret
          exact ⟨by simp, HB5.out⟩
        · rw [← HRS.out.2] at hf
          subst hf
          obtain ⟨ao5, cap5, rfl⟩ := hr5.shape
          have HB5 := Lib.hid (HB.out.trans ((HR.out.2.join hS5).below.mono HB.out.size))
          clear hr5 hS5
          go_wp2_with fail
          go_ret
          exact ⟨rfl, HB5.out⟩
      | succ m =>
        have hif : (i : Int) < (l.length : Int) := by have := HLN.out; omega
        obtain ⟨r, hrr⟩ : ∃ r, l[i]? = some r := ⟨_, List.getElem?_eq_getElem (by omega)⟩
        obtain ⟨ad, rfl⟩ := HL.out.1.rec_some hrr
        obtain ⟨k0, k1, k2, k3⟩ := (HL.out.1.st hS).rec hrr
        obtain ⟨hw1, hw2, _, _⟩ := HL.out.2 r (List.mem_of_getElem? hrr)
        have HRR := Lib.hid hrr
        have HR := Lib.hid (And.intro hr hS)
        have hwi : IntKind.i64.wrap ((i : Int) + 1) = (i : Int) + 1 := IntWalk.i64_in _ (by have := HLN.out; omega)
        have HRL := Lib.hid hrl
        have hrln : rs.length ≤ 20 := by have := HLN.out; omega
        have HCC := Lib.hid (cut14_any r wr hw1 hw2)
        clear hr hS hrr hrl hw1 hw2
        go_wp2_with fail
        refine HCC.out.mono ?_
        rintro e w2 ⟨rfl, hb⟩
        have HN : Hid (rs ++ [cutR r] = (l.take (i + 1)).map cutR ∧ faultR (rs ++ [cutR r]) = if wt = 0 then ckR (cutR r) else wt) := Lib.hid ⟨by
          rw [List.take_add_one, HRR.out, List.map_append, ← HRS.out.1]; rfl, by rw [faultR_snoc, ← HRS.out.2]⟩
        obtain ⟨q, HQ⟩ : ∃ q, Hid (q = cutR r) := ⟨_, Lib.hid rfl⟩
        rw [← HQ.out] at HN ⊢
        unfold recV
        have hS2 := HR.out.2.mono hb
        have hS3 := (hS2.alloc (.cells #[.int .i64 q.kind, .int .i64 q.seq, .string ⟨q.key.toArray⟩, .string ⟨q.val.toArray⟩] 26 (0, 0))).alloc' (.cells #[.int .i64 q.kind, .int .i64 q.seq, .string ⟨q.key.toArray⟩, .string ⟨q.val.toArray⟩] 26 (0, 0))
        have hr3 := HR.out.1
        have hn3 : Rd ((w2.alloc (.cells #[.int .i64 q.kind, .int .i64 q.seq, .string ⟨q.key.toArray⟩, .string ⟨q.val.toArray⟩] 26)).alloc (.cells #[.int .i64 q.kind, .int .i64 q.seq, .string ⟨q.key.toArray⟩, .string ⟨q.val.toArray⟩] 26)) 4 (.slice (some ⟨w2.heap.size + 1, 0, none⟩) 1 1) 1 (recC q) := by
          have := Rd.litsN 4 (w2.alloc (.cells #[.int .i64 q.kind, .int .i64 q.seq, .string ⟨q.key.toArray⟩, .string ⟨q.val.toArray⟩] 26)) #[.int .i64 q.kind, .int .i64 q.seq, .string ⟨q.key.toArray⟩, .string ⟨q.val.toArray⟩] 26 (by decide) rfl (by decide)
          rwa [show (w2.alloc (.cells #[.int .i64 q.kind, .int .i64 q.seq, .string ⟨q.key.toArray⟩, .string ⟨q.val.toArray⟩] 26)).heap.size = w2.heap.size + 1 from by simp] at this
        clear hb hS2 k0 k1 k2 k3
        by_cases qw : wt = 0
        · have qwi : ((wt : Int) == 0) = true := by rw [qw]; rfl
          have HF : Hid (faultR (rs ++ [q]) = ckR q) := Lib.hid (by rw [HN.out.2, if_pos qw])
          clear qw
          go_wp2_with ((at_builtin; (refine wpList_app 1 22 i0 (.agg #[.int .i64 0, .int .i64 0, .string ⟨#[]⟩, .string ⟨#[]⟩]) _ _ rfl rfl rfl rfl Try.underlying22 i0a i0b i0c i0d rfl (by decide) hS3 rfl hr3 hn3 (recC_one q) ?_ ?_ ?_); (unfold maxLen; omega); omega; intro v5 c5 w5 hr5 hS5); obtain ⟨k0, k1, k2, k3⟩ := recO_cells hS5 0 rfl; have H5 := Lib.hid (And.intro hr5 hS5); clear hS3 hr3 hn3 hr5 hS5)
          refine (refcheck14_any q _).mono ?_
          rintro e w6 ⟨rfl, o6, rfl⟩
          rw [← HF.out]
          go_wp2_with fail
          go_roundg m
          case measure => omega
          case rel =>
            have hr5 := H5.out.1
            rw [rcs_snoc] at hr5
            exact ⟨i + 1, by omega, by go_num, rs ++ [q], c5, _, Lib.hid ⟨HN.out.1, rfl⟩, by rw [List.length_append, HRL.out]; rfl, rfl, by rw [List.length_append]; exact hr5, (H5.out.2.alloc' o6).pick [1] (by decide) _ rfl⟩
        · have qwi : ((wt : Int) == 0) = false := by rw [beq_eq_false_iff_ne]; omega
          have HF : Hid (faultR (rs ++ [q]) = wt) := Lib.hid (by rw [HN.out.2, if_neg qw])
          clear qw
          go_wp2_with ((at_builtin; (refine wpList_app 1 22 i0 (.agg #[.int .i64 0, .int .i64 0, .string ⟨#[]⟩, .string ⟨#[]⟩]) _ _ rfl rfl rfl rfl Try.underlying22 i0a i0b i0c i0d rfl (by decide) hS3 rfl hr3 hn3 (recC_one q) ?_ ?_ ?_); (unfold maxLen; omega); omega; intro v5 c5 w5 hr5 hS5))
          go_roundg m
          case measure => omega
          case rel =>
            rw [rcs_snoc] at hr5
            exact ⟨i + 1, by omega, by go_num, rs ++ [q], c5, wt, Lib.hid ⟨HN.out.1, HF.out.symm⟩, by rw [List.length_append, HRL.out]; rfl, rfl, by rw [List.length_append]; exact hr5, hS5.pick [1] (by decide) _ rfl⟩
end Go.Proofs.Ythgbkncanoknkaa

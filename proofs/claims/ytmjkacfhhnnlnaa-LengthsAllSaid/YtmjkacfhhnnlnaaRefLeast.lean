/-
  The reference's least cost.
-/
import Derived.Test.YtmjkacfhhnnlnaaRefPut
import Derived.Test.YtmjkacfhhnnlnaaPureLenF
import Derived.Test.YtmjkacfhhnnlnaaPureLenE
set_option linter.unusedVariables false
set_option linter.unusedSimpArgs false
namespace Go.Proofs.Ytmjkacfhhnnlnaa
open Go.RowKit
set_option maxRecDepth 100000
/-- Whole numbers as they lie in a row. -/
def zv (l : List Nat) : List Int := l.map fun (x : Nat) => (x : Int)
theorem zv_length (l : List Nat) : (zv l).length = l.length := by simp [zv]
theorem zv_get {l : List Nat} {i x : Nat} (h : l[i]? = some x) : (zv l)[i]? = some (x : Int) := by simp [zv, h]
def PutN (L : List Nat) (x : Nat) (B : Nat) (w0 : World) (F : List (List (Nat × Obj))) (e : Ending) (w' : World) : Prop :=
  ∃ v c R, e = .returned v ∧ RowC 2 1 v R.length (iv (zv R)) c ∧ St B w0 w' (c :: F) ∧ Hid (SortN R ∧ R.Perm (x :: L))
theorem putN_any {B : Nat} {w0 : World} {F : List (List (Nat × Obj))} {c : List (Nat × Obj)} (L : List Nat) (x : Nat) (v : Value) (w : World) (hn : L.length ≤ 100000) (hs : SortN L) (hr : RowC 2 1 v L.length (iv (zv L)) c) (hS : St B w0 w (c :: F)) :
    Calls Try.prog 20 #[v, .int .i64 (x : Int)] w (PutN L x B w0 F) := by
  refine (put_any (zv L) (x : Int) v w (by rw [zv_length]; exact hn) (by rw [zv_length]; exact hr) hS).mono ?_
  rintro e w' ⟨v', c', k, rfl, hk, hr', hS', h1, h2⟩
  rw [zv_length] at hk hr'
  have e : rowP (zv L) k (x : Int) = zv (L.take k ++ x :: L.drop k) := by simp [rowP, zv, List.map_take, List.map_drop]
  have hl : (L.take k ++ x :: L.drop k).length = L.length + 1 := by simp; omega
  obtain ⟨g1, g2⟩ := ins_sorted hs hk (x := x) (by
    intro z hz
    have := h1 (z : Int) (by unfold zv; rw [← List.map_drop]; exact List.mem_map_of_mem hz)
    omega) (by
    intro z h0 hz
    have := h2 (z : Int) h0 (zv_get hz)
    omega)
  exact ⟨v', c', L.take k ++ x :: L.drop k, rfl, by rw [hl, ← e]; exact hr', hS', Lib.hid ⟨g1, g2⟩⟩
/-- The rest, as it is known behind the first loop. -/
theorem coins_nums (f : List Int) {L : List Nat} (hs : SortN L) (hp : L.Perm ((fN f).filter fun x => decide (0 < x))) : L = nums (srt (fN f)) 0 := by
  obtain ⟨a1, a2⟩ := srt_worths (fN f)
  exact sortN_unique (hp.trans a2.symm) hs a1
theorem filter_take (f : List Int) {i : Nat} {x : Int} (hx : f[i]? = some x) (h0 : 0 ≤ x) :
    (fN (f.take (i + 1))).filter (fun x => decide (0 < x)) = (fN (f.take i)).filter (fun x => decide (0 < x)) ++ if 0 < x then [x.toNat] else [] := by
  unfold fN
  rw [List.take_add_one, hx, List.map_append, List.filter_append]
  congr 1
  by_cases h : 0 < x
  · rw [if_pos h]; simp; omega
  · rw [if_neg h]; simp; omega
/-- The levels' numbers, and what is known of them. -/
theorem least_facts (f : List Int) (hgood : badL f = false) : ∃ (N P : Nat → List Nat), N 0 = nums (srt (fN f)) 0 ∧ P 0 = [] ∧ (∀ k, P (k + 1) = pairsN (N k)) ∧ (∀ k a, SortN a → a.Perm (N 0 ++ P k) → a = N k) ∧
    (∀ k, k ≤ 14 → (N k).length ≤ 600 ∧ ∀ x ∈ N k, x ≤ 17592186044416) ∧ leastP (fN f) = (if (N 0).length < 2 then (N 0).sum else ((N 14).take (2 * (N 0).length - 2)).sum) ∧ (N 0).length ≤ 300 ∧ 2 * (N 0).length ≤ (N 14).length + 1 := by
  have hl : (srt (fN f)).length ≤ 300 := by
    have h1 := (good_small hgood).2.1
    have h2 := (srt_perm (fN f)).length_eq
    have h3 : (leavesP (fN f)).length ≤ (fN f).length := by
      unfold leavesP
      rw [List.length_map]
      refine Nat.le_trans (List.length_filter_le _ _) ?_
      simp
    rw [fN_length] at h3
    omega
  have h0 : (nums (srt (fN f)) 0).length = (srt (fN f)).length := by simp [nums, levelC]
  refine ⟨nums (srt (fN f)), prevP (srt (fN f)), rfl, rfl, fun k => rfl, fun k a ha hp => all_unique (srt_sorted _) ha hp, ?_, ?_, by omega, ?_⟩
  · intro k hk
    refine ⟨?_, ?_⟩
    · have := level_len (srt (fN f)) k
      simp only [nums, List.length_map]
      omega
    · intro x hx
      obtain ⟨c, hc, rfl⟩ := List.mem_map.1 hx
      have h1 := (level_bounds (srt_bounds hgood) k c hc).2.1
      have h2 : 2 ^ k ≤ 2 ^ 14 := Nat.pow_le_pow_right (by omega) hk
      have h3 := Nat.mul_le_mul_right 1073741824 h2
      omega
  · rw [leastP_eq]
    unfold leastN
    rw [show ((srt (fN f)).map Coin.worth).length = (nums (srt (fN f)) 0).length from by simp [nums, levelC], ← levelN_map]
    rfl
  · have := level_room (srt (fN f)) 14
    rw [h0]
    simp only [nums, List.length_map]
    omega
theorem sum_take_le {A : List Nat} {M : Nat} (h : ∀ x ∈ A, x ≤ M) : ∀ i, (A.take i).sum ≤ i * M := by
  intro i
  induction i with
  | zero => simp
  | succ i ih =>
    rw [List.take_add_one, List.sum_append_nat, Nat.succ_mul]
    cases hx : A[i]? with
    | none => simp; omega
    | some x => have := h x (List.mem_of_getElem? hx); simp; omega
theorem sum_take_succ {A : List Nat} {i x : Nat} (h : A[i]? = some x) : (A.take (i + 1)).sum = (A.take i).sum + x := by
  rw [List.take_add_one, List.sum_append_nat, h]
  simp
set_option maxHeartbeats 4000000 in
theorem least_any (f : List Int) (v : Value) (w : World) (hgood : badL f = false) (h : Rd w 1 v f.length (iv f)) :
    Calls Try.prog 11 #[v] w fun e w' => e = .returned (.int .i64 (leastP (fN f) : Int)) ∧ Below w.heap.size w w' := by
  obtain ⟨i0, i0a, i0b, i0c, i0d⟩ := info_parts infoL
  obtain ⟨ao0, cap0, rfl⟩ := h.shape
  obtain ⟨g1, g2, g3⟩ := good_small hgood
  have hfi : (f.length : Int) ≤ 300 := by omega
  obtain ⟨N, P, n0, p0, pk, un, bd, ls, ln, rm⟩ := least_facts f hgood
  obtain ⟨z, hz⟩ : ∃ z, leastP (fN f) = z := ⟨_, rfl⟩
  rw [hz] at ls ⊢
  have HZ := Lib.hid ls
  clear hz
  have HW := Lib.hid (And.intro n0 (And.intro p0 (And.intro pk (And.intro un (And.intro bd (And.intro rm ln))))))
  clear n0 p0 pk un bd ls ln rm
  have H0 := Lib.hid (And.intro h hgood)
  have hS1 := (St.init w).one_nil
  clear h hgood g1 g3
  go_enter Try.func11, Try.ntmps11
  go_wp2_with fail
  go_loopg [3, 4] f.length (fun m s3 s4 wr => ∃ i : Nat, i + m = f.length ∧ s4 = .int .i64 (i : Int) ∧ ∃ (L : List Nat) (c : List (Nat × Obj)), RowC 2 1 s3 L.length (iv (zv L)) c ∧ St w.heap.size w wr [c] ∧ L.length ≤ i ∧ Hid (SortN L ∧ L.Perm ((fN (f.take i)).filter fun x => decide (0 < x))))
  case atStart => exact ⟨0, by omega, rfl, [], [], RowC.nil 2 1, hS1, by simp, Lib.hid ⟨List.Pairwise.nil, by simp [fN]⟩⟩
  case round =>
    clear hS1
    obtain ⟨i, hi, rfl, L, c, hr, hS, hLi, HL⟩ := hrel
    obtain ⟨ao3, cap3, rfl⟩ := hr.shape
    cases gk with
    | succ m =>
      have hif : (i : Int) < (f.length : Int) := by omega
      obtain ⟨x, hx⟩ : ∃ x, f[i]? = some x := ⟨_, List.getElem?_eq_getElem (by omega)⟩
      obtain ⟨ad1, rfl, hc1⟩ := (H0.out.1.st hS).at (iv_get f i x hx)
      have hx0 := (ok_bad H0.out.2 hx).1
      have HX := Lib.hid (filter_take f hx hx0)
      clear hx
      obtain ⟨X, rfl⟩ := Int.eq_ofNat_of_zero_le hx0
      by_cases q : 0 < (X : Int)
      · have HR := Lib.hid (And.intro hr hS)
        clear hr hS
        go_wp2_with fail
        refine (putN_any L X _ wr (by omega) HL.out.1 HR.out.1 HR.out.2).mono ?_
        rintro e w2 ⟨v2, c2, R, rfl, hr2, hS2, HRR⟩
        go_wp2_with fail
        go_roundg m
        case measure => omega
        case rel =>
          have hl := HRR.out.2.length_eq
          refine ⟨i + 1, by omega, by go_num, R, c2, hr2, hS2, by simp at hl; omega, Lib.hid ⟨HRR.out.1, ?_⟩⟩
          rw [HX.out, if_pos q]
          exact HRR.out.2.trans ((List.Perm.cons _ HL.out.2).trans (by rw [Int.toNat_natCast]; exact (List.perm_append_singleton _ _).symm))
      · have HR := Lib.hid (And.intro hr hS)
        clear hr hS
        go_wp2_with fail
        go_roundg m
        case measure => omega
        case rel =>
          refine ⟨i + 1, by omega, by go_num, L, c, HR.out.1, HR.out.2, by omega, Lib.hid ⟨HL.out.1, ?_⟩⟩
          rw [HX.out, if_neg (by omega), List.append_nil]
          exact HL.out.2
    | zero =>
      obtain rfl : i = f.length := by omega
      have hz : ¬ (f.length : Int) < (f.length : Int) := by omega
      have hLn : L = nums (srt (fN f)) 0 := coins_nums f HL.out.1 (by have := HL.out.2; rwa [List.take_length] at this)
      have HLN := Lib.hid hLn
      clear hLn hi
      have HR := Lib.hid (And.intro hr hS)
      clear hr hS
      rw [← HW.out.1] at HLN
      have hL3 : (L.length : Int) ≤ 300 := by have := HLN.out; have h1 := HW.out.2.2.2.2.2.2; subst this; omega
      clear HL
      by_cases q0 : L.length = 0
      · have hL0 : L = [] := List.length_eq_zero_iff.1 q0
        have HE : Hid (N 0 = []) := Lib.hid (by rw [← HLN.out]; exact hL0)
        have q0i : ((L.length : Int) == 0) = true := by simp [hL0]
        clear q0 hL0
        go_wp2_with fail
        go_ret
        exact ⟨by rw [HZ.out, HE.out]; rfl, HR.out.2.below⟩
      have q0i : ((L.length : Int) == 0) = false := by simp; intro e; subst e; exact q0 rfl
      by_cases q1 : L.length = 1
      · obtain ⟨a, ha⟩ := List.length_eq_one_iff.1 q1
        have HE : Hid (N 0 = [a]) := Lib.hid (by rw [← HLN.out]; exact ha)
        have q1i : ((L.length : Int) == 1) = true := by simp [ha]
        obtain ⟨g3, rfl⟩ := HR.out.1.head (by omega)
        have hc := HR.out.1.cellAt HR.out.2 0 rfl (iv_get _ 0 (a : Int) (zv_get (by rw [ha]; rfl)))
        have hp : (0 : Int) < (L.length : Int) := by omega
        clear q0 ha
        go_wp2_with fail
        go_ret
        exact ⟨by rw [HZ.out, HE.out]; simp, HR.out.2.below⟩
      have hL2 : 2 ≤ L.length := by omega
      have hSn := HR.out.2.one_nil
      have HR1 := Lib.hid HR.out.1
      have HL1 : Hid (P 0 = []) := Lib.hid HW.out.2.1
      clear HR q0 q1
      go_wp2_with fail
      go_loopg [6, 7] 15 (fun m s6 s7 wr => ∃ k : Nat, k + m = 15 ∧ k ≤ 14 ∧ s7 = .int .i64 ((k : Int) + 1) ∧ ∃ cp, RowC 2 1 s6 (P k).length (iv (zv (P k))) cp ∧ St w.heap.size w wr [cp, c])
      case atStart => exact ⟨0, by omega, by omega, rfl, [], by rw [HL1.out]; exact RowC.nil 2 1, hSn⟩
      case round =>
        clear hSn
        obtain ⟨k, hk, hk14, rfl, cp, hrp, hS⟩ := hrel
        obtain ⟨mk, rfl⟩ : ∃ m, gk = m + 1 := ⟨gk - 1, by omega⟩
        obtain ⟨ao6, cap6, rfl⟩ := hrp.shape
        have hS1 := hS.one_nil
        have hrc := HR1.out.rd hS1 2 rfl
        have HP := Lib.hid hrp
        clear hrp hS
        go_wp2_with (at_builtin; (refine wpList_app 0 22 i0 (.int .i64 0) _ _ rfl rfl rfl rfl Try.underlying22 i0a i0b i0c i0d rfl (by decide) hS1 rfl (RowC.nil 2 1) hrc (iv_one (zv L)) ?_ ?_ ?_); (unfold maxLen; omega); omega; intro v8 c8 w8 hr8 hS8)
        simp only [Nat.zero_add, List.nil_append] at hr8
        have hr8' : RowC 2 1 v8 L.length (iv (zv L)) c8 := by simpa [zv_length] using hr8
        obtain ⟨ao8, cap8, rfl⟩ := hr8'.shape
        have hPl : (P k).length ≤ 300 := by
          cases k with
          | zero => rw [HL1.out]; simp
          | succ k =>
            have h1 := (HW.out.2.2.2.2.1 k (by omega)).1
            rw [HW.out.2.2.1 k, pairsN_length]
            omega
        have hPi : ((P k).length : Int) ≤ 300 := by omega
        clear hr8 hS1 hrc
        go_wp2_with fail
        go_loopg [8, 9] (P k).length (fun m s8 s9 wr => ∃ i : Nat, i + m = (P k).length ∧ s9 = .int .i64 (i : Int) ∧ ∃ (A : List Nat) (c8 : List (Nat × Obj)), RowC 2 1 s8 A.length (iv (zv A)) c8 ∧ St w.heap.size w wr [c8, cp, c] ∧ A.length ≤ L.length + i ∧ Hid (SortN A ∧ A.Perm (N 0 ++ (P k).take i)))
        case atStart =>
          refine ⟨0, by omega, rfl, L, c8, hr8', hS8, by omega, Lib.hid ⟨?_, ?_⟩⟩
          · rw [HLN.out, HW.out.1]; exact nums_sorted (srt_sorted _) 0
          · rw [HLN.out]; simp
        case round =>
          clear hr8' hS8
          obtain ⟨i, hi, rfl, A, c8, hr, hS, hAl, HA⟩ := hrel
          obtain ⟨ao9, cap9, rfl⟩ := hr.shape
          cases gk with
          | succ m =>
            have hif : (i : Int) < ((P k).length : Int) := by omega
            obtain ⟨x, hx⟩ : ∃ x, (P k)[i]? = some x := ⟨_, List.getElem?_eq_getElem (by omega)⟩
            obtain ⟨ad1, rfl, hc1⟩ := (HP.out.rd hS 1 rfl).at (iv_get _ i (x : Int) (zv_get hx))
            have HX := Lib.hid hx
            have HR := Lib.hid (And.intro hr hS)
            clear hr hS hx
            go_wp2_with fail
            refine (putN_any A x _ wr (by omega) HA.out.1 HR.out.1 HR.out.2).mono ?_
            rintro e w2 ⟨v2, c2, R, rfl, hr2, hS2, HRR⟩
            go_wp2_with fail
            go_roundg m
            case measure => omega
            case rel =>
              have hl := HRR.out.2.length_eq
              refine ⟨i + 1, by omega, by go_num, R, c2, hr2, hS2, by simp at hl; omega, Lib.hid ⟨HRR.out.1, ?_⟩⟩
              rw [List.take_add_one, HX.out]
              refine HRR.out.2.trans ((List.Perm.cons _ HA.out.2).trans ?_)
              rw [← List.append_assoc]
              exact (List.perm_append_singleton _ _).symm
          | zero =>
            have hif : i = (P k).length := by omega
            have hz : ¬ (i : Int) < ((P k).length : Int) := by omega
            have HAN : Hid (A = N k) := Lib.hid (HW.out.2.2.2.1 k A HA.out.1 (by have := HA.out.2; rwa [hif, List.take_length] at this))
            have HR := Lib.hid (And.intro hr hS)
            clear hr hS HA hif hi
            by_cases qk : k = 14
            · have qki : (((k : Int) + 1) == 15) = true := by simp; omega
              have hlen : 2 * L.length ≤ A.length + 1 := by
                have h1 := HW.out.2.2.2.2.2.1
                rw [HAN.out, qk, HLN.out]
                exact h1
              have HBD := Lib.hid (show ∀ x ∈ A, x ≤ 17592186044416 by rw [HAN.out]; exact (HW.out.2.2.2.2.1 k hk14).2)
              have HFIN : Hid (z = (A.take (2 * L.length - 2)).sum) := Lib.hid (by
                rw [HZ.out, ← HLN.out, if_neg (by omega), HAN.out, qk])
              have HLE := Lib.hid hlen
              clear hlen qk hk hk14
              go_wp2_with fail
              go_loopg [10, 11] (2 * L.length - 2) (fun m s10 s11 wx => ∃ i : Nat, i + m = 2 * L.length - 2 ∧ s11 = .int .i64 (i : Int) ∧ s10 = .int .i64 (((A.take i).sum : Nat) : Int) ∧ wr = wx)
              case atStart => exact ⟨0, by omega, rfl, by simp, rfl⟩
              case round =>
                obtain ⟨i, hi, rfl, rfl, rfl⟩ := hrel
                have hsb := sum_take_le HBD.out i
                cases gk with
                | succ m =>
                  have hif : (i : Int) < 2 * (L.length : Int) - 2 := by omega
                  obtain ⟨x, hx⟩ : ∃ x, A[i]? = some x := ⟨_, List.getElem?_eq_getElem (by have := HLE.out; omega)⟩
                  obtain ⟨ad1, rfl, hc1⟩ := (HR.out.1.rd HR.out.2 0 rfl).at (iv_get _ i (x : Int) (zv_get hx))
                  have HX := Lib.hid (sum_take_succ hx)
                  have hxb := HBD.out x (List.mem_of_getElem? hx)
                  have hia : (i : Int) < (A.length : Int) := by have := HLE.out; omega
                  have hs2 : (A.take i).sum ≤ 10555311626649600 := by omega
                  clear hx hsb
                  generalize (A.take i).sum = S at *
                  go_wp2_with fail
                  go_roundg m
                  case measure => omega
                  case rel => exact ⟨i + 1, by omega, by go_num, by rw [HX.out]; go_num, rfl⟩
                | zero =>
                  have hif : ¬ (i : Int) < 2 * (L.length : Int) - 2 := by omega
                  have HI : Hid (i = 2 * L.length - 2) := Lib.hid (by omega)
                  clear hsb hi
                  go_wp2_with fail
                  go_ret
                  exact ⟨by rw [HFIN.out, HI.out]; rfl, HR.out.2.below⟩
            · have qki : (((k : Int) + 1) == 15) = false := by simp; omega
              have HAP : Hid (P (k + 1) = pairsN A) := Lib.hid (by rw [HW.out.2.2.1 k, HAN.out])
              have HBD := Lib.hid (show ∀ x ∈ A, x ≤ 17592186044416 by rw [HAN.out]; exact (HW.out.2.2.2.2.1 k hk14).2)
              have hAL : (A.length : Int) ≤ 600 := by have := (HW.out.2.2.2.2.1 k hk14).1; have h2 := HAN.out; subst h2; omega
              have hk13 : k ≤ 13 := by omega
              have HLP := Lib.hid (pairsN_length A)
              have hSq := HR.out.2.one_nil
              have HR8 := Lib.hid HR.out.1
              clear HR qk
              go_wp2_with fail
              go_loopg [6, 12] (A.length / 2) (fun m s6 s12 wx => ∃ i j : Nat, i + m = A.length / 2 ∧ Hid (j = 2 * i) ∧ s12 = .int .i64 (j : Int) ∧ ∃ cq, RowC 2 1 s6 i (iv (zv ((pairsN A).take i))) cq ∧ St w.heap.size w wx [cq, c8, cp, c])
              case atStart => exact ⟨0, 0, by omega, Lib.hid rfl, by simp, [], RowC.nil 2 1, hSq⟩
              case round =>
                clear hSq
                obtain ⟨i, j, hi, HJ, rfl, cq, hr, hS⟩ := hrel
                obtain ⟨ao6, cap6, rfl⟩ := hr.shape
                cases gk with
                | succ m =>
                  have hif : (j : Int) + 1 < (A.length : Int) := by have := HJ.out; omega
                  have hif2 : (j : Int) < (A.length : Int) := by omega
                  have hif4 : j + 1 < A.length := by omega
                  have hif3 : j < A.length := by omega
                  obtain ⟨x, hx⟩ : ∃ x, A[j]? = some x := ⟨_, List.getElem?_eq_getElem (by omega)⟩
                  obtain ⟨y, hy⟩ : ∃ y, A[j + 1]? = some y := ⟨_, List.getElem?_eq_getElem (by omega)⟩
                  obtain ⟨g8, rfl⟩ := HR8.out.head (by omega)
                  have hc1 := HR8.out.cellAt hS 1 rfl (iv_get _ j (x : Int) (zv_get hx))
                  have hc2 := HR8.out.cellAt hS 1 rfl (iv_get _ (j + 1) (y : Int) (zv_get hy))
                  have hxb := HBD.out x (List.mem_of_getElem? hx)
                  have hyb := HBD.out y (List.mem_of_getElem? hy)
                  have HX := Lib.hid (pairsN_succ A i x y (by rw [← HJ.out]; exact hx) (by rw [← HJ.out]; exact hy))
                  clear hx hy
                  have hw0 : IntKind.i64.wrap ((j : Int) + 1) = (j : Int) + 1 := IntWalk.i64_in _ (by omega)
                  have hw2 : (0 : Int) ≤ (j : Int) + 1 := by omega
                  have hw3 : ((j : Int) + 1).toNat = j + 1 := by omega
                  have hw1 : IntKind.i64.wrap ((x : Int) + (y : Int)) = (x : Int) + (y : Int) := IntWalk.i64_in _ (by omega)
                  have hi3 : (i : Int) ≤ 300 := by omega
                  have hi4 : i ≤ 300 := by omega
                  have hj4 : j ≤ 600 := by have := HJ.out; omega
                  have hSd := hS.drew.alloc' (.cells #[.int .i64 ((x : Int) + (y : Int))] 2 (0, 0))
                  go_wp2_with fail
                  go_region_law (refine step_app (n := i) (m := 1) (xs := iv (zv ((pairsN A).take i))) (news := [.int .i64 ((x : Int) + (y : Int))]) 0 22 i0 (.int .i64 0) _ _ rfl rfl rfl rfl Try.underlying22 i0a i0b i0c i0d rfl (by decide) hSd rfl hr (Rd.one _ _ _) (by simp [Value.oneCell']) (by unfold maxLen; omega) (by omega) (fun v1 c1 w5 hr1 hS5 => ?_))
                  all_goals go_wp2_with fail
                  all_goals (
                    go_roundg m
                    case measure => omega
                    case rel =>
                      refine ⟨i + 1, j + 2, by omega, Lib.hid (by have := HJ.out; omega), by go_num, c1, ?_, hS5⟩
                      rw [HX.out]
                      simpa [zv, iv] using hr1)
                | zero =>
                  have hif : ¬ (j : Int) + 1 < (A.length : Int) := by have := HJ.out; omega
                  have HI : Hid (i = (pairsN A).length) := Lib.hid (by have := HLP.out; omega)
                  have HRS := Lib.hid (And.intro hr hS)
                  have hi3 : (i : Int) ≤ 300 := by omega
                  have hi4 : i ≤ 300 := by omega
                  have hj4 : j ≤ 600 := by have := HJ.out; omega
                  clear hr hS hi
                  go_wp2_with fail
                  go_roundg mk
                  case measure => omega
                  case rel =>
                    have hr := HRS.out.1
                    rw [List.take_of_length_le (Nat.le_of_eq HI.out.symm)] at hr
                    exact ⟨k + 1, by omega, by omega, by go_num, cq, by rw [HAP.out, ← HI.out]; exact hr, HRS.out.2.pick [0, 3] (by decide) [cq, c] rfl⟩
end Go.Proofs.Ytmjkacfhhnnlnaa

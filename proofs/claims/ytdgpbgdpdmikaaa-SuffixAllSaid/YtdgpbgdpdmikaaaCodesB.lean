/-
  Contracts of the package codes: firsts, Of.
-/
import Derived.Test.YtdgpbgdpdmikaaaCodes
import Derived.Test.YtdgpbgdpdmikaaaMake
set_option linter.unusedVariables false
set_option linter.unusedSimpArgs false
namespace Go.Proofs.Ytdgpbgdpdmikaaa
open Go.RowKit
set_option maxRecDepth 100000
theorem results_cell_one {P : Program} {B : Nat} {w0 w : World} {L : List HL} {fn : Func} {p : Tmp} {ty : TypeId} (h : fn.results = #[.cell p ty]) (tmps : Array Value) (g : Nat) (t : TypeId) (cs : Array Value) (d : TypeDesc) (i : Nat)
    (hp : tmps.getD p undef = .pointer (some ⟨g, 0, none⟩)) (hS : St B w0 w L) (hi : L[i]? = some [(g, .cells cs t (0, 0))])
    (hu : P.underlying ty = some d) (hd : (match d with | .struct _ | .array _ _ => true | _ => false) = true) (hz : (P.info? ty).map (·.size) = some cs.size) :
    (results fn tmps).run P w = .ok (.agg cs) w := by
  have hp' : tmps[p]?.getD undef = .pointer (some ⟨g, 0, none⟩) := by simpa using hp
  simp [results, h, hp', asAddr, run_loadVar_row w g t ty cs (0, 0) d (hS.heap i hi) hu hd hz]
theorem fstP_small (l : List Int) (hk : kraftP l ≤ 32768) (k : Nat) (h : k ≤ 15) : endP l k ≤ 32768 ∧ fstP l k ≤ 32768 ∧ cntP l k ≤ 32768 := by
  have h1 := endP_le l hk k h
  have h2 : 2 ^ k ≤ 2 ^ 15 := Nat.pow_le_pow_right (by omega) h
  have h3 : endP l k = fstP l k + cntP l k := rfl
  omega
set_option maxHeartbeats 1000000 in
theorem firsts_any (l : List Int) (w : World) (hk : kraftP l ≤ 32768) :
    Calls Try.prog 40 #[.agg (arrI fun k => (cntP l k : Int))] w fun e w' => e = .returned (.agg (arrI fun k => (fstP l k : Int))) ∧ St w.heap.size w w' [] := by
  have hz : (#[.int .i64 0, .int .i64 0, .int .i64 0, .int .i64 0, .int .i64 0, .int .i64 0, .int .i64 0, .int .i64 0, .int .i64 0, .int .i64 0, .int .i64 0, .int .i64 0, .int .i64 0, .int .i64 0, .int .i64 0, .int .i64 0] : Array Value) = arrI (fun _ => 0) := rfl
  have hS := (((St.init w).alloc (.cells (arrI fun k => (cntP l k : Int)) 70)).alloc (.cells (arrI fun _ => 0) 70)).alloc (.cells (arrI fun _ => 0) 70)
  go_enter Try.func40, Try.ntmps40
  go_wp2_with fail
  clear hz
  go_loopg [4] 15 (fun m s4 wr => ∃ i : Nat, i + m = 15 ∧ s4 = .int .i64 ((i : Int) + 1) ∧ St w.heap.size w wr [[(w.heap.size + 2, .cells (arrI fun k => if k ≤ i then (fstP l k : Int) else 0) 70 (0, 0))], [(w.heap.size + 1, .cells (arrI fun _ => 0) 70 (0, 0))], [(w.heap.size, .cells (arrI fun k => (cntP l k : Int)) 70 (0, 0))]])
  case atStart =>
    refine ⟨0, by omega, rfl, ?_⟩
    rw [show (arrI fun k => if k ≤ 0 then (fstP l k : Int) else 0) = arrI fun _ => 0 from arrI_congr fun k _ => by split <;> simp_all [fstP]]
    simpa using hS
  case round =>
    clear hS
    obtain ⟨i, hi, rfl, hS⟩ := hrel
    cases gk with
    | zero =>
      obtain rfl : i = 15 := by omega
      clear hi
      rw [show (arrI fun k => if k ≤ 15 then (fstP l k : Int) else 0) = arrI fun k => (fstP l k : Int) from arrI_congr fun k _ => by rw [if_pos (by omega)]] at hS
      go_wp2_with (first | (refine wpList_loadRow 0 70 _ rfl rfl rfl Try.underlying70 rfl (h16 _) hS rfl ?_) | (refine wpList_storeRow 1 70 _ _ rfl rfl rfl rfl (h16 _) (by rw [arrI_size, arrI_size]) (arrI_all _) hS rfl ?_; intro w2 hS2))
      ((try simp only [Exit.inBlock, Exit.then]); refine bodyPost_ret (results_cell_one rfl _ _ _ _ _ 1 rfl hS2 rfl Try.underlying70 rfl (h16 _)) rfl ?_)
      exact ⟨rfl, hS2.pick [] (by simp) [] rfl⟩
    | succ m =>
      have hi15 : i < 15 := by omega
      have h0 := hS.cell 0 rfl (List.mem_singleton.2 rfl) i
      rw [arrI_get _ _ (by omega), if_pos (Nat.le_refl _)] at h0
      have h1 := hS.cell 2 rfl (List.mem_singleton.2 rfl) i
      rw [arrI_get _ _ (by omega)] at h1
      have hf := hS.free 0 rfl (List.mem_singleton.2 rfl) (i + 1)
      have h2 := hS.cell 0 rfl (List.mem_singleton.2 rfl) (i + 1)
      rw [arrI_get _ _ (by omega), if_neg (by omega)] at h2
      have hsm := fstP_small l hk i (by omega)
      have hst := hS.drew.store 0 rfl (i + 1) (.int .i64 (((fstP l i : Int) + cntP l i) * 2))
      rw [arrI_set, show (arrI fun j => if j = i + 1 then ((fstP l i : Int) + cntP l i) * 2 else if j ≤ i then (fstP l j : Int) else 0) = arrI fun k => if k ≤ i + 1 then (fstP l k : Int) else 0 from arrI_congr fun k _ => by
        by_cases e : k = i + 1
        · subst e; rw [if_pos rfl, if_pos (Nat.le_refl _), fstP]; simp
        · rw [if_neg e]
          by_cases e2 : k ≤ i
          · rw [if_pos e2, if_pos (by omega)]
          · rw [if_neg e2, if_neg (by omega)]] at hst
      have b1 : (fstP l i : Int) ≤ 32768 := by omega
      have b2 : (cntP l i : Int) ≤ 32768 := by omega
      have HS := Lib.hid hst
      clear hst
      go_wp2_with (first | ((with_reducible refine wpStill_plain ?_ ?_ (fun _ _ => ?_)); rfl; rfl) | (with_reducible refine wpStill_nil ?_) | ((with_reducible refine wp_draw_tail (id := 5) 12 mixed ?_ (fun _ hK => ?_)); kernel_rfl; simp only [List.take_succ_cons, List.take_zero, List.drop_succ_cons, List.drop_zero] at hK ⊢))
      go_roundg m
      case measure => omega
      case rel => exact ⟨i + 1, by omega, by go_num, HS.out⟩
theorem infoCode : (Try.prog.info? 34).map (fun i => (i.zero, i.size, i.bytes)) = some (some (.agg #[.int .u32 0, .int .i64 0]), 2, 16) := by kernel_rfl
/-- The cells of a symbol's code. -/
def codeCell (l : List Int) (s : Nat) : List Value := if 0 < l.getD s 0 then [.int .u32 (codeP l s : Int), .int .i64 (l.getD s 0)] else [.int .u32 0, .int .i64 0]
theorem codeCell_len (l : List Int) (s : Nat) : (codeCell l s).length = 2 := by unfold codeCell; split <;> rfl
def codesV (l : List Int) : List Value := rowsOf (codeCell l) l.length
def codesTo (l : List Int) (i : Nat) : List Value := rowsOf (fun s => if s < i then codeCell l s else [.int .u32 0, .int .i64 0]) l.length
theorem codesTo_all (l : List Int) : codesTo l l.length = codesV l := rowsOf_congr _ _ _ fun i hi => by simp [hi]
theorem codesTo_len (l : List Int) (i : Nat) : (codesTo l i).length = l.length * 2 := rowsOf_length _ _ 2 fun k => by split <;> simp [codeCell_len]
theorem codesTo_set (l : List Int) (i K : Nat) (h : l[i]? = some (K : Int)) (hK : 0 < K) : ((codesTo l i).set (i * 2) (.int .u32 (codeP l i : Int))).set (i * 2 + 1) (.int .i64 (K : Int)) = codesTo l (i + 1) := by
  unfold codesTo
  rw [rowsOf_set2 _ _ _ _ _ (fun k => by split <;> simp [codeCell_len]) (List.getElem?_eq_some_iff.1 h).1]
  apply rowsOf_congr
  intro k hk
  have hd : l.getD i 0 = (K : Int) := by rw [List.getD_eq_getElem?_getD, h]; rfl
  by_cases e : k = i
  · subst e
    rw [if_pos rfl, if_pos (by omega)]
    unfold codeCell
    rw [hd, if_pos (by omega)]
  · rw [if_neg e]
    by_cases e2 : k < i
    · rw [if_pos e2, if_pos (by omega)]
    · rw [if_neg e2, if_neg (by omega)]
theorem codesTo_none (l : List Int) (i : Nat) (h : l[i]? = some 0) : codesTo l i = codesTo l (i + 1) := by
  apply rowsOf_congr
  intro k hk
  have hd : l.getD i 0 = 0 := by rw [List.getD_eq_getElem?_getD, h]; rfl
  by_cases e : k = i
  · subst e
    rw [if_neg (by omega), if_pos (by omega)]
    unfold codeCell
    rw [hd, if_neg (by omega)]
  · by_cases e2 : k < i
    · rw [if_pos e2, if_pos (by omega)]
    · rw [if_neg e2, if_neg (by omega)]
theorem of_bad (v : Value) (l : List Int) (w : World) (h : Rd w 1 v l.length (iv l)) (hn : l.length ≤ 1000000) (hb : okLens l = false) :
    Calls Try.prog 17 #[v] w fun e w' => e = .returned (.tuple #[.slice none 0 0, .int .i64 10]) ∧ St w.heap.size w w' [] := by
  have HB := Lib.hid hb
  clear hb
  go_enter Try.func17, Try.ntmps17
  go_wp2_with fail
  refine (counts_any v l w h hn).mono ?_
  rintro e w1 ⟨f, rfl, _, hS1⟩
  rw [HB.out]
  have hS2 := hS1.alloc (.cells (arrI fun _ => 0) 70)
  have hz : (#[.int .i64 0, .int .i64 0, .int .i64 0, .int .i64 0, .int .i64 0, .int .i64 0, .int .i64 0, .int .i64 0, .int .i64 0, .int .i64 0, .int .i64 0, .int .i64 0, .int .i64 0, .int .i64 0, .int .i64 0, .int .i64 0] : Array Value) = arrI (fun _ => 0) := rfl
  go_wp2_with (first | (refine wpList_storeRow 0 70 _ _ rfl rfl rfl rfl (h16 _) (by rw [arrI_size, arrI_size]) (arrI_all _) hS2 rfl ?_; intro w2 hS3))
  go_ret2
  exact ⟨rfl, hS3.pick [] (by simp) [] rfl⟩
theorem cntP_take_succ (l : List Int) (i K k : Nat) (h : l[i]? = some (K : Int)) (hK : 0 < K) : cntP (l.take (i + 1)) k = cntP (l.take i) k + (if k = K then 1 else 0) := by
  unfold cntP
  by_cases e : k = 0
  · subst e; rw [if_pos rfl, if_pos rfl, if_neg (by omega)]
  · rw [if_neg e, if_neg e, List.take_add_one, h, List.count_append]
    by_cases e2 : k = K
    · subst e2; simp
    · have : ((K : Int) == (k : Int)) = false := by simp; omega
      rw [if_neg e2]
      simp [List.count_cons, this]
theorem cntP_take_zero (l : List Int) (i k : Nat) (h : l[i]? = some 0) : cntP (l.take (i + 1)) k = cntP (l.take i) k := by
  unfold cntP
  by_cases e : k = 0
  · rw [if_pos e, if_pos e]
  · rw [if_neg e, if_neg e, List.take_add_one, h, List.count_append]
    have : ((0 : Int) == (k : Int)) = false := by simp; omega
    simp [List.count_cons, this]
set_option maxHeartbeats 2000000 in
theorem of_ok (v : Value) (l : List Int) (w : World) (h : Rd w 1 v l.length (iv l)) (hn : l.length ≤ 300) (hok : okLens l = true) :
    Calls Try.prog 17 #[v] w fun e w' => ∃ u c, e = .returned (.tuple #[u, .int .i64 0]) ∧ RowC 34 2 u l.length (codesV l) c ∧ St w.heap.size w w' [c] := by
  obtain ⟨i0, i0a, i0b, i0c, i0d⟩ := info_parts infoCode
  have hok2 := (okLens_iff l).1 hok
  have hk := hok2.2.1
  have hall := hok2.2.2
  have HOK := Lib.hid hok
  have HALL := Lib.hid hall
  obtain ⟨ao, cap, rfl⟩ := h.shape
  have hnl : (l.length : Int) ≤ 300 := by omega
  clear hok hok2 hall
  have hz : (#[.int .i64 0, .int .i64 0, .int .i64 0, .int .i64 0, .int .i64 0, .int .i64 0, .int .i64 0, .int .i64 0, .int .i64 0, .int .i64 0, .int .i64 0, .int .i64 0, .int .i64 0, .int .i64 0, .int .i64 0, .int .i64 0] : Array Value) = arrI (fun _ => 0) := rfl
  go_enter Try.func17, Try.ntmps17
  go_wp2_with fail
  refine (counts_any _ l w h (by omega)).mono ?_
  rintro e w1 ⟨f, rfl, hf, hS1⟩
  rw [HOK.out]
  replace hf := hf HOK.out
  rw [hf]
  clear hf
  have hS2 := hS1.alloc (.cells (arrI fun _ => 0) 70)
  go_wp2_with (first | (refine wpList_storeRow 0 70 _ _ rfl rfl rfl rfl (h16 _) (by rw [arrI_size, arrI_size]) (arrI_all _) hS2 rfl ?_; intro w2 hS3) | (refine wpList_loadRow 0 70 _ rfl rfl rfl Try.underlying70 rfl (h16 _) hS3 rfl ?_))
  refine (firsts_any l _ hk).mono ?_
  rintro e w3 ⟨rfl, hS4⟩
  have hS5 := (hS3.mono hS4.below).alloc (.cells (arrI fun _ => 0) 70)
  clear hS2 hS3 hS4
  go_wp2_with (first | (refine wpList_storeRow 0 70 _ _ rfl rfl rfl rfl (h16 _) (by rw [arrI_size, arrI_size]) (arrI_all _) hS5 rfl ?_; intro w4 hS6) | ((refine wpList_mkN (n := l.length) 25 i0 (.agg #[.int .u32 0, .int .i64 0]) [.int .u32 0, .int .i64 0] _ _ rfl rfl _ _ _ _ rfl rfl Try.underlying25 i0a i0b i0c i0d rfl rfl (by omega) ?_ ?_ ?_ ?_ hS6 ?_); omega; omega; omega; (unfold maxLen; omega); intro g cC w5 hrC hS7))
  have e0 : (List.replicate l.length [Value.int .u32 0, Value.int .i64 0]).flatten = codesTo l 0 := by
    rw [rowsOf_replicate]
    exact rowsOf_congr _ _ _ fun k _ => by simp
  have e1 : (arrI fun k => (fstP l k : Int)) = arrI fun k => ((fstP l k + cntP (l.take 0) k : Nat) : Int) := arrI_congr fun k _ => by simp [cntP]
  have E := Lib.hid (And.intro e0 e1)
  clear e0 e1 hS5 hS6 hS1 hz
  go_loopg [24] l.length (fun m s24 wr => ∃ i : Nat, i + m = l.length ∧ s24 = .int .i64 (i : Int) ∧ ∃ cC, RowC 34 2 (.slice (some ⟨g, 0, none⟩) l.length l.length) l.length (codesTo l i) cC ∧ St w.heap.size w wr [cC, [(w3.heap.size, .cells (arrI fun k => ((fstP l k + cntP (l.take i) k : Nat) : Int)) 70 (0, 0))]])
  case atStart =>
    refine ⟨0, by omega, rfl, cC, by rw [← E.out.1]; exact hrC, ?_⟩
    rw [← E.out.2]
    exact hS7.pick [0, 1] (by decide) _ rfl
  case round =>
    clear hrC hS7
    obtain ⟨i, hi, rfl, cC, hrC, hS⟩ := hrel
    cases gk with
    | zero =>
      obtain rfl : i = l.length := by omega
      clear hi
      rw [codesTo_all] at hrC
      go_wp2_with fail
      go_ret2
      exact ⟨_, cC, rfl, hrC, hS.pick [0] (by decide) _ rfl⟩
    | succ m =>
      have hlt : i < l.length := by omega
      obtain ⟨k, hk⟩ : ∃ k, l[i]? = some k := ⟨_, List.getElem?_eq_getElem hlt⟩
      obtain ⟨ad, rfl, hcell⟩ := (h.st hS).at (iv_get l i k hk)
      have hk0 := HALL.out k (List.mem_of_getElem? hk)
      obtain ⟨K, rfl⟩ := Int.eq_ofNat_of_zero_le hk0.1
      have HK := Lib.hid hk
      clear hk
      cases K with
      | zero =>
        go_wp2_with fail
        go_roundg m
        case measure => omega
        case rel =>
          have hk := HK.out
          refine ⟨i + 1, by omega, by go_num, cC, by rw [← codesTo_none l i hk]; exact hrC, ?_⟩
          rw [show (arrI fun k => ((fstP l k + cntP (l.take (i + 1)) k : Nat) : Int)) = arrI fun k => ((fstP l k + cntP (l.take i) k : Nat) : Int) from arrI_congr fun k _ => by rw [cntP_take_zero l i k hk]]
          exact hS
      | succ K =>
        have hK : K + 1 ≤ 15 := by omega
        have hsm := fstP_small l (by assumption) (K + 1) hK
        have hcl : cntP (l.take i) (K + 1) ≤ 300 := by unfold cntP; rw [if_neg (by omega)]; exact Nat.le_trans List.count_le_length (by rw [List.length_take]; omega)
        have hap := hrC.apart hS 0 1 rfl rfl (by omega)
        have hgp := hap.1
        have hpg := hap.2
        have hld := hS.cell 1 rfl (List.mem_singleton.2 rfl) (K + 1)
        rw [arrI_get _ _ (by omega)] at hld
        have hf1 := hrC.freeAt hS 0 rfl (i * 2)
        have hf2 := hrC.freeAt hS 0 rfl (i * 2 + 1)
        have hfr := hS.free 1 rfl (List.mem_singleton.2 rfl) (K + 1)
        obtain ⟨u1, hu1⟩ : ∃ u, (codesTo l i)[i * 2]? = some u := ⟨_, List.getElem?_eq_getElem (by rw [codesTo_len]; omega)⟩
        obtain ⟨u2, hu2⟩ : ∃ u, (codesTo l i)[i * 2 + 1]? = some u := ⟨_, List.getElem?_eq_getElem (by rw [codesTo_len]; omega)⟩
        have hl1 := hrC.cellAt hS 0 rfl hu1
        have hl2 := hrC.cellAt hS 0 rfl hu2
        clear hap hu1 hu2
        have b1 : ((fstP l (K + 1) + cntP (l.take i) (K + 1) : Nat) : Int) ≤ 40000 := by omega
        have b0 : (0 : Int) ≤ ((fstP l (K + 1) + cntP (l.take i) (K + 1) : Nat) : Int) := by omega
        have hcode : fstP l (K + 1) + cntP (l.take i) (K + 1) = codeP l i := by
          rw [codeP_eq l i (K + 1) HK.out, cntP, if_neg (by omega)]
        have HC := Lib.hid hcode
        clear hcode hsm hcl
        generalize hN : ((fstP l (K + 1) + cntP (l.take i) (K + 1) : Nat) : Int) = N at *
        have HN := Lib.hid hN
        clear hN
        go_wp2_with fail
        go_roundg m
        case measure => omega
        case rel =>
          obtain ⟨c1, hr1, hS1⟩ := hrC.store hS 0 rfl rfl (i * 2) (.int .u32 N)
          obtain ⟨c2, hr2, hS2⟩ := hr1.store hS1 0 rfl rfl (i * 2 + 1) (.int .i64 ((K + 1 : Nat) : Int))
          have hS3 := hS2.store 1 rfl (K + 1) (.int .i64 (N + 1))
          rw [arrI_set, ← HN.out] at hS3
          rw [← HN.out, HC.out, codesTo_set l i (K + 1) HK.out (by omega)] at hr2
          refine ⟨i + 1, by omega, by go_num, c2, hr2, ?_⟩
          rw [← HN.out]
          rw [show (arrI fun j => if j = K + 1 then ((fstP l (K + 1) + cntP (l.take i) (K + 1) : Nat) : Int) + 1 else ((fstP l j + cntP (l.take i) j : Nat) : Int)) = arrI fun k => ((fstP l k + cntP (l.take (i + 1)) k : Nat) : Int) from arrI_congr fun j _ => by
            rw [cntP_take_succ l i (K + 1) j HK.out (by omega)]
            by_cases e : j = K + 1
            · subst e; simp; omega
            · simp [e]] at hS3
          exact hS3
end Go.Proofs.Ytdgpbgdpdmikaaa

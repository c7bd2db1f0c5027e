/-
  Contracts of the reference: Seal, Encode of a record.
-/
import Derived.Test.YthgbkncanoknkaaRefNum
import Derived.Test.YthgbkncanoknkaaSg12
import Derived.Test.YthgbkncanoknkaaHeldM
import Derived.Deep.RegionHeld
set_option linter.unusedVariables false
set_option linter.unusedSimpArgs false
namespace Go.Proofs.Ythgbkncanoknkaa
open Go.RowKit
set_option maxRecDepth 100000
set_option maxHeartbeats 2000000 in
theorem refseal1_any (v : Value) (b : List UInt8) (w : World) (h : Rd w 1 v b.length (bv b)) (hn : b.length ≤ 1000000) :
    Calls Try.prog 49 #[v] w (BytesOut (sealP b) w) := by
  obtain ⟨i0, i0a, i0b, i0c, i0d⟩ := info_parts infoU8
  obtain ⟨ao, cap, rfl⟩ := h.shape
  have H0 := Lib.hid h
  have hwl : IntKind.u32.wrap (b.length : Int) = (b.length : Int) := by rw [wrap_u32']; omega
  have hwl2 : (b.length : Int) % 4294967296 = (b.length : Int) := by omega
  clear h
  go_enter Try.func49, Try.ntmps49
  go_wp2_with fail
  refine (reffour1_any b.length w (by omega)).mono ?_
  rintro e w1 ⟨v1, c1, rfl, hr1, hS1⟩
  obtain ⟨ao1, cap1, rfl⟩ := hr1.shape
  have hl4 : (fourB b.length).length = 4 := rfl
  generalize hf4 : fourB b.length = n4 at *
  have HF4 := Lib.hid hf4
  have HL4 := Lib.hid hl4
  have H1 := Lib.hid (And.intro hr1 hS1)
  have hSn := hS1.one_nil
  have hr0 : RowC 5 1 (.slice none 0 0) 0 [] [] := RowC.nil _ _
  have hrd := hr1.rd hSn 1 rfl
  clear hr1 hS1 hf4 hl4
  go_wp2_with ((at_builtin; (refine wpList_app 0 29 i0 (.int .u8 0) _ _ rfl rfl rfl rfl Try.underlying29 i0a i0b i0c i0d rfl (by decide) hSn rfl hr0 hrd (bv_one _) ?_ ?_ ?_); (unfold maxLen; omega); omega; intro v2 c2 w2 hr2 hS2); rw [List.nil_append, Nat.zero_add] at hr2; (obtain ⟨ao2, cap2, rfl⟩ := hr2.shape); replace hS2 := hS2.pick [0, 1] (by decide) [c2, c1] rfl; have H2 := Lib.hid (And.intro hr2 hS2); clear hr2 hS2 hSn hr0 hrd)
  refine (refsum1_any (.slice ao1 4 cap1) n4 w2 (by rw [HL4.out]; exact H1.out.1.rd H2.out.2 1 rfl) (by rw [HL4.out]; omega)).mono ?_
  rintro e w3 ⟨rfl, rfl⟩
  go_wp2_with fail
  refine (reffour1_any (crcP n4) w2 (crcP_lt _)).mono ?_
  rintro e w3 ⟨v3, c3, rfl, hr3, hS3⟩
  have hS3' := H2.out.2.join hS3
  have hr2' := H2.out.1
  have hrd3 := hr3.rd hS3' 0 rfl
  obtain ⟨ao3, cap3, rfl⟩ := hr3.shape
  clear hS3 hr3
  go_wp2_with ((at_builtin; (refine wpList_app 1 29 i0 (.int .u8 0) _ _ rfl rfl rfl rfl Try.underlying29 i0a i0b i0c i0d rfl (by decide) hS3' rfl hr2' hrd3 (bv_one _) ?_ ?_ ?_); (unfold maxLen; omega); omega; intro v4 c4 w4 hr4 hS4); (obtain ⟨ao4, cap4, rfl⟩ := hr4.shape); rw [← bv_append] at hr4; have H4 := Lib.hid (And.intro hr4 (hS4.pick [1] (by decide) [c4] rfl)); clear hr4 hS4 hS3' hr2' hrd3)
  refine (refsum1_any (.slice ao b.length cap) b w4 (H0.out.st H4.out.2) hn).mono ?_
  rintro e w5 ⟨rfl, rfl⟩
  go_wp2_with fail
  refine (reffour1_any (crcP b) w4 (crcP_lt _)).mono ?_
  rintro e w5 ⟨v5, c5, rfl, hr5, hS5⟩
  have hS5' := H4.out.2.join hS5
  have hr4' := H4.out.1
  have hrd5 := hr5.rd hS5' 0 rfl
  obtain ⟨ao5, cap5, rfl⟩ := hr5.shape
  clear hS5 hr5
  go_wp2_with (first | ((at_builtin; (refine wpList_app 0 29 i0 (.int .u8 0) _ _ rfl rfl rfl rfl Try.underlying29 i0a i0b i0c i0d rfl (by decide) hS6 rfl hr6 hrd0 (bv_one _) ?_ ?_ ?_); (unfold maxLen; omega); omega; intro v7 c7 w7 hr7 hS7); (obtain ⟨ao7, cap7, rfl⟩ := hr7.shape); rw [← bv_append] at hr7; replace hS7 := hS7.pick [0] (by decide) [c7] rfl; clear hS6 hr6 hrd0) | ((at_builtin; (refine wpList_app 1 29 i0 (.int .u8 0) _ _ rfl rfl rfl rfl Try.underlying29 i0a i0b i0c i0d rfl (by decide) hS5' rfl hr4' hrd5 (bv_one _) ?_ ?_ ?_); (unfold maxLen; omega); omega; intro v6 c6 w6 hr6 hS6); (obtain ⟨ao6, cap6, rfl⟩ := hr6.shape); rw [← bv_append] at hr6; replace hS6 := hS6.pick [1] (by decide) [c6] rfl; have hrd0 := H0.out.st hS6; clear hS5' hr4' hrd5))
  go_ret
  refine ⟨_, c7, rfl, ?_, hS7⟩
  have e : n4 ++ fourB (crcP n4) ++ fourB (crcP b) ++ b = sealP b := by unfold sealP; rw [HF4.out]
  rw [← e]
  have el : (n4 ++ fourB (crcP n4) ++ fourB (crcP b) ++ b).length = 4 + 4 + 4 + b.length := by simp only [List.length_append, fourB_length, HL4.out]
  rw [el]
  exact hr7
theorem refseal1_n (v : Value) (b : List UInt8) (n : Nat) (w : World) (h : Rd w 1 v n (bv b)) (hn : n ≤ 1000000) :
    Calls Try.prog 49 #[v] w (BytesOut (sealP b) w) := by
  obtain rfl := rd_len h
  exact refseal1_any v b w h hn
theorem RowC.lit1e (g : Nat) (u : Value) (T : TypeId) : RowC T 1 (.slice (some ⟨g, 0, none⟩) 1 1) 1 [u] [(g, .cells #[u] T (0, 0))] :=
  ⟨rfl, .inr ⟨g, 1, #[u], rfl, rfl, Nat.le_refl _, by simp [maxLen], rfl, rfl⟩⟩
/-- A record's bytes, and sealed. -/
def encB (r : Rec) : List UInt8 := [UInt8.ofNat r.kind.toNat] ++ putN r.seq.toNat ++ textP r.key ++ (if r.kind = 1 then textP r.val else [])
def encR (r : Rec) : List UInt8 := sealP (encB r)
set_option maxHeartbeats 4000000 in
theorem refenc14_any (r : Rec) (w : World) (hok : OkR r) : Calls Try.prog 36 #[recV r] w (BytesOut (encR r) w) := by
  obtain ⟨i0, i0a, i0b, i0c, i0d⟩ := info_parts infoU8
  obtain ⟨kind, seq, key, val⟩ := r
  have HCK := Lib.hid (ck_ok.2 hok)
  obtain ⟨_, h2, h3, h4, h5, h6, h7⟩ := hok
  dsimp only at h2 h3 h4 h5 h6 h7
  obtain ⟨kn, rfl⟩ := Int.eq_ofNat_of_zero_le (show 0 ≤ kind by omega)
  obtain ⟨sn, rfl⟩ := Int.eq_ofNat_of_zero_le (show 0 ≤ seq by omega)
  have hkn : kn ≤ 1 := by omega
  have HE : Hid (encR ⟨(kn : Int), (sn : Int), key, val⟩ = sealP ([UInt8.ofNat kn] ++ putN sn ++ textP key ++ (if kn = 1 then textP val else []))) := Lib.hid (by
    unfold encR encB
    dsimp only
    rw [Int.toNat_natCast, Int.toNat_natCast]
    by_cases e : kn = 1
    · rw [if_pos e, if_pos (by omega)]
    · rw [if_neg e, if_neg (by omega)])
  have HCALL := Lib.hid (refcheck14_any ⟨(kn : Int), (sn : Int), key, val⟩ (w.alloc (.cells #[.int .i64 (kn : Int), .int .i64 (sn : Int), .string ⟨key.toArray⟩, .string ⟨val.toArray⟩] 26 (0, 0))))
  have HSB := Lib.hid ((St.init w).alloc (.cells #[.int .i64 (kn : Int), .int .i64 (sn : Int), .string ⟨key.toArray⟩, .string ⟨val.toArray⟩] 26 (0, 0)))
  unfold recV at HCALL ⊢
  dsimp only at HCALL ⊢
  have HK0 : Hid (kn = 0 → val = []) := Lib.hid (fun e => h5 (by omega))
  clear h4 h5
  go_enter Try.func36, Try.ntmps36
  go_wp2_with fail
  refine HCALL.out.mono ?_
  rintro e w2 ⟨rfl, o, rfl⟩
  rw [HCK.out]
  have HS2 := Lib.hid (HSB.out.alloc' o)
  generalize (w.alloc (.cells #[.int .i64 (kn : Int), .int .i64 (sn : Int), .string ⟨key.toArray⟩, .string ⟨val.toArray⟩] 26 (0, 0))).alloc o = w2 at HS2 ⊢
  clear HSB HCALL
  go_wp2_with fail
  have HCELL : Hid (∀ w' : World, (w'.cell? ⟨w.heap.size, 0, none⟩ = some (.int .i64 (kn : Int)) ∧ w'.cell? ⟨w.heap.size, 1, none⟩ = some (.int .i64 (sn : Int))) → w'.cell? ⟨w.heap.size, 0, none⟩ = some (.int .i64 (kn : Int)) ∧ w'.cell? ⟨w.heap.size, 1, none⟩ = some (.int .i64 (sn : Int)) ∧ True ∧ True) := Lib.hid fun w' h => ⟨h.1, h.2, trivial, trivial⟩
  have HCS : Hid (∀ (w' : World) (L : List HL) (j : Nat), St w.heap.size w w' L → L[j]? = some [(w.heap.size, .cells #[.int .i64 (kn : Int), .int .i64 (sn : Int), .string ⟨key.toArray⟩, .string ⟨val.toArray⟩] 26 (0, 0))] → w'.cell? ⟨w.heap.size, 0, none⟩ = some (.int .i64 (kn : Int)) ∧ w'.cell? ⟨w.heap.size, 1, none⟩ = some (.int .i64 (sn : Int))) := Lib.hid fun w' L j hS hj => ⟨hS.cell j hj (List.mem_singleton.2 rfl) 0, hS.cell j hj (List.mem_singleton.2 rfl) 1⟩
  have qx0 : IntKind.u8.wrap (kn : Int) = (kn : Int) := by
    show ((kn : Int) % 256) = _
    omega
  have qx1 : IntKind.u64.wrap (sn : Int) = (sn : Int) := by rw [wrap_u64']; omega
  have qx2 : (kn : Int) % 256 = (kn : Int) := by omega
  have HBV : Hid (bv [UInt8.ofNat kn] = [.int .u8 (kn : Int)]) := Lib.hid (by
    have : (UInt8.ofNat kn).toNat = kn := by simp only [UInt8.toNat_ofNat']; omega
    simp only [bv, List.map_cons, List.map_nil, this])
  have hpl := putN_le sn
  refine wp_region_held_drew (S := fun w' => w'.cell? ⟨w.heap.size, 0, none⟩ = some (.int .i64 (kn : Int)) ∧ w'.cell? ⟨w.heap.size, 1, none⟩ = some (.int .i64 (sn : Int))) mixed (HCS.out _ _ 0 HS2.out.drew rfl) (fun hSS => ?_)
  refine take_d (i := 0) 7 (.pointer (some ⟨w.heap.size, 0, none⟩)) rfl rfl (by kernel_rfl) (by kernel_rfl) (by kernel_rfl) (fun _ _ _ h => h) (Or.inl ⟨by rfl, ?_⟩) hSS ?_
  (focus (intro w' hw'; have hb1 := HCELL.out w' hw'; obtain ⟨hb1, hb2, hb3, hb4⟩ := hb1; first | (go_simp; done) | (go_simp; simp [qx0, qx1, qx2]; done)))
  simp only [Act.put, List.setIfInBounds_toArray, List.set_cons_zero, List.set_cons_succ]
  refine take_d (i := 1) 8 (.int .i64 (kn : Int)) rfl rfl (by kernel_rfl) (by kernel_rfl) (by kernel_rfl) (fun _ _ _ h => h) (Or.inl ⟨by rfl, ?_⟩) hSS ?_
  (focus (intro w' hw'; have hb1 := HCELL.out w' hw'; obtain ⟨hb1, hb2, hb3, hb4⟩ := hb1; first | (go_simp; done) | (go_simp; simp [qx0, qx1, qx2]; done)))
  simp only [Act.put, List.setIfInBounds_toArray, List.set_cons_zero, List.set_cons_succ]
  refine take_d (i := 2) 9 (.int .u8 (kn : Int)) rfl rfl (by kernel_rfl) (by kernel_rfl) (by kernel_rfl) (fun _ _ _ h => h) (Or.inl ⟨by rfl, ?_⟩) hSS ?_
  (focus (intro w' hw'; have hb1 := HCELL.out w' hw'; obtain ⟨hb1, hb2, hb3, hb4⟩ := hb1; first | (go_simp; done) | (go_simp; simp [qx0, qx1, qx2]; done)))
  simp only [Act.put, List.setIfInBounds_toArray, List.set_cons_zero, List.set_cons_succ]
  refine take_d (i := 4) 11 (.pointer (some ⟨w.heap.size, 1, none⟩)) rfl rfl (by kernel_rfl) (by kernel_rfl) (by kernel_rfl) (fun _ _ _ h => h) (Or.inl ⟨by rfl, ?_⟩) hSS ?_
  (focus (intro w' hw'; have hb1 := HCELL.out w' hw'; obtain ⟨hb1, hb2, hb3, hb4⟩ := hb1; first | (go_simp; done) | (go_simp; simp [qx0, qx1, qx2]; done)))
  simp only [Act.put, List.setIfInBounds_toArray, List.set_cons_zero, List.set_cons_succ]
  refine take_d (i := 5) 12 (.int .i64 (sn : Int)) rfl rfl (by kernel_rfl) (by kernel_rfl) (by kernel_rfl) (fun _ _ _ h => h) (Or.inl ⟨by rfl, ?_⟩) hSS ?_
  (focus (intro w' hw'; have hb1 := HCELL.out w' hw'; obtain ⟨hb1, hb2, hb3, hb4⟩ := hb1; first | (go_simp; done) | (go_simp; simp [qx0, qx1, qx2]; done)))
  simp only [Act.put, List.setIfInBounds_toArray, List.set_cons_zero, List.set_cons_succ]
  refine take_d (i := 6) 13 (.int .u64 (sn : Int)) rfl rfl (by kernel_rfl) (by kernel_rfl) (by kernel_rfl) (fun _ _ _ h => h) (Or.inl ⟨by rfl, ?_⟩) hSS ?_
  (focus (intro w' hw'; have hb1 := HCELL.out w' hw'; obtain ⟨hb1, hb2, hb3, hb4⟩ := hb1; first | (go_simp; done) | (go_simp; simp [qx0, qx1, qx2]; done)))
  simp only [Act.put, List.setIfInBounds_toArray, List.set_cons_zero, List.set_cons_succ]
  refine wpAnyH_ready (rs := [3, 7]) (by kernel_rfl) (by simp) (AllReadyH.cons rfl (fun K1 hK1 => ?_) (AllReadyH.cons rfl (fun K1 hK1 => ?_) AllReadyH.nil))
  · rw [if_pos (by rfl)]
    go_simp
    have hSA := (HS2.out.alloc (.cells #[.int .u8 (kn : Int)] 5 (0, 0))).drew
    have hrb : RowC 5 1 (.slice (some ⟨w2.heap.size, 0, none⟩) 1 1) 1 (bv [UInt8.ofNat kn]) [(w2.heap.size, .cells #[.int .u8 (kn : Int)] 5 (0, 0))] := by rw [HBV.out]; exact RowC.lit1e _ _ _
    obtain ⟨g2, hg2⟩ : ∃ g, g = w2.heap.size := ⟨_, rfl⟩
    generalize (w2.alloc (.cells #[.int .u8 (kn : Int)] 5 (0, 0))).drew = wA at hSA ⊢
    refine hK1.out _ _ (HCS.out _ _ 1 hSA rfl) (fun hSS => ?_)
    try simp only [Act.put, List.setIfInBounds_toArray, List.set_cons_zero, List.set_cons_succ]
    have HA := Lib.hid (And.intro hrb hSA)
    clear hrb hSA
    refine wpAnyH_ready (rs := [7]) (by kernel_rfl) (by simp) (AllReadyH.cons rfl (fun K2 hK2 => ?_) AllReadyH.nil)
    rw [if_pos (by rfl)]
    go_simp
    refine (refput1_any sn wA (by omega)).mono ?_
    rintro e wX ⟨v4, c4, rfl, hr4, hS4⟩
    obtain ⟨ao4, cap4, rfl⟩ := hr4.shape
    have hSX := HA.out.2.join hS4
    have HX : Hid (RowC _ 1 _ 1 (bv [UInt8.ofNat kn]) _ ∧ RowC _ 1 _ _ _ _ ∧ St w.heap.size w wX [_, _, _]) := Lib.hid ⟨HA.out.1, hr4, hSX.pick [1, 0, 2] (by decide) [_, c4, _] rfl⟩
    refine hK2.out _ _ (HCS.out _ _ 2 hSX rfl) (fun hSS => ?_)
    try simp only [Act.put, List.setIfInBounds_toArray, List.set_cons_zero, List.set_cons_succ]
    clear hr4 hS4 hSX hg2
    skip
    refine wpAnyH_ready (rs := [8]) (by kernel_rfl) (by simp) (AllReadyH.cons rfl (fun K5 hK5 => ?_) AllReadyH.nil)
    refine step_app (n := 1) (m := (putN sn).length) (v := .slice (some ⟨w2.heap.size, 0, none⟩) 1 1) (vx := .slice ao4 (putN sn).length cap4) (xs := bv [UInt8.ofNat kn]) (news := bv (putN sn)) 0 29 i0 (.int .u8 0) _ _ rfl rfl (by kernel_rfl) (by kernel_rfl) Try.underlying29 i0a i0b i0c i0d rfl (by decide) HX.out.2.2 rfl HX.out.1 (HX.out.2.1.rd HX.out.2.2 1 rfl) (bv_one _) (by unfold maxLen; omega) (by omega) (fun v5 c5 w5 hr5 hS5 => ?_)
    obtain ⟨ao5, cap5, rfl⟩ := hr5.shape
    rw [← bv_append] at hr5
    have H5 := Lib.hid (And.intro hr5 (hS5.pick [0, 2] (by decide) [c5, [(w.heap.size, .cells #[.int .i64 (kn : Int), .int .i64 (sn : Int), .string ⟨key.toArray⟩, .string ⟨val.toArray⟩] 26 (0, 0))]] rfl))
    refine hK5.out _ _ (HCS.out _ _ 2 hS5 rfl) (fun hSS => ?_)
    clear hr5 hS5
    try simp only [Act.put, List.setIfInBounds_toArray, List.set_cons_zero, List.set_cons_succ]
    refine wpAnyH_ready (rs := [9]) (by kernel_rfl) (by simp) (AllReadyH.cons rfl (fun K6 hK6 => ?_) AllReadyH.nil)
    rw [if_pos (by rfl)]
    go_simp
    refine hK6.out _ _ hSS (fun _ => ?_)
    refine wpAnyH_done (by kernel_rfl) ?_ _
    clear hSS HX HA
    have k2 : w5.cell? ⟨w.heap.size, 2, none⟩ = some (.string ⟨key.toArray⟩) := H5.out.2.cell 1 rfl (List.mem_singleton.2 rfl) 2
    go_wp2_with fail
    refine (reftext1_any key w5 (by omega)).mono ?_
    rintro e w6 ⟨v6, c6, rfl, hr6, hS6⟩
    obtain ⟨ao6, cap6, rfl⟩ := hr6.shape
    have hS6' := H5.out.2.join hS6
    have hr5' := H5.out.1
    have hrd6 := hr6.rd hS6' 0 rfl
    have htl : (textP key).length ≤ 110 := by unfold textP; rw [List.length_append]; have := putN_le key.length; omega
    clear hS6 hr6 k2
    by_cases q1 : kn = 1
    · have q1i : ((kn : Int) == 1) = true := by rw [beq_iff_eq]; omega
      have q1j : (kn : Int) = 1 := by omega
      have HQ1 := Lib.hid q1
      go_wp2_with ((at_builtin; (refine wpList_app 1 29 i0 (.int .u8 0) _ _ rfl rfl rfl rfl Try.underlying29 i0a i0b i0c i0d rfl (by decide) hS6' rfl hr5' hrd6 (bv_one _) ?_ ?_ ?_); (unfold maxLen; omega); omega; intro v7 c7 w7 hr7 hS7); (obtain ⟨ao7, cap7, rfl⟩ := hr7.shape); rw [← bv_append] at hr7; have k0 : w7.cell? ⟨w.heap.size, 0, none⟩ = some (.int .i64 (kn : Int)) := (hS7.cell 2 rfl (List.mem_singleton.2 rfl) 0); have k3 : w7.cell? ⟨w.heap.size, 3, none⟩ = some (.string ⟨val.toArray⟩) := (hS7.cell 2 rfl (List.mem_singleton.2 rfl) 3); have H7 := Lib.hid (And.intro hr7 (hS7.pick [1] (by decide) [c7] rfl)); clear hr7 hS7 hS6' hr5' hrd6)
      refine (reftext1_any val w7 (by omega)).mono ?_
      rintro e w8 ⟨v8, c8, rfl, hr8, hS8⟩
      obtain ⟨ao8, cap8, rfl⟩ := hr8.shape
      have hS8' := H7.out.2.join hS8
      have hr7' := H7.out.1
      have hrd8 := hr8.rd hS8' 0 rfl
      have htl2 : (textP val).length ≤ 4010 := by unfold textP; rw [List.length_append]; have := putN_le val.length; omega
      clear hS8 hr8 k0 k3
      go_wp2_with ((at_builtin; (refine wpList_app 1 29 i0 (.int .u8 0) _ _ rfl rfl rfl rfl Try.underlying29 i0a i0b i0c i0d rfl (by decide) hS8' rfl hr7' hrd8 (bv_one _) ?_ ?_ ?_); (unfold maxLen; omega); omega; intro v9 c9 w9 hr9 hS9); (obtain ⟨ao9, cap9, rfl⟩ := hr9.shape); rw [← bv_append] at hr9; have H9 := Lib.hid (And.intro (hr9.rd hS9 1 rfl) hS9.below); clear hr9 hS9 hS8' hr7' hrd8)
      refine (refseal1_n _ _ _ w9 H9.out.1 (by omega)).mono ?_
      rintro e wB ⟨vB, cB, rfl, hrB, hSB⟩
      rw [if_pos HQ1.out] at HE
      rw [← HE.out] at hrB
      obtain ⟨sl, HSL⟩ : ∃ sl, Hid (encR ⟨(kn : Int), (sn : Int), key, val⟩ = sl) := ⟨_, Lib.hid rfl⟩
      rw [HSL.out] at hrB
      obtain ⟨aoB, capB, rfl⟩ := hrB.shape
      go_wp2_with fail
      go_ret
      refine ⟨_, cB, rfl, ?_, (((St.init w).mono H9.out.2).join hSB).pick [0] (by decide) [cB] rfl⟩
      rw [HSL.out]
      exact hrB
    · have q1i : ((kn : Int) == 1) = false := by rw [beq_eq_false_iff_ne]; omega
      have q1j : ¬ (kn : Int) = 1 := by omega
      have HQ1 := Lib.hid q1
      go_wp2_with ((at_builtin; (refine wpList_app 1 29 i0 (.int .u8 0) _ _ rfl rfl rfl rfl Try.underlying29 i0a i0b i0c i0d rfl (by decide) hS6' rfl hr5' hrd6 (bv_one _) ?_ ?_ ?_); (unfold maxLen; omega); omega; intro v7 c7 w7 hr7 hS7); (obtain ⟨ao7, cap7, rfl⟩ := hr7.shape); rw [← bv_append] at hr7; have k0 : w7.cell? ⟨w.heap.size, 0, none⟩ = some (.int .i64 (kn : Int)) := (hS7.cell 2 rfl (List.mem_singleton.2 rfl) 0); have H7 := Lib.hid (And.intro (hr7.rd hS7 1 rfl) hS7.below); clear hr7 hS7 hS6' hr5' hrd6)
      refine (refseal1_n _ _ _ w7 H7.out.1 (by omega)).mono ?_
      rintro e wB ⟨vB, cB, rfl, hrB, hSB⟩
      rw [if_neg HQ1.out, List.append_nil] at HE
      rw [← HE.out] at hrB
      obtain ⟨sl, HSL⟩ : ∃ sl, Hid (encR ⟨(kn : Int), (sn : Int), key, val⟩ = sl) := ⟨_, Lib.hid rfl⟩
      rw [HSL.out] at hrB
      obtain ⟨aoB, capB, rfl⟩ := hrB.shape
      go_wp2_with fail
      go_ret
      refine ⟨_, cB, rfl, ?_, (((St.init w).mono H7.out.2).join hSB).pick [0] (by decide) [cB] rfl⟩
      rw [HSL.out]
      exact hrB
  · rw [if_pos (by rfl)]
    go_simp
    refine (refput1_any sn w2.drew (by omega)).mono ?_
    rintro e wA ⟨v4, c4, rfl, hr4, hS4⟩
    obtain ⟨ao4, cap4, rfl⟩ := hr4.shape
    have hSA := HS2.out.drew.join hS4
    refine hK1.out _ _ (HCS.out _ _ 1 hSA rfl) (fun hSS => ?_)
    try simp only [Act.put, List.setIfInBounds_toArray, List.set_cons_zero, List.set_cons_succ]
    have HA := Lib.hid (And.intro hr4 hSA)
    clear hr4 hS4 hSA
    refine wpAnyH_ready (rs := [3]) (by kernel_rfl) (by simp) (AllReadyH.cons rfl (fun K2 hK2 => ?_) AllReadyH.nil)
    rw [if_pos (by rfl)]
    go_simp
    have hSX := HA.out.2.alloc (.cells #[.int .u8 (kn : Int)] 5 (0, 0))
    have hrb : RowC 5 1 (.slice (some ⟨wA.heap.size, 0, none⟩) 1 1) 1 (bv [UInt8.ofNat kn]) [(wA.heap.size, .cells #[.int .u8 (kn : Int)] 5 (0, 0))] := by rw [HBV.out]; exact RowC.lit1e _ _ _
    generalize wA.alloc (.cells #[.int .u8 (kn : Int)] 5 (0, 0)) = wX at hSX ⊢
    have HX : Hid (RowC _ 1 _ 1 (bv [UInt8.ofNat kn]) _ ∧ RowC _ 1 _ _ _ _ ∧ St w.heap.size w wX [_, _, _]) := Lib.hid ⟨hrb, HA.out.1, hSX⟩
    refine hK2.out _ _ (HCS.out _ _ 2 hSX rfl) (fun hSS => ?_)
    try simp only [Act.put, List.setIfInBounds_toArray, List.set_cons_zero, List.set_cons_succ]
    clear hrb hSX
    skip
    refine wpAnyH_ready (rs := [8]) (by kernel_rfl) (by simp) (AllReadyH.cons rfl (fun K5 hK5 => ?_) AllReadyH.nil)
    refine step_app (n := 1) (m := (putN sn).length) (v := .slice (some ⟨wA.heap.size, 0, none⟩) 1 1) (vx := .slice ao4 (putN sn).length cap4) (xs := bv [UInt8.ofNat kn]) (news := bv (putN sn)) 0 29 i0 (.int .u8 0) _ _ rfl rfl (by kernel_rfl) (by kernel_rfl) Try.underlying29 i0a i0b i0c i0d rfl (by decide) HX.out.2.2 rfl HX.out.1 (HX.out.2.1.rd HX.out.2.2 1 rfl) (bv_one _) (by unfold maxLen; omega) (by omega) (fun v5 c5 w5 hr5 hS5 => ?_)
    obtain ⟨ao5, cap5, rfl⟩ := hr5.shape
    rw [← bv_append] at hr5
    have H5 := Lib.hid (And.intro hr5 (hS5.pick [0, 2] (by decide) [c5, [(w.heap.size, .cells #[.int .i64 (kn : Int), .int .i64 (sn : Int), .string ⟨key.toArray⟩, .string ⟨val.toArray⟩] 26 (0, 0))]] rfl))
    refine hK5.out _ _ (HCS.out _ _ 2 hS5 rfl) (fun hSS => ?_)
    clear hr5 hS5
    try simp only [Act.put, List.setIfInBounds_toArray, List.set_cons_zero, List.set_cons_succ]
    refine wpAnyH_ready (rs := [9]) (by kernel_rfl) (by simp) (AllReadyH.cons rfl (fun K6 hK6 => ?_) AllReadyH.nil)
    rw [if_pos (by rfl)]
    go_simp
    refine hK6.out _ _ hSS (fun _ => ?_)
    refine wpAnyH_done (by kernel_rfl) ?_ _
    clear hSS HX HA
    have k2 : w5.cell? ⟨w.heap.size, 2, none⟩ = some (.string ⟨key.toArray⟩) := H5.out.2.cell 1 rfl (List.mem_singleton.2 rfl) 2
    go_wp2_with fail
    refine (reftext1_any key w5 (by omega)).mono ?_
    rintro e w6 ⟨v6, c6, rfl, hr6, hS6⟩
    obtain ⟨ao6, cap6, rfl⟩ := hr6.shape
    have hS6' := H5.out.2.join hS6
    have hr5' := H5.out.1
    have hrd6 := hr6.rd hS6' 0 rfl
    have htl : (textP key).length ≤ 110 := by unfold textP; rw [List.length_append]; have := putN_le key.length; omega
    clear hS6 hr6 k2
    by_cases q1 : kn = 1
    · have q1i : ((kn : Int) == 1) = true := by rw [beq_iff_eq]; omega
      have q1j : (kn : Int) = 1 := by omega
      have HQ1 := Lib.hid q1
      go_wp2_with ((at_builtin; (refine wpList_app 1 29 i0 (.int .u8 0) _ _ rfl rfl rfl rfl Try.underlying29 i0a i0b i0c i0d rfl (by decide) hS6' rfl hr5' hrd6 (bv_one _) ?_ ?_ ?_); (unfold maxLen; omega); omega; intro v7 c7 w7 hr7 hS7); (obtain ⟨ao7, cap7, rfl⟩ := hr7.shape); rw [← bv_append] at hr7; have k0 : w7.cell? ⟨w.heap.size, 0, none⟩ = some (.int .i64 (kn : Int)) := (hS7.cell 2 rfl (List.mem_singleton.2 rfl) 0); have k3 : w7.cell? ⟨w.heap.size, 3, none⟩ = some (.string ⟨val.toArray⟩) := (hS7.cell 2 rfl (List.mem_singleton.2 rfl) 3); have H7 := Lib.hid (And.intro hr7 (hS7.pick [1] (by decide) [c7] rfl)); clear hr7 hS7 hS6' hr5' hrd6)
      refine (reftext1_any val w7 (by omega)).mono ?_
      rintro e w8 ⟨v8, c8, rfl, hr8, hS8⟩
      obtain ⟨ao8, cap8, rfl⟩ := hr8.shape
      have hS8' := H7.out.2.join hS8
      have hr7' := H7.out.1
      have hrd8 := hr8.rd hS8' 0 rfl
      have htl2 : (textP val).length ≤ 4010 := by unfold textP; rw [List.length_append]; have := putN_le val.length; omega
      clear hS8 hr8 k0 k3
      go_wp2_with ((at_builtin; (refine wpList_app 1 29 i0 (.int .u8 0) _ _ rfl rfl rfl rfl Try.underlying29 i0a i0b i0c i0d rfl (by decide) hS8' rfl hr7' hrd8 (bv_one _) ?_ ?_ ?_); (unfold maxLen; omega); omega; intro v9 c9 w9 hr9 hS9); (obtain ⟨ao9, cap9, rfl⟩ := hr9.shape); rw [← bv_append] at hr9; have H9 := Lib.hid (And.intro (hr9.rd hS9 1 rfl) hS9.below); clear hr9 hS9 hS8' hr7' hrd8)
      refine (refseal1_n _ _ _ w9 H9.out.1 (by omega)).mono ?_
      rintro e wB ⟨vB, cB, rfl, hrB, hSB⟩
      rw [if_pos HQ1.out] at HE
      rw [← HE.out] at hrB
      obtain ⟨sl, HSL⟩ : ∃ sl, Hid (encR ⟨(kn : Int), (sn : Int), key, val⟩ = sl) := ⟨_, Lib.hid rfl⟩
      rw [HSL.out] at hrB
      obtain ⟨aoB, capB, rfl⟩ := hrB.shape
      go_wp2_with fail
      go_ret
      refine ⟨_, cB, rfl, ?_, (((St.init w).mono H9.out.2).join hSB).pick [0] (by decide) [cB] rfl⟩
      rw [HSL.out]
      exact hrB
    · have q1i : ((kn : Int) == 1) = false := by rw [beq_eq_false_iff_ne]; omega
      have q1j : ¬ (kn : Int) = 1 := by omega
      have HQ1 := Lib.hid q1
      go_wp2_with ((at_builtin; (refine wpList_app 1 29 i0 (.int .u8 0) _ _ rfl rfl rfl rfl Try.underlying29 i0a i0b i0c i0d rfl (by decide) hS6' rfl hr5' hrd6 (bv_one _) ?_ ?_ ?_); (unfold maxLen; omega); omega; intro v7 c7 w7 hr7 hS7); (obtain ⟨ao7, cap7, rfl⟩ := hr7.shape); rw [← bv_append] at hr7; have k0 : w7.cell? ⟨w.heap.size, 0, none⟩ = some (.int .i64 (kn : Int)) := (hS7.cell 2 rfl (List.mem_singleton.2 rfl) 0); have H7 := Lib.hid (And.intro (hr7.rd hS7 1 rfl) hS7.below); clear hr7 hS7 hS6' hr5' hrd6)
      refine (refseal1_n _ _ _ w7 H7.out.1 (by omega)).mono ?_
      rintro e wB ⟨vB, cB, rfl, hrB, hSB⟩
      rw [if_neg HQ1.out, List.append_nil] at HE
      rw [← HE.out] at hrB
      obtain ⟨sl, HSL⟩ : ∃ sl, Hid (encR ⟨(kn : Int), (sn : Int), key, val⟩ = sl) := ⟨_, Lib.hid rfl⟩
      rw [HSL.out] at hrB
      obtain ⟨aoB, capB, rfl⟩ := hrB.shape
      go_wp2_with fail
      go_ret
      refine ⟨_, cB, rfl, ?_, (((St.init w).mono H7.out.2).join hSB).pick [0] (by decide) [cB] rfl⟩
      rw [HSL.out]
      exact hrB
end Go.Proofs.Ythgbkncanoknkaa

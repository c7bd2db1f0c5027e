/-
  Texts joined: CtGet, CtPart, CtUnpP, PureCt, SegR, Seal.
-/
import Derived.Test.YthgbkncanoknkaaSg10
import Derived.Test.YthgbkncanoknkaaSg9
import Derived.Test.YthgbkncanoknkaaSg1
import Derived.Test.YthgbkncanoknkaaSg4
import Derived.Deep.RegionHeld
/-
  Contract of container.plan's get.
-/
set_option linter.unusedVariables false
set_option linter.unusedSimpArgs false
namespace Go.Proofs.Ythgbkncanoknkaa
open Go.RowKit
set_option maxRecDepth 100000
/-- A block of a packed text. -/
def blkB (b : List UInt8) (at0 : Nat) (ls : List Nat) (k : Nat) : List UInt8 := (b.drop (at0 + (ls.take k).sum)).take (ls.getD k 0)
theorem OpenOut.lift {b : List UInt8} {size : Nat} {w w5 w' : World} {e : Ending} (hb : Below w.heap.size w w5) (h : OpenOut b size w5 e w') : OpenOut b size w e w' := by
  have h0 := (St.init w).mono hb
  rcases h with ⟨x, v, c, h1, h2, h3, h4, h5⟩ | ⟨v, h1, h2, h3⟩
  · exact .inl ⟨x, v, c, h1, h2, h3, h4, h0.join h5⟩
  · exact .inr ⟨v, h1, h0.join h2, h3⟩
theorem OpenOut.form {b : List UInt8} {size : Nat} {w w' : World} {e : Ending} (h : OpenOut b size w e w') : ∃ v q, e = .returned (.tuple #[v, .bool q]) := by
  rcases h with ⟨x, v, c, h1, _⟩ | ⟨v, h1, _⟩
  · exact ⟨v, true, h1⟩
  · exact ⟨v, false, h1⟩
theorem OpenOut.below {b : List UInt8} {size : Nat} {w w' : World} {e : Ending} (h : OpenOut b size w e w') : Below w.heap.size w w' := by
  rcases h with ⟨x, v, c, _, _, _, _, h5⟩ | ⟨v, _, h2, _⟩
  · exact h5.below
  · exact h2.below
theorem open_n (v : Value) (b : List UInt8) (n size : Nat) (w : World) (h : Rd w 1 v n (bv b)) (hn : n ≤ 1000000) (hsz : size ≤ 100000) :
    Calls Try.prog 52 #[v, .int .i64 (size : Int)] w (OpenOut b size w) := by
  obtain rfl := rd_len h
  exact open_any v b size w h hn hsz
theorem sum_take_succ (ls : List Nat) (k : Nat) (h : k < ls.length) : (ls.take (k + 1)).sum = (ls.take k).sum + ls.getD k 0 := by
  rw [List.take_add_one, List.sum_append, List.getD_eq_getElem?_getD, List.getElem?_eq_getElem h]
  simp
theorem sum_take_le (ls : List Nat) (k : Nat) : (ls.take k).sum ≤ ls.sum := by
  have := List.take_append_drop k ls
  have h2 := congrArg List.sum this
  rw [List.sum_append] at h2
  omega
theorem placesP_get (at0 : Nat) (ls : List Nat) (k : Nat) (h : k < ls.length) : (placesP at0 ls)[k]? = some ((at0 + (ls.take k).sum : Nat) : Int) := by
  unfold placesP
  rw [List.getElem?_map, List.getElem?_range h]
  rfl
set_option maxHeartbeats 2000000 in
theorem ctget_any (v : Value) (b : List UInt8) (size at0 : Nat) (ls : List Nat) (k : Nat) (aop : Option Addr) (capp : Nat) (w : World) (hb : Rd w 1 v b.length (bv b)) (hp : PlanR b size ls at0)
    (hrow : Rd w 1 (.slice aop ls.length capp) ls.length (iv (placesP at0 ls))) (hk : k < ls.length) (hn : b.length ≤ 1000000) (hls : ls.length ≤ 1000000) :
    Calls Try.prog 46 #[.agg #[.int .i64 (size : Int), .slice aop ls.length capp, .int .i64 (b.length : Int)], v, .int .i64 (k : Int)] w (OpenOut (blkB b at0 ls k) (min 1000 (size - 1000 * k)) w) := by
  obtain ⟨ao, cap, rfl⟩ := hb.shape
  obtain ⟨hx, kx, g1, g2, g3, g4, g5, g6⟩ := hp
  have hcap := hb.cap
  have hs1 := sum_take_succ ls k hk
  have hs2 := sum_take_le ls (k + 1)
  have hsz : size ≤ 1000000000 := by omega
  have hszk : 1000 * k < size := by omega
  obtain ⟨lo, hlo⟩ : ∃ lo, lo = at0 + (ls.take k).sum := ⟨_, rfl⟩
  obtain ⟨hi, hhi⟩ : ∃ hi, hi = at0 + (ls.take (k + 1)).sum := ⟨_, rfl⟩
  have hpl := placesP_get at0 ls k hk
  rw [← hlo] at hpl
  obtain ⟨adp, rfl, kp⟩ := hrow.at (iv_get _ _ _ hpl)
  have hlh : lo ≤ hi := by omega
  have hhb : hi ≤ b.length := by omega
  have hlg : ls.getD k 0 = hi - lo := by omega
  obtain ⟨ad, rfl⟩ : ∃ ad, ao = some ad := by
    cases ao with
    | none => have := hb.none_iff; have := firstP_len g1; omega
    | some ad => exact ⟨ad, rfl⟩
  obtain ⟨aox, hax⟩ : ∃ aox, (¬ cap = lo → aox = some (ad.add lo)) ∧ (cap = lo → aox = some ad) := by
    by_cases e : cap = lo
    · exact ⟨_, fun h => absurd e h, fun _ => rfl⟩
    · exact ⟨_, fun _ => rfl, fun h => absurd h e⟩
  have hrx : Rd w 1 (.slice aox (hi - lo) (cap - lo)) (hi - lo) (bv (blkB b at0 ls k)) := by
    have h1 := hb.drop (ao' := aox) lo (by omega) (fun e => by rw [hax.1 e, Nat.mul_one]; rfl) (fun e => hax.2 e)
    have h2 := h1.take (hi - lo) (by omega)
    unfold blkB
    rw [← hlo, hlg]
    rwa [← bv_drop, ← bv_take] at h2
  have HRX := Lib.hid hrx
  have hxl := rd_len hrx
  have HXL := Lib.hid hxl
  have HNX : Hid (k + 1 < ls.length → ∀ w' {L : List (List (Nat × Obj))}, St w.heap.size w w' L → w'.cell? (adp.add (k + 1)) = some (.int .i64 (hi : Int))) := Lib.hid (fun h w' L hT => by
    have hp2 := placesP_get at0 ls (k + 1) h
    rw [← hhi] at hp2
    obtain ⟨_, e1, k2⟩ := (hrow.st hT).at (iv_get _ _ _ hp2)
    cases e1
    exact k2)
  have HEND : Hid (¬ k + 1 < ls.length → hi = b.length) := Lib.hid (fun h => by
    rw [hhi, List.take_of_length_le (by omega)]
    exact g5)
  have hS0 : St w.heap.size w (w.alloc (.cells #[.int .i64 (size : Int), .slice (some adp) ls.length capp, .int .i64 (b.length : Int)] 82 (0, 0))) [[(w.heap.size, .cells #[.int .i64 (size : Int), .slice (some adp) ls.length capp, .int .i64 (b.length : Int)] 82 (0, 0))]] := (St.init w).alloc _
  have HAX := Lib.hid hax
  have HROW := Lib.hid hrow
  have HPL := Lib.hid hpl
  have hki : (k : Int) < (ls.length : Int) := by omega
  obtain ⟨Z, HZ⟩ : ∃ Z, Hid (Z = min 1000 (size - 1000 * k)) := ⟨_, Lib.hid rfl⟩
  rw [← HZ.out]
  have HMIN : Hid (min (1000 : Int) ((size : Int) - (k : Int) * 1000) = (Z : Int)) := Lib.hid (by rw [HZ.out]; omega)
  have hZ : Z ≤ 1000 := by rw [HZ.out]; omega
  have hloi : (lo : Int) ≤ (hi : Int) := by omega
  have hhc : (hi : Int) ≤ (cap : Int) := by omega
  have hhbi : (hi : Int) ≤ (b.length : Int) := by omega
  have hkp : IntKind.i64.wrap ((k : Int) + 1) = (k : Int) + 1 := IntWalk.i64_in _ (by omega)
  have HS0 := Lib.hid hS0
  clear hb hrow hpl hrx g1 g2 g3 g4 g5 g6 hs1 hs2 hxl hax hlg hlo hhi kp hS0
  go_enter Try.func46, Try.ntmps46
  go_wp2_with fail
  refine (ctnum_any (size : Int) (b.length : Int) (some adp) ls.length capp _).mono ?_
  rintro e w1 ⟨rfl, o, rfl⟩
  have HS1 := Lib.hid (HS0.out.alloc' o)
  have k1 := HS1.out.cell 0 rfl (List.mem_singleton.2 rfl) 1
  have k1' : (((w.alloc (.cells #[.int .i64 (size : Int), .slice (some adp) ls.length capp, .int .i64 (b.length : Int)] 82 (0, 0))).alloc o).cell? ⟨w.heap.size, 1, none⟩ = some (.slice (some adp) ls.length capp)) := k1
  clear k1
  by_cases q1 : k + 1 < ls.length
  · have q1i : (k : Int) + 1 < (ls.length : Int) := by omega
    have hnx : ((w.alloc (.cells #[.int .i64 (size : Int), .slice (some adp) ls.length capp, .int .i64 (b.length : Int)] 82 (0, 0))).alloc o).cell? ⟨adp.block, adp.off + (k + 1), none⟩ = some (.int .i64 (hi : Int)) := HNX.out q1 _ HS1.out
    obtain ⟨w2, HW2⟩ : ∃ w2, w2 = (w.alloc (.cells #[.int .i64 (size : Int), .slice (some adp) ls.length capp, .int .i64 (b.length : Int)] 82 (0, 0))).alloc o := ⟨_, rfl⟩
    rw [← HW2] at k1' hnx HS1 ⊢
    clear HW2
    have HS2 := HS1
    go_wp2_with fail
    by_cases qc : cap = lo
    · obtain rfl := HAX.out.2 qc
      subst qc
      have e : cap = hi := by omega
      subst e
      replace HRX : Hid (Rd w 1 (.slice (some ad) 0 0) 0 (bv (blkB b at0 ls k))) := Lib.hid (by simpa using HRX.out)
      have hcA : w2.cell? ⟨w.heap.size, 0, none⟩ = some (.int .i64 (size : Int)) := HS2.out.cell 0 rfl (List.mem_singleton.2 rfl) 0
      have HCELL : Hid (∀ w' : World, Below w2.heap.size w2 w' → w'.cell? ⟨w.heap.size, 0, none⟩ = some (.int .i64 (size : Int)) ∧ w'.cell? ⟨w.heap.size, 1, none⟩ = some (.slice (some adp) ls.length capp) ∧ w'.cell? ⟨w.heap.size, 2, none⟩ = some (.int .i64 (b.length : Int)) ∧ w'.cell? (adp.add k) = some (.int .i64 (cap : Int))) := Lib.hid (fun w' hw' => by
        have hT := HS2.out.mono hw'
        refine ⟨hT.cell 0 rfl (List.mem_singleton.2 rfl) 0, hT.cell 0 rfl (List.mem_singleton.2 rfl) 1, hT.cell 0 rfl (List.mem_singleton.2 rfl) 2, ?_⟩
        obtain ⟨_, e1, k2⟩ := (HROW.out.st hT).at (iv_get _ _ _ HPL.out)
        cases e1
        exact k2)
      clear hcA
      refine wp_region_held_drew (S := fun w' => Below w2.heap.size w2 w') mixed (Below.refl _ _).drew (fun hSS => ?_)
      refine take_d (i := 0) 22 (.slice (some ad) b.length cap) rfl rfl (by kernel_rfl) (by kernel_rfl) (by kernel_rfl) (fun _ _ _ h => h) (Or.inl ⟨by rfl, ?_⟩) hSS ?_
      (focus (intro w' hw'; have hb1 := HCELL.out w' hw'; obtain ⟨hb1, hb2, hb3, hb4⟩ := hb1; first | (go_simp; done) | (go_simp; simp [qx0, qx1, qx2]; done)))
      simp only [Act.put, List.setIfInBounds_toArray, List.set_cons_zero, List.set_cons_succ]
      refine take_d (i := 1) 23 (.pointer (some ⟨w.heap.size, 1, none⟩)) rfl rfl (by kernel_rfl) (by kernel_rfl) (by kernel_rfl) (fun _ _ _ h => h) (Or.inl ⟨by rfl, ?_⟩) hSS ?_
      (focus (intro w' hw'; have hb1 := HCELL.out w' hw'; obtain ⟨hb1, hb2, hb3, hb4⟩ := hb1; first | (go_simp; done) | (go_simp; simp [qx0, qx1, qx2]; done)))
      simp only [Act.put, List.setIfInBounds_toArray, List.set_cons_zero, List.set_cons_succ]
      refine take_d (i := 2) 24 (.slice (some adp) ls.length capp) rfl rfl (by kernel_rfl) (by kernel_rfl) (by kernel_rfl) (fun _ _ _ h => h) (Or.inl ⟨by rfl, ?_⟩) hSS ?_
      (focus (intro w' hw'; have hb1 := HCELL.out w' hw'; obtain ⟨hb1, hb2, hb3, hb4⟩ := hb1; first | (go_simp; done) | (go_simp; simp [qx0, qx1, qx2]; done)))
      simp only [Act.put, List.setIfInBounds_toArray, List.set_cons_zero, List.set_cons_succ]
      refine take_d (i := 3) 25 (.int .i64 (k : Int)) rfl rfl (by kernel_rfl) (by kernel_rfl) (by kernel_rfl) (fun _ _ _ h => h) (Or.inl ⟨by rfl, ?_⟩) hSS ?_
      (focus (intro w' hw'; have hb1 := HCELL.out w' hw'; obtain ⟨hb1, hb2, hb3, hb4⟩ := hb1; first | (go_simp; done) | (go_simp; simp [qx0, qx1, qx2]; done)))
      simp only [Act.put, List.setIfInBounds_toArray, List.set_cons_zero, List.set_cons_succ]
      refine take_d (i := 4) 26 (.pointer (some (adp.add k))) rfl rfl (by kernel_rfl) (by kernel_rfl) (by kernel_rfl) (fun _ _ _ h => h) (Or.inl ⟨by rfl, ?_⟩) hSS ?_
      (focus (intro w' hw'; have hb1 := HCELL.out w' hw'; obtain ⟨hb1, hb2, hb3, hb4⟩ := hb1; first | (go_simp; done) | (go_simp; simp [qx0, qx1, qx2]; done)))
      simp only [Act.put, List.setIfInBounds_toArray, List.set_cons_zero, List.set_cons_succ]
      refine take_d (i := 5) 27 (.int .i64 (cap : Int)) rfl rfl (by kernel_rfl) (by kernel_rfl) (by kernel_rfl) (fun _ _ _ h => h) (Or.inl ⟨by rfl, ?_⟩) hSS ?_
      (focus (intro w' hw'; have hb1 := HCELL.out w' hw'; obtain ⟨hb1, hb2, hb3, hb4⟩ := hb1; first | (go_simp; done) | (go_simp; simp [qx0, qx1, qx2]; done)))
      simp only [Act.put, List.setIfInBounds_toArray, List.set_cons_zero, List.set_cons_succ]
      refine take_d (i := 6) 28 (.int .i64 (cap : Int)) rfl rfl (by kernel_rfl) (by kernel_rfl) (by kernel_rfl) (fun _ _ _ h => h) (Or.inl ⟨by rfl, ?_⟩) hSS ?_
      (focus (intro w' hw'; have hb1 := HCELL.out w' hw'; obtain ⟨hb1, hb2, hb3, hb4⟩ := hb1; first | (go_simp; done) | (go_simp; simp [qx0, qx1, qx2]; done)))
      simp only [Act.put, List.setIfInBounds_toArray, List.set_cons_zero, List.set_cons_succ]
      refine take_d (i := 7) 29 (.slice (some ad) (0) (0)) rfl rfl (by kernel_rfl) (by kernel_rfl) (by kernel_rfl) (fun _ _ _ h => h) (Or.inl ⟨by rfl, ?_⟩) hSS ?_
      (focus (intro w' hw'; have hb1 := HCELL.out w' hw'; obtain ⟨hb1, hb2, hb3, hb4⟩ := hb1; first | (go_simp; done) | (go_simp; simp [qx0, qx1, qx2]; done)))
      simp only [Act.put, List.setIfInBounds_toArray, List.set_cons_zero, List.set_cons_succ]
      refine take_d (i := 8) 30 (.agg #[.int .i64 (size : Int), .slice (some adp) ls.length capp, .int .i64 (b.length : Int)]) rfl rfl (by kernel_rfl) (by kernel_rfl) (by kernel_rfl) (fun _ _ _ h => h) (Or.inl ⟨by rfl, ?_⟩) hSS ?_
      (focus (intro w' hw'; have hb1 := HCELL.out w' hw'; obtain ⟨hb1, hb2, hb3, hb4⟩ := hb1; first | (go_simp; done) | (go_simp; simp [qx0, qx1, qx2]; done)))
      simp only [Act.put, List.setIfInBounds_toArray, List.set_cons_zero, List.set_cons_succ]
      refine take_d (i := 9) 31 (.int .i64 (k : Int)) rfl rfl (by kernel_rfl) (by kernel_rfl) (by kernel_rfl) (fun _ _ _ h => h) (Or.inl ⟨by rfl, ?_⟩) hSS ?_
      (focus (intro w' hw'; have hb1 := HCELL.out w' hw'; obtain ⟨hb1, hb2, hb3, hb4⟩ := hb1; first | (go_simp; done) | (go_simp; simp [qx0, qx1, qx2]; done)))
      simp only [Act.put, List.setIfInBounds_toArray, List.set_cons_zero, List.set_cons_succ]
      refine wpAnyH_ready (rs := [10]) (by kernel_rfl) (by simp) (AllReadyH.cons rfl (fun K1 hK1 => ?_) AllReadyH.nil)
      rw [if_pos (by rfl)]
      go_simp
      refine (ctsize_any (size : Int) (b.length : Int) (some adp) ls.length capp k _ (by omega) (by omega) (by omega)).mono ?_
      rintro e w5 ⟨rfl, o5, rfl⟩
      rw [HMIN.out]
      have hb5 : Below w2.heap.size w2 (w2.drew.alloc o5) := hSS.alloc hSS.size o5
      refine hK1.out _ _ hb5 (fun hSS => ?_)
      try simp only [Act.put, List.setIfInBounds_toArray, List.set_cons_zero, List.set_cons_succ]
      refine wpAnyH_ready (rs := [11]) (by kernel_rfl) (by simp) (AllReadyH.cons rfl (fun K2 hK2 => ?_) AllReadyH.nil)
      rw [if_pos (by rfl)]
      go_simp
      refine (open_n _ (blkB b at0 ls k) (0) Z _ (HRX.out.st (HS2.out.mono hb5)) (by omega) (by omega)).mono ?_
      intro e w6 hop
      obtain ⟨v6, q6, rfl⟩ := hop.form
      have hb6 := hop.below
      have hb7 := hSS.trans (hb6.mono hSS.size)
      have HOP := Lib.hid (hop.lift (HS2.out.mono hb5).below)
      clear hop
      refine hK2.out _ _ hb7 (fun hSS => ?_)
      try simp only [Act.put, List.setIfInBounds_toArray, List.set_cons_zero, List.set_cons_succ]
      refine take_d (i := 12) 34 (v6) rfl rfl (by kernel_rfl) (by kernel_rfl) (by kernel_rfl) (fun _ _ _ h => h) (Or.inl ⟨by rfl, ?_⟩) hSS ?_
      (focus (intro w' hw'; have hb1 := HCELL.out w' hw'; obtain ⟨hb1, hb2, hb3, hb4⟩ := hb1; first | (go_simp; done) | (go_simp; simp [qx0, qx1, qx2]; done)))
      simp only [Act.put, List.setIfInBounds_toArray, List.set_cons_zero, List.set_cons_succ]
      refine take_d (i := 13) 35 (.bool q6) rfl rfl (by kernel_rfl) (by kernel_rfl) (by kernel_rfl) (fun _ _ _ h => h) (Or.inl ⟨by rfl, ?_⟩) hSS ?_
      (focus (intro w' hw'; have hb1 := HCELL.out w' hw'; obtain ⟨hb1, hb2, hb3, hb4⟩ := hb1; first | (go_simp; done) | (go_simp; simp [qx0, qx1, qx2]; done)))
      simp only [Act.put, List.setIfInBounds_toArray, List.set_cons_zero, List.set_cons_succ]
      refine wpAnyH_ready (rs := [14]) (by kernel_rfl) (by simp) (AllReadyH.cons rfl (fun K3 hK3 => ?_) AllReadyH.nil)
      rw [if_pos (by rfl)]
      go_simp
      refine hK3.out _ _ hSS (fun _ => ?_)
      refine wpAnyH_ready (rs := [15]) (by kernel_rfl) (by simp) (AllReadyH.cons rfl (fun K4 hK4 => ?_) AllReadyH.nil)
      rw [if_pos (by rfl)]
      go_simp
      refine hK4.out _ _ hSS (fun _ => ?_)
      refine wpAnyH_done (by kernel_rfl) ?_ _
      go_wp2_with fail
      go_ret2
      exact HOP.out
    · obtain rfl := HAX.out.1 qc
      have hcA : w2.cell? ⟨w.heap.size, 0, none⟩ = some (.int .i64 (size : Int)) := HS2.out.cell 0 rfl (List.mem_singleton.2 rfl) 0
      have HCELL : Hid (∀ w' : World, Below w2.heap.size w2 w' → w'.cell? ⟨w.heap.size, 0, none⟩ = some (.int .i64 (size : Int)) ∧ w'.cell? ⟨w.heap.size, 1, none⟩ = some (.slice (some adp) ls.length capp) ∧ w'.cell? ⟨w.heap.size, 2, none⟩ = some (.int .i64 (b.length : Int)) ∧ w'.cell? (adp.add k) = some (.int .i64 (lo : Int))) := Lib.hid (fun w' hw' => by
        have hT := HS2.out.mono hw'
        refine ⟨hT.cell 0 rfl (List.mem_singleton.2 rfl) 0, hT.cell 0 rfl (List.mem_singleton.2 rfl) 1, hT.cell 0 rfl (List.mem_singleton.2 rfl) 2, ?_⟩
        obtain ⟨_, e1, k2⟩ := (HROW.out.st hT).at (iv_get _ _ _ HPL.out)
        cases e1
        exact k2)
      clear hcA
      refine wp_region_held_drew (S := fun w' => Below w2.heap.size w2 w') mixed (Below.refl _ _).drew (fun hSS => ?_)
      refine take_d (i := 0) 22 (.slice (some ad) b.length cap) rfl rfl (by kernel_rfl) (by kernel_rfl) (by kernel_rfl) (fun _ _ _ h => h) (Or.inl ⟨by rfl, ?_⟩) hSS ?_
      (focus (intro w' hw'; have hb1 := HCELL.out w' hw'; obtain ⟨hb1, hb2, hb3, hb4⟩ := hb1; first | (go_simp; done) | (go_simp; simp [qx0, qx1, qx2]; done)))
      simp only [Act.put, List.setIfInBounds_toArray, List.set_cons_zero, List.set_cons_succ]
      refine take_d (i := 1) 23 (.pointer (some ⟨w.heap.size, 1, none⟩)) rfl rfl (by kernel_rfl) (by kernel_rfl) (by kernel_rfl) (fun _ _ _ h => h) (Or.inl ⟨by rfl, ?_⟩) hSS ?_
      (focus (intro w' hw'; have hb1 := HCELL.out w' hw'; obtain ⟨hb1, hb2, hb3, hb4⟩ := hb1; first | (go_simp; done) | (go_simp; simp [qx0, qx1, qx2]; done)))
      simp only [Act.put, List.setIfInBounds_toArray, List.set_cons_zero, List.set_cons_succ]
      refine take_d (i := 2) 24 (.slice (some adp) ls.length capp) rfl rfl (by kernel_rfl) (by kernel_rfl) (by kernel_rfl) (fun _ _ _ h => h) (Or.inl ⟨by rfl, ?_⟩) hSS ?_
      (focus (intro w' hw'; have hb1 := HCELL.out w' hw'; obtain ⟨hb1, hb2, hb3, hb4⟩ := hb1; first | (go_simp; done) | (go_simp; simp [qx0, qx1, qx2]; done)))
      simp only [Act.put, List.setIfInBounds_toArray, List.set_cons_zero, List.set_cons_succ]
      refine take_d (i := 3) 25 (.int .i64 (k : Int)) rfl rfl (by kernel_rfl) (by kernel_rfl) (by kernel_rfl) (fun _ _ _ h => h) (Or.inl ⟨by rfl, ?_⟩) hSS ?_
      (focus (intro w' hw'; have hb1 := HCELL.out w' hw'; obtain ⟨hb1, hb2, hb3, hb4⟩ := hb1; first | (go_simp; done) | (go_simp; simp [qx0, qx1, qx2]; done)))
      simp only [Act.put, List.setIfInBounds_toArray, List.set_cons_zero, List.set_cons_succ]
      refine take_d (i := 4) 26 (.pointer (some (adp.add k))) rfl rfl (by kernel_rfl) (by kernel_rfl) (by kernel_rfl) (fun _ _ _ h => h) (Or.inl ⟨by rfl, ?_⟩) hSS ?_
      (focus (intro w' hw'; have hb1 := HCELL.out w' hw'; obtain ⟨hb1, hb2, hb3, hb4⟩ := hb1; first | (go_simp; done) | (go_simp; simp [qx0, qx1, qx2]; done)))
      simp only [Act.put, List.setIfInBounds_toArray, List.set_cons_zero, List.set_cons_succ]
      refine take_d (i := 5) 27 (.int .i64 (lo : Int)) rfl rfl (by kernel_rfl) (by kernel_rfl) (by kernel_rfl) (fun _ _ _ h => h) (Or.inl ⟨by rfl, ?_⟩) hSS ?_
      (focus (intro w' hw'; have hb1 := HCELL.out w' hw'; obtain ⟨hb1, hb2, hb3, hb4⟩ := hb1; first | (go_simp; done) | (go_simp; simp [qx0, qx1, qx2]; done)))
      simp only [Act.put, List.setIfInBounds_toArray, List.set_cons_zero, List.set_cons_succ]
      refine take_d (i := 6) 28 (.int .i64 (hi : Int)) rfl rfl (by kernel_rfl) (by kernel_rfl) (by kernel_rfl) (fun _ _ _ h => h) (Or.inl ⟨by rfl, ?_⟩) hSS ?_
      (focus (intro w' hw'; have hb1 := HCELL.out w' hw'; obtain ⟨hb1, hb2, hb3, hb4⟩ := hb1; first | (go_simp; done) | (go_simp; simp [qx0, qx1, qx2]; done)))
      simp only [Act.put, List.setIfInBounds_toArray, List.set_cons_zero, List.set_cons_succ]
      refine take_d (i := 7) 29 (.slice (some (ad.add lo)) (hi - lo) (cap - lo)) rfl rfl (by kernel_rfl) (by kernel_rfl) (by kernel_rfl) (fun _ _ _ h => h) (Or.inl ⟨by rfl, ?_⟩) hSS ?_
      (focus (intro w' hw'; have hb1 := HCELL.out w' hw'; obtain ⟨hb1, hb2, hb3, hb4⟩ := hb1; first | (go_simp; done) | (go_simp; simp [qx0, qx1, qx2]; done)))
      simp only [Act.put, List.setIfInBounds_toArray, List.set_cons_zero, List.set_cons_succ]
      refine take_d (i := 8) 30 (.agg #[.int .i64 (size : Int), .slice (some adp) ls.length capp, .int .i64 (b.length : Int)]) rfl rfl (by kernel_rfl) (by kernel_rfl) (by kernel_rfl) (fun _ _ _ h => h) (Or.inl ⟨by rfl, ?_⟩) hSS ?_
      (focus (intro w' hw'; have hb1 := HCELL.out w' hw'; obtain ⟨hb1, hb2, hb3, hb4⟩ := hb1; first | (go_simp; done) | (go_simp; simp [qx0, qx1, qx2]; done)))
      simp only [Act.put, List.setIfInBounds_toArray, List.set_cons_zero, List.set_cons_succ]
      refine take_d (i := 9) 31 (.int .i64 (k : Int)) rfl rfl (by kernel_rfl) (by kernel_rfl) (by kernel_rfl) (fun _ _ _ h => h) (Or.inl ⟨by rfl, ?_⟩) hSS ?_
      (focus (intro w' hw'; have hb1 := HCELL.out w' hw'; obtain ⟨hb1, hb2, hb3, hb4⟩ := hb1; first | (go_simp; done) | (go_simp; simp [qx0, qx1, qx2]; done)))
      simp only [Act.put, List.setIfInBounds_toArray, List.set_cons_zero, List.set_cons_succ]
      refine wpAnyH_ready (rs := [10]) (by kernel_rfl) (by simp) (AllReadyH.cons rfl (fun K1 hK1 => ?_) AllReadyH.nil)
      rw [if_pos (by rfl)]
      go_simp
      refine (ctsize_any (size : Int) (b.length : Int) (some adp) ls.length capp k _ (by omega) (by omega) (by omega)).mono ?_
      rintro e w5 ⟨rfl, o5, rfl⟩
      rw [HMIN.out]
      have hb5 : Below w2.heap.size w2 (w2.drew.alloc o5) := hSS.alloc hSS.size o5
      refine hK1.out _ _ hb5 (fun hSS => ?_)
      try simp only [Act.put, List.setIfInBounds_toArray, List.set_cons_zero, List.set_cons_succ]
      refine wpAnyH_ready (rs := [11]) (by kernel_rfl) (by simp) (AllReadyH.cons rfl (fun K2 hK2 => ?_) AllReadyH.nil)
      rw [if_pos (by rfl)]
      go_simp
      refine (open_n _ (blkB b at0 ls k) (hi - lo) Z _ (HRX.out.st (HS2.out.mono hb5)) (by omega) (by omega)).mono ?_
      intro e w6 hop
      obtain ⟨v6, q6, rfl⟩ := hop.form
      have hb6 := hop.below
      have hb7 := hSS.trans (hb6.mono hSS.size)
      have HOP := Lib.hid (hop.lift (HS2.out.mono hb5).below)
      clear hop
      refine hK2.out _ _ hb7 (fun hSS => ?_)
      try simp only [Act.put, List.setIfInBounds_toArray, List.set_cons_zero, List.set_cons_succ]
      refine take_d (i := 12) 34 (v6) rfl rfl (by kernel_rfl) (by kernel_rfl) (by kernel_rfl) (fun _ _ _ h => h) (Or.inl ⟨by rfl, ?_⟩) hSS ?_
      (focus (intro w' hw'; have hb1 := HCELL.out w' hw'; obtain ⟨hb1, hb2, hb3, hb4⟩ := hb1; first | (go_simp; done) | (go_simp; simp [qx0, qx1, qx2]; done)))
      simp only [Act.put, List.setIfInBounds_toArray, List.set_cons_zero, List.set_cons_succ]
      refine take_d (i := 13) 35 (.bool q6) rfl rfl (by kernel_rfl) (by kernel_rfl) (by kernel_rfl) (fun _ _ _ h => h) (Or.inl ⟨by rfl, ?_⟩) hSS ?_
      (focus (intro w' hw'; have hb1 := HCELL.out w' hw'; obtain ⟨hb1, hb2, hb3, hb4⟩ := hb1; first | (go_simp; done) | (go_simp; simp [qx0, qx1, qx2]; done)))
      simp only [Act.put, List.setIfInBounds_toArray, List.set_cons_zero, List.set_cons_succ]
      refine wpAnyH_ready (rs := [14]) (by kernel_rfl) (by simp) (AllReadyH.cons rfl (fun K3 hK3 => ?_) AllReadyH.nil)
      rw [if_pos (by rfl)]
      go_simp
      refine hK3.out _ _ hSS (fun _ => ?_)
      refine wpAnyH_ready (rs := [15]) (by kernel_rfl) (by simp) (AllReadyH.cons rfl (fun K4 hK4 => ?_) AllReadyH.nil)
      rw [if_pos (by rfl)]
      go_simp
      refine hK4.out _ _ hSS (fun _ => ?_)
      refine wpAnyH_done (by kernel_rfl) ?_ _
      go_wp2_with fail
      go_ret2
      exact HOP.out
  · have q1i : ¬ (k : Int) + 1 < (ls.length : Int) := by omega
    obtain rfl := HEND.out q1
    obtain ⟨w2, HW2⟩ : ∃ w2, w2 = (w.alloc (.cells #[.int .i64 (size : Int), .slice (some adp) ls.length capp, .int .i64 (b.length : Int)] 82 (0, 0))).alloc o := ⟨_, rfl⟩
    rw [← HW2] at k1' HS1 ⊢
    clear HW2
    have HS2 := HS1
    go_wp2_with fail
    by_cases qc : cap = lo
    · obtain rfl := HAX.out.2 qc
      subst qc
      have e : b.length - cap = 0 := by omega
      replace HRX : Hid (Rd w 1 (.slice (some ad) 0 0) 0 (bv (blkB b at0 ls k))) := Lib.hid (by have := HRX.out; rw [e, Nat.sub_self] at this; exact this)
      have hcA : w2.cell? ⟨w.heap.size, 0, none⟩ = some (.int .i64 (size : Int)) := HS2.out.cell 0 rfl (List.mem_singleton.2 rfl) 0
      have HCELL : Hid (∀ w' : World, Below w2.heap.size w2 w' → w'.cell? ⟨w.heap.size, 0, none⟩ = some (.int .i64 (size : Int)) ∧ w'.cell? ⟨w.heap.size, 1, none⟩ = some (.slice (some adp) ls.length capp) ∧ w'.cell? ⟨w.heap.size, 2, none⟩ = some (.int .i64 (b.length : Int)) ∧ w'.cell? (adp.add k) = some (.int .i64 (cap : Int))) := Lib.hid (fun w' hw' => by
        have hT := HS2.out.mono hw'
        refine ⟨hT.cell 0 rfl (List.mem_singleton.2 rfl) 0, hT.cell 0 rfl (List.mem_singleton.2 rfl) 1, hT.cell 0 rfl (List.mem_singleton.2 rfl) 2, ?_⟩
        obtain ⟨_, e1, k2⟩ := (HROW.out.st hT).at (iv_get _ _ _ HPL.out)
        cases e1
        exact k2)
      clear hcA
      refine wp_region_held_drew (S := fun w' => Below w2.heap.size w2 w') mixed (Below.refl _ _).drew (fun hSS => ?_)
      refine take_d (i := 0) 22 (.slice (some ad) b.length cap) rfl rfl (by kernel_rfl) (by kernel_rfl) (by kernel_rfl) (fun _ _ _ h => h) (Or.inl ⟨by rfl, ?_⟩) hSS ?_
      (focus (intro w' hw'; have hb1 := HCELL.out w' hw'; obtain ⟨hb1, hb2, hb3, hb4⟩ := hb1; first | (go_simp; done) | (go_simp; simp [qx0, qx1, qx2]; done)))
      simp only [Act.put, List.setIfInBounds_toArray, List.set_cons_zero, List.set_cons_succ]
      refine take_d (i := 1) 23 (.pointer (some ⟨w.heap.size, 1, none⟩)) rfl rfl (by kernel_rfl) (by kernel_rfl) (by kernel_rfl) (fun _ _ _ h => h) (Or.inl ⟨by rfl, ?_⟩) hSS ?_
      (focus (intro w' hw'; have hb1 := HCELL.out w' hw'; obtain ⟨hb1, hb2, hb3, hb4⟩ := hb1; first | (go_simp; done) | (go_simp; simp [qx0, qx1, qx2]; done)))
      simp only [Act.put, List.setIfInBounds_toArray, List.set_cons_zero, List.set_cons_succ]
      refine take_d (i := 2) 24 (.slice (some adp) ls.length capp) rfl rfl (by kernel_rfl) (by kernel_rfl) (by kernel_rfl) (fun _ _ _ h => h) (Or.inl ⟨by rfl, ?_⟩) hSS ?_
      (focus (intro w' hw'; have hb1 := HCELL.out w' hw'; obtain ⟨hb1, hb2, hb3, hb4⟩ := hb1; first | (go_simp; done) | (go_simp; simp [qx0, qx1, qx2]; done)))
      simp only [Act.put, List.setIfInBounds_toArray, List.set_cons_zero, List.set_cons_succ]
      refine take_d (i := 3) 25 (.int .i64 (k : Int)) rfl rfl (by kernel_rfl) (by kernel_rfl) (by kernel_rfl) (fun _ _ _ h => h) (Or.inl ⟨by rfl, ?_⟩) hSS ?_
      (focus (intro w' hw'; have hb1 := HCELL.out w' hw'; obtain ⟨hb1, hb2, hb3, hb4⟩ := hb1; first | (go_simp; done) | (go_simp; simp [qx0, qx1, qx2]; done)))
      simp only [Act.put, List.setIfInBounds_toArray, List.set_cons_zero, List.set_cons_succ]
      refine take_d (i := 4) 26 (.pointer (some (adp.add k))) rfl rfl (by kernel_rfl) (by kernel_rfl) (by kernel_rfl) (fun _ _ _ h => h) (Or.inl ⟨by rfl, ?_⟩) hSS ?_
      (focus (intro w' hw'; have hb1 := HCELL.out w' hw'; obtain ⟨hb1, hb2, hb3, hb4⟩ := hb1; first | (go_simp; done) | (go_simp; simp [qx0, qx1, qx2]; done)))
      simp only [Act.put, List.setIfInBounds_toArray, List.set_cons_zero, List.set_cons_succ]
      refine take_d (i := 5) 27 (.int .i64 (cap : Int)) rfl rfl (by kernel_rfl) (by kernel_rfl) (by kernel_rfl) (fun _ _ _ h => h) (Or.inl ⟨by rfl, ?_⟩) hSS ?_
      (focus (intro w' hw'; have hb1 := HCELL.out w' hw'; obtain ⟨hb1, hb2, hb3, hb4⟩ := hb1; first | (go_simp; done) | (go_simp; simp [qx0, qx1, qx2]; done)))
      simp only [Act.put, List.setIfInBounds_toArray, List.set_cons_zero, List.set_cons_succ]
      refine take_d (i := 6) 28 (.int .i64 (b.length : Int)) rfl rfl (by kernel_rfl) (by kernel_rfl) (by kernel_rfl) (fun _ _ _ h => h) (Or.inl ⟨by rfl, ?_⟩) hSS ?_
      (focus (intro w' hw'; have hb1 := HCELL.out w' hw'; obtain ⟨hb1, hb2, hb3, hb4⟩ := hb1; first | (go_simp; done) | (go_simp; simp [qx0, qx1, qx2]; done)))
      simp only [Act.put, List.setIfInBounds_toArray, List.set_cons_zero, List.set_cons_succ]
      refine take_d (i := 7) 29 (.slice (some ad) (0) (0)) rfl rfl (by kernel_rfl) (by kernel_rfl) (by kernel_rfl) (fun _ _ _ h => h) (Or.inl ⟨by rfl, ?_⟩) hSS ?_
      (focus (intro w' hw'; have hb1 := HCELL.out w' hw'; obtain ⟨hb1, hb2, hb3, hb4⟩ := hb1; first | (go_simp; done) | (go_simp; simp [qx0, qx1, qx2]; done)))
      simp only [Act.put, List.setIfInBounds_toArray, List.set_cons_zero, List.set_cons_succ]
      refine take_d (i := 8) 30 (.agg #[.int .i64 (size : Int), .slice (some adp) ls.length capp, .int .i64 (b.length : Int)]) rfl rfl (by kernel_rfl) (by kernel_rfl) (by kernel_rfl) (fun _ _ _ h => h) (Or.inl ⟨by rfl, ?_⟩) hSS ?_
      (focus (intro w' hw'; have hb1 := HCELL.out w' hw'; obtain ⟨hb1, hb2, hb3, hb4⟩ := hb1; first | (go_simp; done) | (go_simp; simp [qx0, qx1, qx2]; done)))
      simp only [Act.put, List.setIfInBounds_toArray, List.set_cons_zero, List.set_cons_succ]
      refine take_d (i := 9) 31 (.int .i64 (k : Int)) rfl rfl (by kernel_rfl) (by kernel_rfl) (by kernel_rfl) (fun _ _ _ h => h) (Or.inl ⟨by rfl, ?_⟩) hSS ?_
      (focus (intro w' hw'; have hb1 := HCELL.out w' hw'; obtain ⟨hb1, hb2, hb3, hb4⟩ := hb1; first | (go_simp; done) | (go_simp; simp [qx0, qx1, qx2]; done)))
      simp only [Act.put, List.setIfInBounds_toArray, List.set_cons_zero, List.set_cons_succ]
      refine wpAnyH_ready (rs := [10]) (by kernel_rfl) (by simp) (AllReadyH.cons rfl (fun K1 hK1 => ?_) AllReadyH.nil)
      rw [if_pos (by rfl)]
      go_simp
      refine (ctsize_any (size : Int) (b.length : Int) (some adp) ls.length capp k _ (by omega) (by omega) (by omega)).mono ?_
      rintro e w5 ⟨rfl, o5, rfl⟩
      rw [HMIN.out]
      have hb5 : Below w2.heap.size w2 (w2.drew.alloc o5) := hSS.alloc hSS.size o5
      refine hK1.out _ _ hb5 (fun hSS => ?_)
      try simp only [Act.put, List.setIfInBounds_toArray, List.set_cons_zero, List.set_cons_succ]
      refine wpAnyH_ready (rs := [11]) (by kernel_rfl) (by simp) (AllReadyH.cons rfl (fun K2 hK2 => ?_) AllReadyH.nil)
      rw [if_pos (by rfl)]
      go_simp
      refine (open_n _ (blkB b at0 ls k) (0) Z _ (HRX.out.st (HS2.out.mono hb5)) (by omega) (by omega)).mono ?_
      intro e w6 hop
      obtain ⟨v6, q6, rfl⟩ := hop.form
      have hb6 := hop.below
      have hb7 := hSS.trans (hb6.mono hSS.size)
      have HOP := Lib.hid (hop.lift (HS2.out.mono hb5).below)
      clear hop
      refine hK2.out _ _ hb7 (fun hSS => ?_)
      try simp only [Act.put, List.setIfInBounds_toArray, List.set_cons_zero, List.set_cons_succ]
      refine take_d (i := 12) 34 (v6) rfl rfl (by kernel_rfl) (by kernel_rfl) (by kernel_rfl) (fun _ _ _ h => h) (Or.inl ⟨by rfl, ?_⟩) hSS ?_
      (focus (intro w' hw'; have hb1 := HCELL.out w' hw'; obtain ⟨hb1, hb2, hb3, hb4⟩ := hb1; first | (go_simp; done) | (go_simp; simp [qx0, qx1, qx2]; done)))
      simp only [Act.put, List.setIfInBounds_toArray, List.set_cons_zero, List.set_cons_succ]
      refine take_d (i := 13) 35 (.bool q6) rfl rfl (by kernel_rfl) (by kernel_rfl) (by kernel_rfl) (fun _ _ _ h => h) (Or.inl ⟨by rfl, ?_⟩) hSS ?_
      (focus (intro w' hw'; have hb1 := HCELL.out w' hw'; obtain ⟨hb1, hb2, hb3, hb4⟩ := hb1; first | (go_simp; done) | (go_simp; simp [qx0, qx1, qx2]; done)))
      simp only [Act.put, List.setIfInBounds_toArray, List.set_cons_zero, List.set_cons_succ]
      refine wpAnyH_ready (rs := [14]) (by kernel_rfl) (by simp) (AllReadyH.cons rfl (fun K3 hK3 => ?_) AllReadyH.nil)
      rw [if_pos (by rfl)]
      go_simp
      refine hK3.out _ _ hSS (fun _ => ?_)
      refine wpAnyH_ready (rs := [15]) (by kernel_rfl) (by simp) (AllReadyH.cons rfl (fun K4 hK4 => ?_) AllReadyH.nil)
      rw [if_pos (by rfl)]
      go_simp
      refine hK4.out _ _ hSS (fun _ => ?_)
      refine wpAnyH_done (by kernel_rfl) ?_ _
      go_wp2_with fail
      go_ret2
      exact HOP.out
    · obtain rfl := HAX.out.1 qc
      have hcA : w2.cell? ⟨w.heap.size, 0, none⟩ = some (.int .i64 (size : Int)) := HS2.out.cell 0 rfl (List.mem_singleton.2 rfl) 0
      have HCELL : Hid (∀ w' : World, Below w2.heap.size w2 w' → w'.cell? ⟨w.heap.size, 0, none⟩ = some (.int .i64 (size : Int)) ∧ w'.cell? ⟨w.heap.size, 1, none⟩ = some (.slice (some adp) ls.length capp) ∧ w'.cell? ⟨w.heap.size, 2, none⟩ = some (.int .i64 (b.length : Int)) ∧ w'.cell? (adp.add k) = some (.int .i64 (lo : Int))) := Lib.hid (fun w' hw' => by
        have hT := HS2.out.mono hw'
        refine ⟨hT.cell 0 rfl (List.mem_singleton.2 rfl) 0, hT.cell 0 rfl (List.mem_singleton.2 rfl) 1, hT.cell 0 rfl (List.mem_singleton.2 rfl) 2, ?_⟩
        obtain ⟨_, e1, k2⟩ := (HROW.out.st hT).at (iv_get _ _ _ HPL.out)
        cases e1
        exact k2)
      clear hcA
      refine wp_region_held_drew (S := fun w' => Below w2.heap.size w2 w') mixed (Below.refl _ _).drew (fun hSS => ?_)
      refine take_d (i := 0) 22 (.slice (some ad) b.length cap) rfl rfl (by kernel_rfl) (by kernel_rfl) (by kernel_rfl) (fun _ _ _ h => h) (Or.inl ⟨by rfl, ?_⟩) hSS ?_
      (focus (intro w' hw'; have hb1 := HCELL.out w' hw'; obtain ⟨hb1, hb2, hb3, hb4⟩ := hb1; first | (go_simp; done) | (go_simp; simp [qx0, qx1, qx2]; done)))
      simp only [Act.put, List.setIfInBounds_toArray, List.set_cons_zero, List.set_cons_succ]
      refine take_d (i := 1) 23 (.pointer (some ⟨w.heap.size, 1, none⟩)) rfl rfl (by kernel_rfl) (by kernel_rfl) (by kernel_rfl) (fun _ _ _ h => h) (Or.inl ⟨by rfl, ?_⟩) hSS ?_
      (focus (intro w' hw'; have hb1 := HCELL.out w' hw'; obtain ⟨hb1, hb2, hb3, hb4⟩ := hb1; first | (go_simp; done) | (go_simp; simp [qx0, qx1, qx2]; done)))
      simp only [Act.put, List.setIfInBounds_toArray, List.set_cons_zero, List.set_cons_succ]
      refine take_d (i := 2) 24 (.slice (some adp) ls.length capp) rfl rfl (by kernel_rfl) (by kernel_rfl) (by kernel_rfl) (fun _ _ _ h => h) (Or.inl ⟨by rfl, ?_⟩) hSS ?_
      (focus (intro w' hw'; have hb1 := HCELL.out w' hw'; obtain ⟨hb1, hb2, hb3, hb4⟩ := hb1; first | (go_simp; done) | (go_simp; simp [qx0, qx1, qx2]; done)))
      simp only [Act.put, List.setIfInBounds_toArray, List.set_cons_zero, List.set_cons_succ]
      refine take_d (i := 3) 25 (.int .i64 (k : Int)) rfl rfl (by kernel_rfl) (by kernel_rfl) (by kernel_rfl) (fun _ _ _ h => h) (Or.inl ⟨by rfl, ?_⟩) hSS ?_
      (focus (intro w' hw'; have hb1 := HCELL.out w' hw'; obtain ⟨hb1, hb2, hb3, hb4⟩ := hb1; first | (go_simp; done) | (go_simp; simp [qx0, qx1, qx2]; done)))
      simp only [Act.put, List.setIfInBounds_toArray, List.set_cons_zero, List.set_cons_succ]
      refine take_d (i := 4) 26 (.pointer (some (adp.add k))) rfl rfl (by kernel_rfl) (by kernel_rfl) (by kernel_rfl) (fun _ _ _ h => h) (Or.inl ⟨by rfl, ?_⟩) hSS ?_
      (focus (intro w' hw'; have hb1 := HCELL.out w' hw'; obtain ⟨hb1, hb2, hb3, hb4⟩ := hb1; first | (go_simp; done) | (go_simp; simp [qx0, qx1, qx2]; done)))
      simp only [Act.put, List.setIfInBounds_toArray, List.set_cons_zero, List.set_cons_succ]
      refine take_d (i := 5) 27 (.int .i64 (lo : Int)) rfl rfl (by kernel_rfl) (by kernel_rfl) (by kernel_rfl) (fun _ _ _ h => h) (Or.inl ⟨by rfl, ?_⟩) hSS ?_
      (focus (intro w' hw'; have hb1 := HCELL.out w' hw'; obtain ⟨hb1, hb2, hb3, hb4⟩ := hb1; first | (go_simp; done) | (go_simp; simp [qx0, qx1, qx2]; done)))
      simp only [Act.put, List.setIfInBounds_toArray, List.set_cons_zero, List.set_cons_succ]
      refine take_d (i := 6) 28 (.int .i64 (b.length : Int)) rfl rfl (by kernel_rfl) (by kernel_rfl) (by kernel_rfl) (fun _ _ _ h => h) (Or.inl ⟨by rfl, ?_⟩) hSS ?_
      (focus (intro w' hw'; have hb1 := HCELL.out w' hw'; obtain ⟨hb1, hb2, hb3, hb4⟩ := hb1; first | (go_simp; done) | (go_simp; simp [qx0, qx1, qx2]; done)))
      simp only [Act.put, List.setIfInBounds_toArray, List.set_cons_zero, List.set_cons_succ]
      refine take_d (i := 7) 29 (.slice (some (ad.add lo)) (b.length - lo) (cap - lo)) rfl rfl (by kernel_rfl) (by kernel_rfl) (by kernel_rfl) (fun _ _ _ h => h) (Or.inl ⟨by rfl, ?_⟩) hSS ?_
      (focus (intro w' hw'; have hb1 := HCELL.out w' hw'; obtain ⟨hb1, hb2, hb3, hb4⟩ := hb1; first | (go_simp; done) | (go_simp; simp [qx0, qx1, qx2]; done)))
      simp only [Act.put, List.setIfInBounds_toArray, List.set_cons_zero, List.set_cons_succ]
      refine take_d (i := 8) 30 (.agg #[.int .i64 (size : Int), .slice (some adp) ls.length capp, .int .i64 (b.length : Int)]) rfl rfl (by kernel_rfl) (by kernel_rfl) (by kernel_rfl) (fun _ _ _ h => h) (Or.inl ⟨by rfl, ?_⟩) hSS ?_
      (focus (intro w' hw'; have hb1 := HCELL.out w' hw'; obtain ⟨hb1, hb2, hb3, hb4⟩ := hb1; first | (go_simp; done) | (go_simp; simp [qx0, qx1, qx2]; done)))
      simp only [Act.put, List.setIfInBounds_toArray, List.set_cons_zero, List.set_cons_succ]
      refine take_d (i := 9) 31 (.int .i64 (k : Int)) rfl rfl (by kernel_rfl) (by kernel_rfl) (by kernel_rfl) (fun _ _ _ h => h) (Or.inl ⟨by rfl, ?_⟩) hSS ?_
      (focus (intro w' hw'; have hb1 := HCELL.out w' hw'; obtain ⟨hb1, hb2, hb3, hb4⟩ := hb1; first | (go_simp; done) | (go_simp; simp [qx0, qx1, qx2]; done)))
      simp only [Act.put, List.setIfInBounds_toArray, List.set_cons_zero, List.set_cons_succ]
      refine wpAnyH_ready (rs := [10]) (by kernel_rfl) (by simp) (AllReadyH.cons rfl (fun K1 hK1 => ?_) AllReadyH.nil)
      rw [if_pos (by rfl)]
      go_simp
      refine (ctsize_any (size : Int) (b.length : Int) (some adp) ls.length capp k _ (by omega) (by omega) (by omega)).mono ?_
      rintro e w5 ⟨rfl, o5, rfl⟩
      rw [HMIN.out]
      have hb5 : Below w2.heap.size w2 (w2.drew.alloc o5) := hSS.alloc hSS.size o5
      refine hK1.out _ _ hb5 (fun hSS => ?_)
      try simp only [Act.put, List.setIfInBounds_toArray, List.set_cons_zero, List.set_cons_succ]
      refine wpAnyH_ready (rs := [11]) (by kernel_rfl) (by simp) (AllReadyH.cons rfl (fun K2 hK2 => ?_) AllReadyH.nil)
      rw [if_pos (by rfl)]
      go_simp
      refine (open_n _ (blkB b at0 ls k) (b.length - lo) Z _ (HRX.out.st (HS2.out.mono hb5)) (by omega) (by omega)).mono ?_
      intro e w6 hop
      obtain ⟨v6, q6, rfl⟩ := hop.form
      have hb6 := hop.below
      have hb7 := hSS.trans (hb6.mono hSS.size)
      have HOP := Lib.hid (hop.lift (HS2.out.mono hb5).below)
      clear hop
      refine hK2.out _ _ hb7 (fun hSS => ?_)
      try simp only [Act.put, List.setIfInBounds_toArray, List.set_cons_zero, List.set_cons_succ]
      refine take_d (i := 12) 34 (v6) rfl rfl (by kernel_rfl) (by kernel_rfl) (by kernel_rfl) (fun _ _ _ h => h) (Or.inl ⟨by rfl, ?_⟩) hSS ?_
      (focus (intro w' hw'; have hb1 := HCELL.out w' hw'; obtain ⟨hb1, hb2, hb3, hb4⟩ := hb1; first | (go_simp; done) | (go_simp; simp [qx0, qx1, qx2]; done)))
      simp only [Act.put, List.setIfInBounds_toArray, List.set_cons_zero, List.set_cons_succ]
      refine take_d (i := 13) 35 (.bool q6) rfl rfl (by kernel_rfl) (by kernel_rfl) (by kernel_rfl) (fun _ _ _ h => h) (Or.inl ⟨by rfl, ?_⟩) hSS ?_
      (focus (intro w' hw'; have hb1 := HCELL.out w' hw'; obtain ⟨hb1, hb2, hb3, hb4⟩ := hb1; first | (go_simp; done) | (go_simp; simp [qx0, qx1, qx2]; done)))
      simp only [Act.put, List.setIfInBounds_toArray, List.set_cons_zero, List.set_cons_succ]
      refine wpAnyH_ready (rs := [14]) (by kernel_rfl) (by simp) (AllReadyH.cons rfl (fun K3 hK3 => ?_) AllReadyH.nil)
      rw [if_pos (by rfl)]
      go_simp
      refine hK3.out _ _ hSS (fun _ => ?_)
      refine wpAnyH_ready (rs := [15]) (by kernel_rfl) (by simp) (AllReadyH.cons rfl (fun K4 hK4 => ?_) AllReadyH.nil)
      rw [if_pos (by rfl)]
      go_simp
      refine hK4.out _ _ hSS (fun _ => ?_)
      refine wpAnyH_done (by kernel_rfl) ?_ _
      go_wp2_with fail
      go_ret2
      exact HOP.out
end Go.Proofs.Ythgbkncanoknkaa
/-
  Contract of container.Part.
-/
set_option linter.unusedVariables false
set_option linter.unusedSimpArgs false
namespace Go.Proofs.Ythgbkncanoknkaa
open Go.RowKit
set_option maxRecDepth 100000
/-- How many blocks a part reaches. -/
def nBlk (f n : Nat) : Nat := (f + n + 999) / 1000 - f / 1000
/-- Blocks, unpacked. -/
def UnR (b : List UInt8) (size at0 : Nat) (ls : List Nat) (f : Nat) (xs : List (List UInt8)) : Prop :=
  ∀ i x, xs[i]? = some x → OpnR (blkB b at0 ls (f / 1000 + i)) x ∧ x.length = min 1000 (size - 1000 * (f / 1000 + i))
def PartR (b : List UInt8) (f n : Nat) (y : List UInt8) : Prop :=
  ∃ size ls at0, PlanR b size ls at0 ∧ f + n ≤ size ∧ (n = 0 ∧ y = [] ∨ 0 < n ∧ ∃ xs, xs.length = nBlk f n ∧ UnR b size at0 ls f xs ∧ y = (xs.flatten.drop (f % 1000)).take n)
def PartOut (b : List UInt8) (f n : Int) (w : World) (e : Ending) (w' : World) : Prop :=
  (∃ y v, 0 ≤ f ∧ 0 ≤ n ∧ PartR b f.toNat n.toNat y ∧ e = .returned (.tuple #[v, .int .i64 0]) ∧ Rd w' 1 v y.length (bv y) ∧ St w.heap.size w w' []) ∨
  (∃ er : Nat, (er = 6 ∧ (∀ size ls at0, PlanR b size ls at0 → 0 ≤ f ∧ 0 ≤ n ∧ f + n ≤ (size : Int)) ∨ er = 7 ∧ ∀ size ls at0, PlanR b size ls at0 → f < 0 ∨ n < 0 ∨ (size : Int) < f + n) ∧ e = .returned (.tuple #[.slice none 0 0, .int .i64 (er : Int)]) ∧ St w.heap.size w w' [] ∧ ¬ ∃ y, 0 ≤ f ∧ 0 ≤ n ∧ PartR b f.toNat n.toNat y)
theorem NumsR.len : ∀ {l : List Nat} {b : List UInt8}, NumsR b l → l.length ≤ b.length
  | [], _, _ => Nat.zero_le _
  | n :: l, b, ⟨_, k, h1, h2⟩ => by
    have e1 := NumsR.len h2
    have e2 := rdN_pos h1
    rw [List.length_drop] at e1
    rw [List.length_cons]
    omega
theorem UnR.init {b : List UInt8} {size at0 : Nat} {ls : List Nat} {f : Nat} {xs : List (List UInt8)} {x : List UInt8} (h : UnR b size at0 ls f (xs ++ [x])) : UnR b size at0 ls f xs ∧ OpnR (blkB b at0 ls (f / 1000 + xs.length)) x ∧ x.length = min 1000 (size - 1000 * (f / 1000 + xs.length)) := by
  refine ⟨fun i y hy => h i y ?_, h xs.length x (by simp)⟩
  have hi : i < xs.length := by
    rcases Nat.lt_or_ge i xs.length with q | q
    · exact q
    · rw [List.getElem?_eq_none q] at hy; cases hy
  rw [List.getElem?_append_left hi]
  exact hy
theorem UnR.snoc {b : List UInt8} {size at0 : Nat} {ls : List Nat} {f : Nat} {xs : List (List UInt8)} {x : List UInt8} (h : UnR b size at0 ls f xs) (h1 : OpnR (blkB b at0 ls (f / 1000 + xs.length)) x) (h2 : x.length = min 1000 (size - 1000 * (f / 1000 + xs.length))) : UnR b size at0 ls f (xs ++ [x]) := by
  intro i y hy
  rcases Nat.lt_or_ge i xs.length with q | q
  · rw [List.getElem?_append_left q] at hy
    exact h i y hy
  · rw [List.getElem?_append_right q] at hy
    have hi : i = xs.length := by
      rcases Nat.lt_or_ge (i - xs.length) 1 with q2 | q2
      · omega
      · rw [List.getElem?_eq_none (by simpa using q2)] at hy; cases hy
    subst hi
    rw [Nat.sub_self] at hy
    simp at hy
    subst hy
    exact ⟨h1, h2⟩
theorem flat_len (b : List UInt8) (size at0 : Nat) (ls : List Nat) (f : Nat) : ∀ (n : Nat) (xs : List (List UInt8)), xs.length = n → UnR b size at0 ls f xs → xs.flatten.length = min (1000 * n) (size - 1000 * (f / 1000))
  | 0, xs, h, _ => by rw [List.eq_nil_of_length_eq_zero h]; simp
  | n + 1, xs, h, hu => by
    rcases List.eq_nil_or_concat xs with rfl | ⟨ys, z, rfl⟩
    · simp at h
    · rw [List.concat_eq_append] at *
      have hl : ys.length = n := by simpa using h
      obtain ⟨h1, _, h3⟩ := hu.init
      have ih := flat_len b size at0 ls f n ys hl h1
      rw [List.flatten_append, List.length_append, ih, List.flatten_singleton, h3, hl]
      omega
set_option maxHeartbeats 4000000 in
theorem ctpart_any (v : Value) (b : List UInt8) (f n : Int) (w : World) (h : Rd w 1 v b.length (bv b)) (hn : b.length ≤ 1000000) (hbf : -9223372036854775808 ≤ f ∧ f ≤ 9223372036854775807) (hbm : -9223372036854775808 ≤ n ∧ n ≤ 9223372036854775807) :
    Calls Try.prog 35 #[v, .int .i64 f, .int .i64 n] w (PartOut b f n w) := by
  obtain ⟨j0, j0a, j0b, j0c, j0d⟩ := info_parts infoU8
  obtain ⟨ao, cap, rfl⟩ := h.shape
  have H0 := Lib.hid h
  clear h
  go_enter Try.func35, Try.ntmps35
  go_wp2_with fail
  refine (ctread_any _ b w H0.out hn).mono ?_
  rintro e w1 (⟨size, ls, at0, v1, c1, hp, rfl, hr1, hS1⟩ | ⟨n1, a1, l1, cp1, m1, rfl, hS1, hno⟩)
  case inr =>
    have HN := Lib.hid hno
    have hS2 := hS1.alloc' (.cells #[.int .i64 n1, .slice a1 l1 cp1, .int .i64 m1] 82 (0, 0))
    have HS := Lib.hid hS2
    clear hno hS1 hS2
    unfold planV
    go_wp2_with fail
    go_ret2
    refine .inr ⟨6, .inl ⟨rfl, fun size ls at0 hp => absurd ⟨size, ls, at0, hp⟩ HN.out⟩, rfl, HS.out, fun ⟨y, _, _, size, ls, at0, hp, _⟩ => HN.out ⟨size, ls, at0, hp⟩⟩
  case inl =>
    obtain ⟨ao1, cap1, rfl⟩ := hr1.shape
    obtain ⟨hx, kx, g1, g2, g3, g4, g5, g6⟩ := id hp
    have hszb := rdN_le g3
    have HP := Lib.hid hp
    have HG6 := Lib.hid g6
    have hlsb : ls.length ≤ 1000000 := by
      have e1 := g4.len
      have e2 := firstP_len g1
      rw [List.length_drop] at e1
      omega
    have hS2 := hS1.alloc (.cells #[.int .i64 (size : Int), .slice ao1 ls.length cap1, .int .i64 (b.length : Int)] 82 (0, 0))
    have k0 := hS2.cell 0 rfl (List.mem_singleton.2 rfl) 0
    have HS2 := Lib.hid (And.intro hr1 hS2)
    have hszi : (size : Int) ≤ 1099511627776 := by omega
    have HNO : Hid (∀ y, 0 ≤ f → 0 ≤ n → PartR b f.toNat n.toNat y → f + n ≤ (size : Int)) := Lib.hid (by
      rintro y h1 h2 ⟨s, l, a, q1, q2, _⟩
      obtain ⟨rfl, _, _⟩ := HP.out.one q1
      omega)
    have HRG : Hid ((f < 0 ∨ n < 0 ∨ (size : Int) < f + n) → ∀ s l a, PlanR b s l a → f < 0 ∨ n < 0 ∨ (s : Int) < f + n) := Lib.hid (by
      intro h s l a q1
      obtain ⟨rfl, _, _⟩ := HP.out.one q1
      exact h)
    clear hp g1 g2 g3 g4 g5 g6 hr1 hS1 hS2 k0
    unfold planV
    rcases (show f < 0 ∨ (0 ≤ f ∧ n < 0) ∨ (0 ≤ f ∧ 0 ≤ n ∧ (size : Int) < f) ∨ (0 ≤ f ∧ 0 ≤ n ∧ f ≤ (size : Int) ∧ (size : Int) - f < n) ∨ (0 ≤ f ∧ 0 ≤ n ∧ f ≤ (size : Int) ∧ n ≤ (size : Int) - f) by omega) with q | ⟨q, q2⟩ | ⟨q, q2, q3⟩ | ⟨q, q2, q3, q4⟩ | ⟨q, q2, q3, q4⟩
    · go_wp2_with fail
      go_ret2
      exact .inr ⟨7, .inr ⟨rfl, HRG.out (by omega)⟩, rfl, HS2.out.2.pick [] (by decide) [] rfl, fun ⟨y, y1, y2, y3⟩ => by have := HNO.out y y1 y2 y3; omega⟩
    · go_wp2_with fail
      go_ret2
      exact .inr ⟨7, .inr ⟨rfl, HRG.out (by omega)⟩, rfl, HS2.out.2.pick [] (by decide) [] rfl, fun ⟨y, y1, y2, y3⟩ => by have := HNO.out y y1 y2 y3; omega⟩
    · go_wp2_with fail
      go_ret2
      exact .inr ⟨7, .inr ⟨rfl, HRG.out (by omega)⟩, rfl, HS2.out.2.pick [] (by decide) [] rfl, fun ⟨y, y1, y2, y3⟩ => by have := HNO.out y y1 y2 y3; omega⟩
    · go_wp2_with fail
      go_ret2
      exact .inr ⟨7, .inr ⟨rfl, HRG.out (by omega)⟩, rfl, HS2.out.2.pick [] (by decide) [] rfl, fun ⟨y, y1, y2, y3⟩ => by have := HNO.out y y1 y2 y3; omega⟩
    · obtain ⟨F, rfl⟩ := Int.eq_ofNat_of_zero_le q
      obtain ⟨M, rfl⟩ := Int.eq_ofNat_of_zero_le q2
      have d1 : decide ((F : Int) < 0) = false := by rw [decide_eq_false_iff_not]; omega
      have d2 : decide ((M : Int) < 0) = false := by rw [decide_eq_false_iff_not]; omega
      have d3 : decide ((size : Int) < (F : Int)) = false := by rw [decide_eq_false_iff_not]; omega
      have d5 : decide (size < F) = false := by rw [decide_eq_false_iff_not]; omega
      have d4 : decide ((size : Int) - (F : Int) < (M : Int)) = false := by rw [decide_eq_false_iff_not]; omega
      clear hbf hbm HNO HRG
      by_cases qM : M = 0
      · subst qM
        go_wp2_with fail
        go_ret2
        exact .inl ⟨[], _, by omega, by omega, ⟨size, ls, at0, HP.out, by simp; omega, .inl ⟨rfl, rfl⟩⟩, rfl, Rd.nil _ _, HS2.out.2.pick [] (by decide) [] rfl⟩
      have qMi : ((M : Int) == 0) = false := by rw [beq_eq_false_iff_ne]; omega
      have hM : 0 < M := by omega
      clear qM
      have hFM : F + M ≤ size := by omega
      have hmo : F % 1000 + F / 1000 * 1000 = F := by omega
      obtain ⟨D, HD⟩ : ∃ D, Hid (D = F / 1000) := ⟨_, Lib.hid rfl⟩
      obtain ⟨J, HJ⟩ : ∃ J, Hid (J = nBlk F M) := ⟨_, Lib.hid rfl⟩
      have hJ : Hid (D + J = (F + M + 999) / 1000) := Lib.hid (by rw [HJ.out, HD.out]; unfold nBlk; omega)
      have hDF : Hid (Value.int .i64 ((F : Int) / 1000) = .int .i64 (D : Int)) := Lib.hid (by rw [HD.out]; congr 1)
      have hcl := HS2.out.2
      clear hmo
      go_wp2_with fail
      go_loopg [10, 12] J (fun gf s10 s12 wr => ∃ (j K : Nat) (xs : List (List UInt8)) (co : List (Nat × Obj)), j + gf = J ∧ Hid (K = D + j) ∧ s12 = .int .i64 (K : Int) ∧ Hid (xs.length = j ∧ UnR b size at0 ls F xs) ∧ RowC 5 1 s10 xs.flatten.length (bv xs.flatten) co ∧ St w.heap.size w wr [[(w1.heap.size, .cells #[.int .i64 (size : Int), .slice ao1 ls.length cap1, .int .i64 (b.length : Int)] 82 (0, 0))], c1, co])
      case atStart =>
        refine ⟨0, D, [], [], by omega, Lib.hid rfl, hDF.out, Lib.hid ⟨rfl, fun i x h => by cases h⟩, RowC.nil _ _, ?_⟩
        exact (HS2.out.2.one_nil).pick [1, 2, 0] (by decide) _ rfl
      case round =>
        clear hcl
        obtain ⟨j, K, xs, co, hj, HK, rfl, HX, hro, hS⟩ := hrel
        obtain ⟨aoo, capo, rfl⟩ := hro.shape
        have k0 : wr.cell? ⟨w1.heap.size, 0, none⟩ = some (.int .i64 (size : Int)) := hS.cell 0 rfl (List.mem_singleton.2 rfl) 0
        have k1 : wr.cell? ⟨w1.heap.size, 1, none⟩ = some (.slice ao1 ls.length cap1) := hS.cell 0 rfl (List.mem_singleton.2 rfl) 1
        have k2 : wr.cell? ⟨w1.heap.size, 2, none⟩ = some (.int .i64 (b.length : Int)) := hS.cell 0 rfl (List.mem_singleton.2 rfl) 2
        have hfl := flat_len b size at0 ls F j xs HX.out.1 HX.out.2
        have HFLN := Lib.hid hfl
        obtain ⟨fl, HFL⟩ : ∃ fl, Hid (fl = xs.flatten) := ⟨_, Lib.hid rfl⟩
        rw [← HFL.out] at hro hfl ⊢
        have hflb : fl.length ≤ 2000000000000 := by omega
        have HS := Lib.hid (And.intro hro hS)
        have hKb : K ≤ 10000000000 := by have := HK.out; have := hJ.out; omega
        have hwK : IntKind.i64.wrap ((K : Int) * 1000) = (K : Int) * 1000 := IntWalk.i64_in _ (by omega)
        have hwF : IntKind.i64.wrap ((F : Int) + (M : Int)) = (F : Int) + (M : Int) := IntWalk.i64_in _ (by omega)
        clear hro hS hfl
        cases gk with
        | zero =>
          have hKF : ¬ (K : Int) * 1000 < (F : Int) + (M : Int) := by have := HK.out; have := hJ.out; omega
          have hjJ : j = J := by omega
          have hwD : IntKind.i64.wrap ((F : Int) / 1000 * 1000) = (F : Int) / 1000 * 1000 := IntWalk.i64_in _ (by omega)
          obtain ⟨R, HRR⟩ : ∃ R, Hid (R = F % 1000) := ⟨_, Lib.hid rfl⟩
          have hR1 : (F : Int) - (F : Int) / 1000 * 1000 = (R : Int) := by rw [HRR.out]; omega
          have hwR : IntKind.i64.wrap ((F : Int) - (F : Int) / 1000 * 1000) = (R : Int) := by rw [← hR1]; exact IntWalk.i64_in _ (by omega)
          have hwRM : IntKind.i64.wrap ((R : Int) + (M : Int)) = (R : Int) + (M : Int) := IntWalk.i64_in _ (by have := HRR.out; omega)
          have hlen : R + M ≤ fl.length := by
            have e1 := HFLN.out
            rw [← HFL.out] at e1
            have e2 := hJ.out
            have e3 := HD.out
            have e4 := HRR.out
            omega
          have hcp := HS.out.1.cap
          have hRc : (R : Int) ≤ (R : Int) + (M : Int) := by omega
          have hRc2 : (R : Int) + (M : Int) ≤ (capo : Int) := by omega
          obtain ⟨g, hg⟩ := HS.out.1.head (by omega)
          subst hg
          have hy : Rd wr 1 (.slice (some ⟨g, R, none⟩) M (capo - R)) M (bv ((fl.drop R).take M)) := by
            have h1 := (HS.out.1.rd HS.out.2 2 rfl).drop (ao' := some ⟨g, R, none⟩) R (by omega) (fun _ => by rw [Nat.mul_one]; simp [Addr.add]) (fun e => by omega)
            have h2 := h1.take M (by omega)
            rwa [← bv_drop, ← bv_take] at h2
          have HY := Lib.hid hy
          clear hy
          go_wp2_with fail
          go_ret2
          have hyl := rd_len HY.out
          refine .inl ⟨(fl.drop R).take M, _, by omega, by omega, ⟨size, ls, at0, HP.out, by rw [Int.toNat_natCast, Int.toNat_natCast]; exact hFM, .inr ⟨by rw [Int.toNat_natCast]; exact hM, xs, ?_, ?_, ?_⟩⟩, rfl, ?_, HS.out.2.pick [] (by decide) [] rfl⟩
          · rw [Int.toNat_natCast, Int.toNat_natCast, ← HJ.out, HX.out.1, hjJ]
          · rw [Int.toNat_natCast]; exact HX.out.2
          · rw [Int.toNat_natCast, Int.toNat_natCast, ← HRR.out, ← HFL.out]
          · rw [← hyl]; exact HY.out
        | succ m =>
          have hKF : (K : Int) * 1000 < (F : Int) + (M : Int) := by have := HK.out; have := hJ.out; omega
          have hKl : K < ls.length := by have := HG6.out; omega
          go_wp2_with fail
          refine (ctget_any (.slice ao b.length cap) b size at0 ls K ao1 cap1 wr (H0.out.st HS.out.2) HP.out (HS2.out.1.rd HS.out.2 1 rfl) hKl hn hlsb).mono ?_
          rintro e w4 (⟨x, v4, c4, rfl, hr4, hx4, ho4, hS4⟩ | ⟨v4, rfl, hS4, hno⟩)
          · obtain ⟨ao4, cap4, rfl⟩ := hr4.shape
            have hS5 := HS.out.2.join hS4
            have hrd4 := hr4.rd hS5 0 rfl
            have hro5 := HS.out.1
            have hx1 : x.length ≤ 1000 := by omega
            have HO := Lib.hid (And.intro ho4 hx4)
            clear hr4 hx4 ho4 hS4 k0 k1 k2
            go_wp2_with ((at_builtin; (refine wpList_app 3 29 j0 (.int .u8 0) _ _ rfl rfl rfl rfl Try.underlying29 j0a j0b j0c j0d rfl (by decide) hS5 rfl hro5 hrd4 (bv_one _) ?_ ?_ ?_); (unfold maxLen; omega); omega; intro v5 c5 w5 hr5 hS5'); rw [← bv_append] at hr5; have H5 := Lib.hid (And.intro hr5 (hS5'.pick [1, 2, 3] (by decide) [[(w1.heap.size, .cells #[.int .i64 (size : Int), .slice ao1 ls.length cap1, .int .i64 (b.length : Int)] 82 (0, 0))], c1, c5] rfl)); clear hS5 hro5 hrd4 hr5 hS5')
            go_roundg m
            case measure => omega
            case rel =>
              have hKj : K = F / 1000 + xs.length := by rw [HK.out, HD.out, HX.out.1]
              refine ⟨j + 1, K + 1, xs ++ [x], c5, by omega, Lib.hid (by rw [HK.out]; omega), by go_num, Lib.hid ⟨by rw [List.length_append, HX.out.1]; rfl, HX.out.2.snoc (by rw [← hKj]; exact HO.out.1) (by rw [← hKj]; exact HO.out.2)⟩, ?_, H5.out.2⟩
              rw [List.flatten_append, List.flatten_singleton, ← HFL.out, List.length_append]
              exact H5.out.1
          · have HNO := Lib.hid hno
            have HS4 := Lib.hid (HS.out.2.join hS4)
            clear hno hS4 k0 k1 k2
            go_wp2_with fail
            go_ret2
            refine .inr ⟨6, .inl ⟨rfl, fun s l a q1 => by obtain ⟨e1, _, _⟩ := HP.out.one q1; omega⟩, rfl, HS4.out.pick [] (by decide) [] rfl, fun ⟨y, _, _, s, l, a, hp2, _, hy⟩ => ?_⟩
            obtain ⟨rfl, rfl, rfl⟩ := HP.out.one hp2
            rw [Int.toNat_natCast, Int.toNat_natCast] at hy
            rcases hy with ⟨h0, _⟩ | ⟨_, xs', h1, h2, _⟩
            · omega
            · have hjl : j < xs'.length := by rw [h1, ← HJ.out]; omega
              obtain ⟨z, hz⟩ : ∃ z, xs'[j]? = some z := ⟨_, List.getElem?_eq_getElem hjl⟩
              have h3 := h2 j z hz
              have hKj : K = F / 1000 + j := by rw [HK.out, HD.out]
              rw [← hKj] at h3
              exact HNO.out ⟨z, h3.2, h3.1⟩
end Go.Proofs.Ythgbkncanoknkaa
/-
  container, plain: a text that is unpacked; how many bytes blocks have.
-/
set_option linter.unusedVariables false
set_option linter.unusedSimpArgs false
namespace Go.Proofs.Ythgbkncanoknkaa
open Go.RowKit
set_option maxRecDepth 100000
def UnpR (b y : List UInt8) : Prop := (∃ ls at0, PlanR b y.length ls at0) ∧ PartR b 0 y.length y
theorem PartR.len {b : List UInt8} {f n : Nat} {y : List UInt8} (h : PartR b f n y) : y.length = n := by
  obtain ⟨size, ls, at0, _, h1, h2⟩ := h
  rcases h2 with ⟨rfl, rfl⟩ | ⟨h3, xs, h4, h5, rfl⟩
  · rfl
  · have h6 := flat_len b size at0 ls f _ xs h4 h5
    rw [List.length_take, List.length_drop, h6]
    unfold nBlk
    omega
theorem PartR.size {b : List UInt8} {f n : Nat} {y : List UInt8} (h : PartR b f n y) {size : Nat} {ls : List Nat} {at0 : Nat} (hp : PlanR b size ls at0) : f + n ≤ size := by
  obtain ⟨s, l, a, h0, h1, _⟩ := h
  obtain ⟨rfl, _, _⟩ := hp.one h0
  exact h1
def partsI (size : Nat) (n : Nat) : List Int := (List.range n).map fun k : Nat => min 1000 ((size : Int) - (k : Int) * 1000)
theorem partsI_snoc (size n : Nat) : partsI size (n + 1) = partsI size n ++ [min 1000 ((size : Int) - (n : Int) * 1000)] := by
  unfold partsI
  rw [List.range_succ, List.map_append]
  rfl
end Go.Proofs.Ythgbkncanoknkaa
/-
  container, plain: what was packed is unpacked; what is unpacked is one.
-/
set_option linter.unusedVariables false
set_option linter.unusedSimpArgs false
namespace Go.Proofs.Ythgbkncanoknkaa
open Go.RowKit
set_option maxRecDepth 100000
theorem blkX_open (b e y : List UInt8) (hy : y = fourB (crcP (blkX b e)) ++ blkX b e) (he : EncR b e) : OpnR y b := by
  have hg : getB y = crcP (blkX b e) := by rw [hy]; exact getB_four _ _ (crcP_lt _)
  have h4 : y.drop 4 = blkX b e := by rw [hy]; exact List.drop_left' (fourB_length _)
  have hl : y.length = 4 + (blkX b e).length := by rw [hy, List.length_append, fourB_length]
  have h5 : y.drop 5 = (blkX b e).drop 1 := by rw [← h4, List.drop_drop]
  have hi : y[4]? = (blkX b e)[0]? := by rw [← h4, List.getElem?_drop]
  refine ⟨?_, by rw [hg, h4], ?_⟩
  · rw [hl]; unfold blkX; split <;> simp <;> omega
  · rw [hi, h5]
    unfold blkX
    split
    · exact .inl ⟨rfl, rfl⟩
    · exact .inr ⟨rfl, he⟩
theorem BlkR.open {b y : List UInt8} (h : BlkR b y) : OpnR y b := by
  obtain ⟨e, he, hy⟩ := h
  exact blkX_open b e y hy he
theorem OpnR.one {y a b : List UInt8} (ha : OpnR y a) (hb : OpnR y b) (h1 : a.length ≤ 1000000) (h2 : b.length ≤ 1000000) : a = b := by
  obtain ⟨_, _, ha⟩ := ha
  obtain ⟨_, _, hb⟩ := hb
  rcases ha with ⟨a1, a2⟩ | ⟨a1, a2⟩ <;> rcases hb with ⟨b1, b2⟩ | ⟨b1, b2⟩
  · rw [a2, b2]
  · rw [a1] at b1; cases b1
  · rw [a1] at b1; cases b1
  · exact a2.text b2 h1 h2
def chk (x : List UInt8) (k : Nat) : List UInt8 := (x.drop (1000 * k)).take 1000
theorem chk_length (x : List UInt8) (k : Nat) : (chk x k).length = min 1000 (x.length - 1000 * k) := by unfold chk; rw [List.length_take, List.length_drop]
theorem BlksR.all : ∀ {X : List (List UInt8)} {b : List UInt8}, BlksR b X → X.length = (b.length + 999) / 1000 ∧ ∀ k y, X[k]? = some y → BlkR (chk b k) y
  | [], b, h => by
    have : b = [] := h
    subst this
    exact ⟨rfl, fun k y h => by cases h⟩
  | x :: X, b, ⟨h0, h1, h2⟩ => by
    obtain ⟨ih1, ih2⟩ := BlksR.all h2
    have hp : 0 < b.length := List.length_pos_iff.2 h0
    refine ⟨by rw [List.length_cons, ih1, List.length_drop]; omega, fun k y hy => ?_⟩
    cases k with
    | zero =>
      simp at hy
      subst hy
      exact h1
    | succ k =>
      have := ih2 k y (by simpa using hy)
      unfold chk at this ⊢
      rwa [List.drop_drop, show 1000 + 1000 * k = 1000 * (k + 1) from by omega] at this
theorem flat_drop : ∀ (X : List (List UInt8)) (k : Nat) (y : List UInt8), X[k]? = some y → (X.flatten.drop ((X.map List.length).take k).sum).take ((X.map List.length).getD k 0) = y
  | [], k, y, h => by cases h
  | x :: X, 0, y, h => by
    simp at h
    subst h
    simp
  | x :: X, k + 1, y, h => by
    have ih := flat_drop X k y (by simpa using h)
    rw [List.map_cons, List.take_succ_cons, List.sum_cons, List.flatten_cons, ← List.drop_drop, List.drop_left]
    simpa using ih
theorem first_seal (h r : List UInt8) (hh : h.length < 4294967296) : firstP (sealP h ++ r) = some h := by
  have hn4 : (fourB h.length).length = 4 := rfl
  have e0 : sealP h ++ r = fourB h.length ++ (fourB (crcP (fourB h.length)) ++ (fourB (crcP h) ++ (h ++ r))) := by unfold sealP; simp only [List.append_assoc]
  have e1 : getB (sealP h ++ r) = h.length := by rw [e0]; exact getB_four _ _ hh
  have d4 : (sealP h ++ r).drop 4 = fourB (crcP (fourB h.length)) ++ (fourB (crcP h) ++ (h ++ r)) := by rw [e0]; exact List.drop_left' rfl
  have d8 : (sealP h ++ r).drop 8 = fourB (crcP h) ++ (h ++ r) := by
    rw [show 8 = 4 + 4 from rfl, ← List.drop_drop, d4]; exact List.drop_left' rfl
  have d12 : (sealP h ++ r).drop 12 = h ++ r := by
    rw [show 12 = 8 + 4 from rfl, ← List.drop_drop, d8]; exact List.drop_left' rfl
  have t4 : (sealP h ++ r).take 4 = fourB h.length := by rw [e0]; exact List.take_left' rfl
  have hl : (sealP h ++ r).length = 12 + h.length + r.length := by rw [List.length_append, sealP_length]
  unfold firstP
  rw [e1, d4, d8, d12, t4, getB_four _ _ (crcP_lt _), getB_four _ _ (crcP_lt _), List.take_left, hl, if_neg (by rintro (h | h | h | h); omega; exact h rfl; omega; exact h rfl)]
theorem nums_put : ∀ X : List (List UInt8), (∀ x ∈ X, x.length ≤ 1000000) → NumsR (X.flatMap fun x => putN x.length) (X.map List.length)
  | [], _ => rfl
  | x :: X, h => by
    have hx := h x List.mem_cons_self
    rw [List.flatMap_cons, List.map_cons]
    refine ⟨fun e => ?_, (putN x.length).length, rdN_putN _ _ _ (by omega) (by omega), ?_⟩
    · have := congrArg List.length e
      have hp := putN_pos x.length
      rw [List.length_append, List.length_nil] at this
      omega
    · rw [List.drop_left]
      exact nums_put X fun y hy => h y (List.mem_cons_of_mem _ hy)
theorem headP_len (n : Nat) : ∀ X : List (List UInt8), (headP n X).length ≤ 10 * (X.length + 1) := by
  intro X
  unfold headP
  rw [List.length_append]
  have h1 := putN_le n
  have h2 : (X.flatMap fun x => putN x.length).length ≤ 10 * X.length := by
    induction X with
    | nil => simp
    | cons x X ih =>
      rw [List.flatMap_cons, List.length_append, List.length_cons]
      have := putN_le x.length
      omega
  omega
theorem flat_sum (X : List (List UInt8)) : X.flatten.length = (X.map List.length).sum := by simp
section
variable {x c : List UInt8} {X : List (List UInt8)} (hX : BlksR x X) (hc : c = sealP (headP x.length X) ++ X.flatten) (hx : x.length ≤ 100000)
include hX hc hx
theorem pack_plan : PlanR c x.length (X.map List.length) (12 + (headP x.length X).length) := by
  obtain ⟨h1, h2⟩ := hX.all
  have hh := headP_len x.length X
  refine ⟨headP x.length X, (putN x.length).length, ?_, rfl, ?_, ?_, ?_, ?_⟩
  · rw [hc]; exact first_seal _ _ (by omega)
  · unfold headP; exact rdN_putN _ _ _ (by omega) (by omega)
  · unfold headP
    rw [List.drop_left]
    refine nums_put X fun y hy => ?_
    obtain ⟨k, hk⟩ := List.mem_iff_getElem?.1 hy
    have h3 := (h2 k y hk).size
    rw [chk_length] at h3
    omega
  · rw [hc, List.length_append, sealP_length, flat_sum]
  · rw [List.length_map, h1]
omit hX hx in
theorem pack_blk (k : Nat) (y : List UInt8) (hk : X[k]? = some y) : blkB c (12 + (headP x.length X).length) (X.map List.length) k = y := by
  unfold blkB
  rw [hc, ← List.drop_drop, List.drop_left' (by rw [sealP_length])]
  exact flat_drop X k y hk
end
theorem chk_flat (x : List UInt8) : ∀ J, ((List.range J).map (chk x)).flatten = x.take (1000 * J)
  | 0 => by simp
  | J + 1 => by
    rw [List.range_succ, List.map_append, List.flatten_append, chk_flat x J]
    simp only [List.map_cons, List.map_nil, List.flatten_cons, List.flatten_nil, List.append_nil]
    unfold chk
    rw [show 1000 * (J + 1) = 1000 * J + 1000 from by omega, List.take_add]
theorem chk_shift (x : List UInt8) (D i : Nat) : chk x (D + i) = chk (x.drop (1000 * D)) i := by
  unfold chk
  rw [List.drop_drop, show 1000 * (D + i) = 1000 * D + 1000 * i from by omega]
theorem PackR.part {x c : List UInt8} (h : PackR x c) (hx : x.length ≤ 100000) {f n : Nat} (hf : f + n ≤ x.length) : PartR c f n ((x.drop f).take n) := by
  obtain ⟨X, hX, hc⟩ := h
  have hp := pack_plan hX hc hx
  refine ⟨_, _, _, hp, hf, ?_⟩
  rcases Nat.eq_zero_or_pos n with rfl | hn
  · exact .inl ⟨rfl, by simp⟩
  · refine .inr ⟨hn, (List.range (nBlk f n)).map fun i => chk x (f / 1000 + i), by simp, fun i y hy => ?_, ?_⟩
    · have hi : i < nBlk f n := by
        rcases Nat.lt_or_ge i (nBlk f n) with q | q
        · exact q
        · rw [List.getElem?_eq_none (by simpa using q)] at hy; cases hy
      rw [List.getElem?_map, List.getElem?_range hi] at hy
      simp at hy
      subst hy
      obtain ⟨h1, h2⟩ := hX.all
      have hk : f / 1000 + i < X.length := by unfold nBlk at hi; omega
      obtain ⟨y, hy⟩ : ∃ y, X[f / 1000 + i]? = some y := ⟨_, List.getElem?_eq_getElem hk⟩
      refine ⟨?_, chk_length _ _⟩
      rw [pack_blk hc _ y hy]
      exact (h2 _ y hy).open
    · have e1 : ((List.range (nBlk f n)).map fun i => chk x (f / 1000 + i)) = (List.range (nBlk f n)).map (chk (x.drop (1000 * (f / 1000)))) := List.map_congr_left fun i _ => chk_shift x _ i
      rw [e1, chk_flat]
      have e2 : f = 1000 * (f / 1000) + f % 1000 := by omega
      rw [List.drop_take, List.drop_drop, ← e2, List.take_take]
      congr 1
      unfold nBlk
      omega
theorem PackR.unp {x c : List UInt8} (h : PackR x c) (hx : x.length ≤ 100000) : UnpR c x := by
  have h1 := h.part hx (f := 0) (n := x.length) (by omega)
  obtain ⟨X, hX, hc⟩ := h
  refine ⟨⟨_, _, pack_plan hX hc hx⟩, ?_⟩
  simpa using h1
theorem blks_len : ∀ {X : List (List UInt8)} {b : List UInt8}, BlksR b X → X.flatten.length ≤ b.length + 5 * X.length
  | [], b, _ => by simp
  | x :: X, b, ⟨h0, h1, h2⟩ => by
    have ih := blks_len h2
    have h3 := h1.size
    rw [List.length_take] at h3
    rw [List.length_drop] at ih
    rw [List.flatten_cons, List.length_append, List.length_cons]
    omega
theorem PackR.size {x c : List UInt8} (h : PackR x c) : c.length ≤ x.length + 16 * ((x.length + 999) / 1000) + 32 := by
  obtain ⟨X, hX, hc⟩ := h
  have h1 := hX.all.1
  have h2 := blks_len hX
  have h3 := headP_len x.length X
  rw [hc, List.length_append, sealP_length]
  omega
theorem PartR.one {b : List UInt8} {f n : Nat} {y z : List UInt8} (hy : PartR b f n y) (hz : PartR b f n z) : y = z := by
  obtain ⟨s, l, a, h1, h2, h3⟩ := hy
  obtain ⟨s', l', a', h1', h2', h3'⟩ := hz
  obtain ⟨rfl, rfl, rfl⟩ := h1.one h1'
  rcases h3 with ⟨h0, rfl⟩ | ⟨h0, xs, h4, h5, rfl⟩
  · rcases h3' with ⟨_, rfl⟩ | ⟨h0', _⟩
    · rfl
    · omega
  · rcases h3' with ⟨h0', _⟩ | ⟨_, xs', h4', h5', rfl⟩
    · omega
    · have e : xs = xs' := by
        apply List.ext_getElem?
        intro i
        rcases Nat.lt_or_ge i (nBlk f n) with q | q
        · obtain ⟨u, hu⟩ : ∃ u, xs[i]? = some u := ⟨_, List.getElem?_eq_getElem (by omega)⟩
          obtain ⟨v, hv⟩ : ∃ v, xs'[i]? = some v := ⟨_, List.getElem?_eq_getElem (by omega)⟩
          have g1 := h5 i u hu
          have g2 := h5' i v hv
          rw [hu, hv, g1.1.one g2.1 (by omega) (by omega)]
        · rw [List.getElem?_eq_none (by omega), List.getElem?_eq_none (by omega)]
      rw [e]
theorem UnpR.one {b y z : List UInt8} (hy : UnpR b y) (hz : UnpR b z) : y = z := by
  obtain ⟨⟨l, a, h1⟩, h2⟩ := hy
  obtain ⟨⟨l', a', h1'⟩, h2'⟩ := hz
  obtain ⟨e, _, _⟩ := h1.one h1'
  rw [← e] at h2'
  exact h2.one h2'
end Go.Proofs.Ythgbkncanoknkaa
/-
  What a sealed segment says; how it lies in memory.
-/
set_option linter.unusedVariables false
set_option linter.unusedSimpArgs false
namespace Go.Proofs.Ythgbkncanoknkaa
open Go.RowKit
set_option maxRecDepth 100000
/-- A record as the directory tells it. -/
structure Ent where
  kind : Nat
  seq : Nat
  key : List UInt8
  size : Nat
def xR (e : Ent) : Rec := ⟨e.kind, e.seq, e.key, []⟩
def OkE (e : Ent) : Prop := ckR (xR e) = 0 ∧ (e.kind = 0 → e.size = 0)
def EntsR : List UInt8 → List Ent → Prop
  | b, [] => b = []
  | b, e :: l => ∃ k1 k2 k3 k4, rdN b 1 = some (e.kind, k1) ∧ rdN (b.drop k1) 1125899906842624 = some (e.seq, k2) ∧ getT ((b.drop k1).drop k2) = some (e.key, k3) ∧ rdN (((b.drop k1).drop k2).drop k3) 4000 = some (e.size, k4) ∧ OkE e ∧ EntsR ((((b.drop k1).drop k2).drop k3).drop k4) l
theorem EntsR.one : ∀ {l l' : List Ent} {b : List UInt8}, l.length = l'.length → EntsR b l → EntsR b l' → l = l'
  | [], [], _, _, _, _ => rfl
  | [], _ :: _, _, h, _, _ => by simp at h
  | _ :: _, [], _, h, _, _ => by simp at h
  | ⟨a1, a2, a3, a4⟩ :: l, ⟨c1, c2, c3, c4⟩ :: l', b, hl, ⟨k1, k2, k3, k4, h1, h2, h3, h4, _, h5⟩, ⟨m1, m2, m3, m4, g1, g2, g3, g4, _, g5⟩ => by
    rw [h1] at g1
    injection g1 with g1
    injection g1 with e1 e2
    subst e2
    rw [h2] at g2
    injection g2 with g2
    injection g2 with e3 e4
    subst e4
    rw [h3] at g3
    injection g3 with g3
    injection g3 with e5 e6
    subst e6
    rw [h4] at g4
    injection g4 with g4
    injection g4 with e7 e8
    subst e8
    simp only at e1 e3 e5 e7
    subst e1 e3 e5 e7
    rw [EntsR.one (by simpa using hl) h5 g5]
/-- Which segment some bytes are. -/
def SegR (b : List UInt8) (es : List Ent) (pk : List UInt8) : Prop :=
  ∃ h k0, firstP b = some h ∧ rdN h 1073741824 = some (es.length, k0) ∧ EntsR (h.drop k0) es ∧ pk = b.drop (12 + h.length)
theorem SegR.one {b pk pk' : List UInt8} {es es' : List Ent} (h : SegR b es pk) (h' : SegR b es' pk') : es = es' ∧ pk = pk' := by
  obtain ⟨x, k, h1, h2, h3, h4⟩ := h
  obtain ⟨x', k', h1', h2', h3', h4'⟩ := h'
  rw [h1] at h1'
  injection h1' with h1'
  subst h1'
  rw [h2] at h2'
  injection h2' with h2'
  injection h2' with e1 e2
  subst e2
  exact ⟨h3.one e1 h3', by rw [h4, h4']⟩
/-! Places -/
def sizesP (l : List Ent) : Nat := (l.map Ent.size).sum
theorem sizesP_snoc (l : List Ent) (e : Ent) : sizesP (l ++ [e]) = sizesP l + e.size := by simp [sizesP]
def plC (e : Ent) (at0 : Nat) : List Value := [.int .i64 (e.kind : Int), .int .i64 (e.seq : Int), .string ⟨e.key.toArray⟩, .string ⟨([] : List UInt8).toArray⟩, .int .i64 (at0 : Int), .int .i64 (e.size : Int)]
def plR : Nat → List Ent → List (List Value)
  | _, [] => []
  | n, e :: l => plC e n :: plR (n + e.size) l
theorem plR_len : ∀ (l : List Ent) (n : Nat), (plR n l).length = l.length
  | [], _ => rfl
  | e :: l, n => by simp [plR, plR_len l]
theorem plR_snoc : ∀ (l : List Ent) (n : Nat) (e : Ent), plR n (l ++ [e]) = plR n l ++ [plC e (n + sizesP l)]
  | [], n, e => by simp [plR, sizesP]
  | x :: l, n, e => by
    rw [List.cons_append, plR, plR_snoc l, plR, List.cons_append]
    have : n + x.size + sizesP l = n + sizesP (x :: l) := by simp [sizesP]; omega
    rw [this]
theorem plR_get : ∀ (l : List Ent) (n i : Nat) (e : Ent), l[i]? = some e → (plR n l)[i]? = some (plC e (n + sizesP (l.take i)))
  | [], n, i, e, h => by simp at h
  | x :: l, n, 0, e, h => by simp only [List.getElem?_cons_zero, Option.some.injEq] at h; subst h; simp [plR, sizesP]
  | x :: l, n, i + 1, e, h => by
    simp only [List.getElem?_cons_succ] at h
    rw [plR, List.getElem?_cons_succ, plR_get l _ i e h, List.take_succ_cons]
    have : n + x.size + sizesP (l.take i) = n + sizesP (x :: l.take i) := by simp [sizesP]; omega
    rw [this]
theorem plR_all : ∀ (l : List Ent) (n : Nat), ∀ r ∈ plR n l, r.length = 6
  | [], n, r, h => by simp [plR] at h
  | x :: l, n, r, h => by
    rw [plR, List.mem_cons] at h
    rcases h with rfl | h
    · rfl
    · exact plR_all l _ r h
def pls (l : List Ent) : List Value := (plR 0 l).flatten
theorem pls_len (l : List Ent) : (pls l).length = l.length * 6 := by
  unfold pls
  rw [rows_flat_len _ 6 (plR_all l 0), plR_len]
theorem pls_snoc (l : List Ent) (e : Ent) : pls l ++ plC e (sizesP l) = pls (l ++ [e]) := by
  unfold pls
  rw [plR_snoc, List.flatten_append, Nat.zero_add]
  simp
theorem pls_get (l : List Ent) (i j : Nat) (e : Ent) (h : l[i]? = some e) (hj : j < 6) : (pls l)[i * 6 + j]? = (plC e (sizesP (l.take i)))[j]? := by
  unfold pls
  rw [rows_flat_get _ 6 (plR_all l 0), if_neg (by omega), show (i * 6 + j) / 6 = i from by omega, show (i * 6 + j) % 6 = j from by omega, plR_get l 0 i e h, Nat.zero_add]
  rfl
theorem plC_one (e : Ent) (n : Nat) : ∀ x ∈ plC e n, x.oneCell' = true := by
  intro x hx
  unfold plC at hx
  simp only [List.mem_cons, List.not_mem_nil, or_false] at hx
  rcases hx with rfl | rfl | rfl | rfl | rfl | rfl <;> rfl
/-- The six cells of a place, where they are read. -/
theorem Rd.place {w : World} {n cap : Nat} {ad : Addr} {l : List Ent} (h : Rd w 6 (.slice (some ad) n cap) n (pls l)) {i : Nat} {e : Ent} (hu : l[i]? = some e) :
    w.cell? (ad.add (i * 6)) = some (.int .i64 (e.kind : Int)) ∧ w.cell? ⟨(ad.add (i * 6)).block, (ad.add (i * 6)).off + 1, none⟩ = some (.int .i64 (e.seq : Int)) ∧ w.cell? ⟨(ad.add (i * 6)).block, (ad.add (i * 6)).off + 2, none⟩ = some (.string ⟨e.key.toArray⟩) ∧ w.cell? ⟨(ad.add (i * 6)).block, (ad.add (i * 6)).off + 3, none⟩ = some (.string ⟨([] : List UInt8).toArray⟩) ∧ w.cell? ⟨(ad.add (i * 6)).block, (ad.add (i * 6)).off + 4, none⟩ = some (.int .i64 (sizesP (l.take i) : Int)) ∧ w.cell? ⟨(ad.add (i * 6)).block, (ad.add (i * 6)).off + 5, none⟩ = some (.int .i64 (e.size : Int)) := by
  have key : ∀ j x, j < 6 → (plC e (sizesP (l.take i)))[j]? = some x → w.cell? (ad.add (i * 6 + j)) = some x := by
    intro j x hj hx
    obtain ⟨ad', e, hc⟩ := h.at (j := i * 6 + j) (u := x) (by rw [pls_get l i j _ hu hj]; exact hx)
    cases e
    exact hc
  have hadd : ∀ j, 0 < j → ad.add (i * 6 + j) = ⟨(ad.add (i * 6)).block, (ad.add (i * 6)).off + j, none⟩ := by
    intro j hj
    unfold Addr.add
    rw [if_neg (by omega)]
    by_cases hi : i * 6 = 0
    · rw [if_pos hi, hi, Nat.zero_add]
    · rw [if_neg hi]
      simp only [Addr.mk.injEq, and_true, true_and]
      omega
  refine ⟨key 0 _ (by omega) rfl, ?_, ?_, ?_, ?_, ?_⟩
  · rw [← hadd 1 (by omega)]; exact key 1 _ (by omega) rfl
  · rw [← hadd 2 (by omega)]; exact key 2 _ (by omega) rfl
  · rw [← hadd 3 (by omega)]; exact key 3 _ (by omega) rfl
  · rw [← hadd 4 (by omega)]; exact key 4 _ (by omega) rfl
  · rw [← hadd 5 (by omega)]; exact key 5 _ (by omega) rfl
theorem Rd.place_some {w : World} {n cap : Nat} {ao : Option Addr} {l : List Ent} (h : Rd w 6 (.slice ao n cap) n (pls l)) {i : Nat} {e : Ent} (hu : l[i]? = some e) : ∃ ad, ao = some ad := by
  obtain ⟨ad, e, _⟩ := h.at (j := i * 6 + 0) (by rw [pls_get l i 0 _ hu (by omega)]; rfl)
  exact ⟨ad, e⟩
/-- One row of some cells, new. -/
theorem Rd.litsN (k : Nat) (w : World) (X : Array Value) (T : TypeId) (hk : 0 < k) (hn : X.size = k) (hm : k ≤ maxLen) : Rd (w.alloc (.cells X T)) k (.slice (some ⟨w.heap.size, 0, none⟩) 1 1) 1 X.toList := by
  have h := Rd.lits w X T k hn hm
  refine ⟨_, 1, rfl, by simp [maxLen], by simp [hn], by simp, fun ad e j u hu => ?_⟩
  cases e
  obtain ⟨ad', e', hc⟩ := h.at hu
  cases e'
  exact hc
/-! What is read: one form for both ends -/
def NumF (b : List UInt8) (most : Nat) (bad : Bool) (n : Nat) (rest : List UInt8) : Prop :=
  (bad = true ∧ n = 0 ∧ rest = [] ∧ rdN b most = none) ∨ (bad = false ∧ ∃ k, rdN b most = some (n, k) ∧ rest = b.drop k ∧ 0 < k ∧ k ≤ b.length)
theorem NumOut.form {p : Nat} {b : List UInt8} {most : Nat} {w0 : World} {F : List (List (Nat × Obj))} {e : Ending} {w' : World} (h : NumOut p b most w0 F e w') :
    ∃ (bad : Bool) (n : Nat) (rest : List UInt8) (sv : Value), e = .returned (.int .i64 (n : Int)) ∧ Rd w0 1 sv rest.length (bv rest) ∧ St w0.heap.size w0 w' (rdrC p sv bad :: F) ∧ n ≤ most ∧ rest.length ≤ b.length ∧ (bad = true → rest = []) ∧ Hid (NumF b most bad n rest) := by
  rcases h with ⟨h1, rfl, h3⟩ | ⟨n, k, sv, h1, rfl, h3, h4⟩
  · exact ⟨true, 0, [], _, rfl, Rd.nil _ _, h3, Nat.zero_le _, Nat.zero_le _, fun _ => rfl, Lib.hid (.inl ⟨rfl, rfl, rfl, h1⟩)⟩
  · refine ⟨false, n, b.drop k, sv, rfl, h3, h4, rdN_le h1, by rw [List.length_drop]; omega, (fun e => by cases e), Lib.hid (.inr ⟨rfl, k, h1, rfl, rdN_pos h1⟩)⟩
def TextF (b : List UInt8) (bad : Bool) (s rest : List UInt8) : Prop :=
  (bad = true ∧ s = [] ∧ rest = [] ∧ getT b = none) ∨ (bad = false ∧ ∃ k, getT b = some (s, k) ∧ rest = b.drop k ∧ 0 < k ∧ k ≤ b.length)
theorem RTextOut.form {p : Nat} {b : List UInt8} {w0 : World} {F : List (List (Nat × Obj))} {e : Ending} {w' : World} (h : RTextOut p b w0 F e w') :
    ∃ (bad : Bool) (s rest : List UInt8) (sv : Value), e = .returned (.string ⟨s.toArray⟩) ∧ Rd w0 1 sv rest.length (bv rest) ∧ St w0.heap.size w0 w' (rdrC p sv bad :: F) ∧ rest.length ≤ b.length ∧ (bad = true → rest = []) ∧ Hid (TextF b bad s rest) := by
  rcases h with ⟨h1, rfl, h3⟩ | ⟨s, k, sv, h1, rfl, h3, h4⟩
  · exact ⟨true, [], [], _, rfl, Rd.nil _ _, h3, Nat.zero_le _, fun _ => rfl, Lib.hid (.inl ⟨rfl, rfl, rfl, h1⟩)⟩
  · exact ⟨false, s, b.drop k, sv, rfl, h3, h4, by rw [List.length_drop]; omega, (fun e => by cases e), Lib.hid (.inr ⟨rfl, k, h1, rfl, getT_pos h1⟩)⟩
/-- What a round has read. -/
theorem round_bad {b r1 r2 r3 r4 key : List UInt8} {b1 b2 b3 b4 : Bool} {n1 n2 n4 : Nat} (h1 : NumF b 1 b1 n1 r1) (h2 : NumF r1 1125899906842624 b2 n2 r2) (h3 : TextF r2 b3 key r3) (h4 : NumF r3 4000 b4 n4 r4) (hk : key ≠ []) :
    r4.length < b.length ∧ (b4 = false → ∃ k1 k2 k3 k4, rdN b 1 = some (n1, k1) ∧ rdN (b.drop k1) 1125899906842624 = some (n2, k2) ∧ getT ((b.drop k1).drop k2) = some (key, k3) ∧ rdN (((b.drop k1).drop k2).drop k3) 4000 = some (n4, k4) ∧ r4 = (((b.drop k1).drop k2).drop k3).drop k4) ∧ (b4 = true → r4 = []) := by
  rcases h3 with ⟨_, e, _⟩ | ⟨e3, k3, g3, q3, p3, p3'⟩
  · exact absurd e hk
  have hr2 : r2 ≠ [] := fun e => by rw [e] at p3'; simp at p3'; omega
  rcases h2 with ⟨_, _, e, _⟩ | ⟨e2, k2, g2, q2, p2, p2'⟩
  · exact absurd e hr2
  have hr1 : r1 ≠ [] := fun e => by rw [e] at p2'; simp at p2'; omega
  rcases h1 with ⟨_, _, e, _⟩ | ⟨e1, k1, g1, q1, p1, p1'⟩
  · exact absurd e hr1
  subst q1 q2 q3
  rcases h4 with ⟨e4, _, q4, _⟩ | ⟨e4, k4, g4, q4, p4, p4'⟩
  · subst q4
    refine ⟨by simp; omega, (fun e => by rw [e4] at e; cases e), fun _ => rfl⟩
  · subst q4
    simp only [List.length_drop] at p4' ⊢
    exact ⟨by omega, fun _ => ⟨k1, k2, k3, k4, g1, g2, g3, g4, rfl⟩, (fun e => by rw [e4] at e; cases e)⟩
/-- A round's entry, from the other side. -/
theorem round_ent {b r1 r2 r3 r4 key : List UInt8} {b1 b2 b3 b4 : Bool} {n1 n2 n4 : Nat} (h1 : NumF b 1 b1 n1 r1) (h2 : NumF r1 1125899906842624 b2 n2 r2) (h3 : TextF r2 b3 key r3) (h4 : NumF r3 4000 b4 n4 r4)
    {e : Ent} {l : List Ent} (h : EntsR b (e :: l)) : e = ⟨n1, n2, key, n4⟩ ∧ OkE e ∧ b4 = false ∧ EntsR r4 l := by
  obtain ⟨k1, k2, k3, k4, g1, g2, g3, g4, ho, g5⟩ := h
  rcases h1 with ⟨_, _, _, e1⟩ | ⟨_, m1, e1, q1, _⟩
  · rw [e1] at g1; cases g1
  rw [e1] at g1
  injection g1 with g1
  injection g1 with a1 a2
  subst q1 a2
  rcases h2 with ⟨_, _, _, e2⟩ | ⟨_, m2, e2, q2, _⟩
  · rw [e2] at g2; cases g2
  rw [e2] at g2
  injection g2 with g2
  injection g2 with a3 a4
  subst q2 a4
  rcases h3 with ⟨_, _, _, e3⟩ | ⟨_, m3, e3, q3, _⟩
  · rw [e3] at g3; cases g3
  rw [e3] at g3
  injection g3 with g3
  injection g3 with a5 a6
  subst q3 a6
  rcases h4 with ⟨_, _, _, e4⟩ | ⟨f4, m4, e4, q4, _⟩
  · rw [e4] at g4; cases g4
  rw [e4] at g4
  injection g4 with g4
  injection g4 with a7 a8
  subst q4 a8
  refine ⟨?_, ho, f4, g5⟩
  cases e
  simp only at a1 a3 a5 a7
  rw [a1, a3, a5, a7]
/-- A segment in memory. -/
def SegIn (w : World) (p : Nat) (es : List Ent) (pk : List UInt8) : Prop :=
  ∃ lv pv, w.cell? ⟨p, 0, none⟩ = some lv ∧ w.cell? ⟨p, 1, none⟩ = some pv ∧ Rd w 6 lv es.length (pls es) ∧ Rd w 1 pv pk.length (bv pk)
theorem SegIn.keep {w w' : World} {p : Nat} {es : List Ent} {pk : List UInt8} (h : SegIn w p es pk) (hb : Below w.heap.size w w') : SegIn w' p es pk := by
  obtain ⟨lv, pv, h1, h2, h3, h4⟩ := h
  refine ⟨lv, pv, ?_, ?_, h3.keep hb, h4.keep hb⟩
  · rw [hb.cell (World.block_lt_of_cell? w _ h1)]; exact h1
  · rw [hb.cell (World.block_lt_of_cell? w _ h2)]; exact h2
end Go.Proofs.Ythgbkncanoknkaa
/-
  Contract of sealed.Build.
-/
set_option linter.unusedVariables false
set_option linter.unusedSimpArgs false
namespace Go.Proofs.Ythgbkncanoknkaa
open Go.RowKit
set_option maxRecDepth 100000
def SealR (l : List Rec) (y : List UInt8) : Prop := ∃ pk, PackR (valsP l) pk ∧ y = sealP (dirI l.length l) ++ pk
def BuildOut (l : List Rec) (w : World) (e : Ending) (w' : World) : Prop :=
  (faultR l ≠ 0 ∧ e = .returned (.tuple #[.slice none 0 0, .int .i64 (faultR l : Int)]) ∧ St w.heap.size w w' []) ∨
  (faultR l = 0 ∧ ∃ y v c, e = .returned (.tuple #[v, .int .i64 0]) ∧ RowC 5 1 v y.length (bv y) c ∧ SealR l y ∧ St w.heap.size w w' [c])
/-- The four cells of a record of one's own. -/
def RecS (g : Nat) (r : Rec) (w : World) : Prop := w.cell? ⟨g, 0, none⟩ = some (.int .i64 r.kind) ∧ w.cell? ⟨g, 1, none⟩ = some (.int .i64 r.seq) ∧ w.cell? ⟨g, 2, none⟩ = some (.string ⟨r.key.toArray⟩) ∧ w.cell? ⟨g, 3, none⟩ = some (.string ⟨r.val.toArray⟩)
def recO (g : Nat) (r : Rec) : List (Nat × Obj) := [(g, .cells #[.int .i64 r.kind, .int .i64 r.seq, .string ⟨r.key.toArray⟩, .string ⟨r.val.toArray⟩] 26 (0, 0))]
theorem recO_cells {B : Nat} {w0 w : World} {L : List HL} {g : Nat} {r : Rec} (h : St B w0 w L) (i : Nat) (hi : L[i]? = some (recO g r)) : RecS g r w :=
  ⟨h.cell i hi (List.mem_singleton.2 rfl) 0, h.cell i hi (List.mem_singleton.2 rfl) 1, h.cell i hi (List.mem_singleton.2 rfl) 2, h.cell i hi (List.mem_singleton.2 rfl) 3⟩
set_option maxHeartbeats 4000000 in
theorem build_any (v : Value) (l : List Rec) (w : World) (h : Rd w 4 v l.length (rcs l)) (hn : l.length ≤ 100) (hv : (valsP l).length ≤ 100000) :
    Calls Try.prog 12 #[v] w (BuildOut l w) := by
  obtain ⟨i0, i0a, i0b, i0c, i0d⟩ := info_parts infoU8
  obtain ⟨ao, cap, rfl⟩ := h.shape
  have H0 := Lib.hid h
  have hnl : (l.length : Int) ≤ 100 := by omega
  have hw64 : IntKind.u64.wrap (l.length : Int) = (l.length : Int) := by rw [wrap_u64']; omega
  clear h
  go_enter Try.func12, Try.ntmps12
  go_wp2_with fail
  refine (numput_any l.length w (by omega)).mono ?_
  rintro e w1 ⟨v1, c1, rfl, hr1, hS1⟩
  have HR1 := Lib.hid (And.intro hr1 hS1)
  clear hr1 hS1 hw64
  go_wp2_with fail
  go_loopg [4, 5, 15] l.length (fun m s4 s5 s15 wr => ∃ i : Nat, i + m = l.length ∧ s15 = .int .i64 (i : Int) ∧ Hid (faultR (l.take i) = 0) ∧ ∃ (D V : List UInt8) (cd cv : List (Nat × Obj)), Hid (D = dirI l.length (l.take i)) ∧ Hid (V = valsP (l.take i)) ∧ D.length ≤ 10 + 140 * i ∧ V.length ≤ 100000 ∧
    RowC 5 1 s4 D.length (bv D) cd ∧ RowC 5 1 s5 V.length (bv V) cv ∧ St w.heap.size w wr [cd, cv])
  case atStart =>
    have hp := putN_le l.length
    refine ⟨0, by omega, rfl, Lib.hid rfl, putN l.length, [], c1, [], Lib.hid (by simp [dirI]), Lib.hid (by simp [valsP]), by omega, by simp, HR1.out.1, RowC.nil _ _, HR1.out.2.one_nil.swap⟩
  case round =>
    clear HR1 c1
    obtain ⟨i, hi, rfl, HF, D, V, cd, cv, HD, HV, hdl, hvl, hrd, hrv, hS⟩ := hrel
    obtain ⟨ao4, cap4, rfl⟩ := hrd.shape
    obtain ⟨ao5, cap5, rfl⟩ := hrv.shape
    cases gk with
    | succ m =>
      have hif : (i : Int) < (l.length : Int) := by omega
      obtain ⟨r, hr⟩ : ∃ r, l[i]? = some r := ⟨_, List.getElem?_eq_getElem (by omega)⟩
      obtain ⟨ad, rfl⟩ := H0.out.rec_some hr
      obtain ⟨k0, k1, k2, k3⟩ := (H0.out.st hS).rec hr
      have HRR := Lib.hid hr
      have hS2 : St w.heap.size w _ [recO wr.heap.size r, cd, cv] := hS.alloc (.cells #[.int .i64 r.kind, .int .i64 r.seq, .string ⟨r.key.toArray⟩, .string ⟨r.val.toArray⟩] 26)
      have HROW := Lib.hid (And.intro hrd hrv)
      obtain ⟨q0, q1, q2, q3⟩ := recO_cells hS2 0 rfl
      obtain ⟨w2, HW2⟩ : ∃ w2, Hid (w2 = wr.alloc (.cells #[.int .i64 r.kind, .int .i64 r.seq, .string ⟨r.key.toArray⟩, .string ⟨r.val.toArray⟩] 26)) := ⟨_, Lib.hid rfl⟩
      have HS2 : Hid (St w.heap.size w w2 [recO wr.heap.size r, cd, cv]) := Lib.hid (by rw [HW2.out]; exact hS2)
      have HCK := Lib.hid (check_any r)
      clear hr hS hS2 hrd hrv
      go_wp2_with fail
      rw [← HW2.out]
      refine (HCK.out w2).mono ?_
      rintro e w3 ⟨rfl, o3, rfl⟩
      obtain ⟨w3, HW3⟩ : ∃ w3, Hid (w3 = w2.alloc o3) := ⟨_, Lib.hid rfl⟩
      have HS3 : Hid (St w.heap.size w w3 [recO wr.heap.size r, cd, cv]) := Lib.hid (by rw [HW3.out]; exact HS2.out.alloc' o3)
      have HT : Hid (faultR (l.take (i + 1)) = ckR r ∧ (ckR r ≠ 0 → faultR l = ckR r)) := Lib.hid (faultR_take HRR.out HF.out)
      obtain ⟨ck, HCV⟩ : ∃ ck, Hid (ck = ckR r) := ⟨_, Lib.hid rfl⟩
      rw [← HCV.out] at HT ⊢
      rw [← HW3.out]
      clear k0 k1 k2 k3 q0 q1 q2 q3
      by_cases qc : ck = 0
      · have qci : ((ck : Int) != 0) = false := by rw [qc]; rfl
        have HOK : Hid (OkR r) := Lib.hid (ck_ok.1 (by rw [← HCV.out, qc]))
        have HF2 : Hid (faultR (l.take (i + 1)) = 0) := Lib.hid (by rw [HT.out.1, qc])
        clear qc
        obtain ⟨kd, hkd, HKD⟩ : ∃ kd : UInt8, IntKind.u8.wrap r.kind = (kd.toNat : Int) ∧ Hid (kd = UInt8.ofNat r.kind.toNat) := by
          rcases HOK.out.2.2.2.1 with e | e <;> rw [e]
          · exact ⟨1, by decide, Lib.hid (by decide)⟩
          · exact ⟨0, by decide, Lib.hid (by decide)⟩
        obtain ⟨sq, hsq, HSQ⟩ : ∃ sq : Nat, IntKind.u64.wrap r.seq = (sq : Int) ∧ Hid (sq = r.seq.toNat ∧ sq < 18446744073709551616) := by
          obtain ⟨_, _, _, _, _, e1, e2⟩ := HOK.out
          exact ⟨r.seq.toNat, by rw [wrap_u64']; omega, Lib.hid ⟨rfl, by omega⟩⟩
        have qx0 := hkd
        have qx1 := hsq
        have hkl : r.key.length ≤ 100 := HOK.out.2.1
        have hvl4 : r.val.length ≤ 4000 := HOK.out.2.2.1
        have qx2 : (⟨r.val.toArray⟩ : ByteArray).size = r.val.length := strLen _
        have qx3 : IntKind.u64.wrap (r.val.length : Int) = (r.val.length : Int) := by rw [wrap_u64']; omega
        have HCELL : Hid (∀ w' : World, RecS wr.heap.size r w' → w'.cell? ⟨wr.heap.size, 0, none⟩ = some (.int .i64 r.kind) ∧ w'.cell? ⟨wr.heap.size, 1, none⟩ = some (.int .i64 r.seq) ∧ w'.cell? ⟨wr.heap.size, 2, none⟩ = some (.string ⟨r.key.toArray⟩) ∧ w'.cell? ⟨wr.heap.size, 3, none⟩ = some (.string ⟨r.val.toArray⟩)) := Lib.hid (fun _ h => h)
        go_wp2_with fail
        refine wp_region_held_drew (S := RecS wr.heap.size r) mixed (recO_cells HS3.out.drew 0 rfl) (fun hSS => ?_)
        refine take_d (i := 0) 24 (.slice ao4 D.length cap4) rfl rfl (by kernel_rfl) (by kernel_rfl) (by kernel_rfl) (fun _ _ _ h => h) (Or.inl ⟨by rfl, ?_⟩) hSS ?_
        (focus (intro w' hw'; have hb1 := HCELL.out w' hw'; obtain ⟨hb1, hb2, hb3, hb4⟩ := hb1; first | (go_simp; done) | (go_simp; simp [qx0, qx1, qx2]; done)))
        simp only [Act.put, List.setIfInBounds_toArray, List.set_cons_zero, List.set_cons_succ]
        refine take_d (i := 1) 25 (.pointer (some ⟨wr.heap.size, 0, none⟩)) rfl rfl (by kernel_rfl) (by kernel_rfl) (by kernel_rfl) (fun _ _ _ h => h) (Or.inl ⟨by rfl, ?_⟩) hSS ?_
        (focus (intro w' hw'; have hb1 := HCELL.out w' hw'; obtain ⟨hb1, hb2, hb3, hb4⟩ := hb1; first | (go_simp; done) | (go_simp; simp [qx0, qx1, qx2]; done)))
        simp only [Act.put, List.setIfInBounds_toArray, List.set_cons_zero, List.set_cons_succ]
        refine take_d (i := 2) 26 (.int .i64 r.kind) rfl rfl (by kernel_rfl) (by kernel_rfl) (by kernel_rfl) (fun _ _ _ h => h) (Or.inl ⟨by rfl, ?_⟩) hSS ?_
        (focus (intro w' hw'; have hb1 := HCELL.out w' hw'; obtain ⟨hb1, hb2, hb3, hb4⟩ := hb1; first | (go_simp; done) | (go_simp; simp [qx0, qx1, qx2]; done)))
        simp only [Act.put, List.setIfInBounds_toArray, List.set_cons_zero, List.set_cons_succ]
        refine take_d (i := 3) 27 (.int .u8 (kd.toNat : Int)) rfl rfl (by kernel_rfl) (by kernel_rfl) (by kernel_rfl) (fun _ _ _ h => h) (Or.inl ⟨by rfl, ?_⟩) hSS ?_
        (focus (intro w' hw'; have hb1 := HCELL.out w' hw'; obtain ⟨hb1, hb2, hb3, hb4⟩ := hb1; first | (go_simp; done) | (go_simp; simp [qx0, qx1, qx2]; done)))
        simp only [Act.put, List.setIfInBounds_toArray, List.set_cons_zero, List.set_cons_succ]
        refine take_d (i := 6) 30 (.pointer (some ⟨wr.heap.size, 1, none⟩)) rfl rfl (by kernel_rfl) (by kernel_rfl) (by kernel_rfl) (fun _ _ _ h => h) (Or.inl ⟨by rfl, ?_⟩) hSS ?_
        (focus (intro w' hw'; have hb1 := HCELL.out w' hw'; obtain ⟨hb1, hb2, hb3, hb4⟩ := hb1; first | (go_simp; done) | (go_simp; simp [qx0, qx1, qx2]; done)))
        simp only [Act.put, List.setIfInBounds_toArray, List.set_cons_zero, List.set_cons_succ]
        refine take_d (i := 7) 31 (.int .i64 r.seq) rfl rfl (by kernel_rfl) (by kernel_rfl) (by kernel_rfl) (fun _ _ _ h => h) (Or.inl ⟨by rfl, ?_⟩) hSS ?_
        (focus (intro w' hw'; have hb1 := HCELL.out w' hw'; obtain ⟨hb1, hb2, hb3, hb4⟩ := hb1; first | (go_simp; done) | (go_simp; simp [qx0, qx1, qx2]; done)))
        simp only [Act.put, List.setIfInBounds_toArray, List.set_cons_zero, List.set_cons_succ]
        refine take_d (i := 8) 32 (.int .u64 (sq : Int)) rfl rfl (by kernel_rfl) (by kernel_rfl) (by kernel_rfl) (fun _ _ _ h => h) (Or.inl ⟨by rfl, ?_⟩) hSS ?_
        (focus (intro w' hw'; have hb1 := HCELL.out w' hw'; obtain ⟨hb1, hb2, hb3, hb4⟩ := hb1; first | (go_simp; done) | (go_simp; simp [qx0, qx1, qx2]; done)))
        simp only [Act.put, List.setIfInBounds_toArray, List.set_cons_zero, List.set_cons_succ]
        refine wpAnyH_ready (rs := [4]) (by kernel_rfl) (by simp) (AllReadyH.cons rfl (fun K1 hK1 => ?_) AllReadyH.nil)
        rw [if_pos (by rfl)]
        go_simp
        have hSa : St w.heap.size w (w3.alloc (.cells #[.int .u8 (kd.toNat : Int)] 5)).drew [recO wr.heap.size r, cd, cv] := (HS3.out.alloc' (.cells #[.int .u8 (kd.toNat : Int)] 5)).drew
        have hra : Rd (w3.alloc (.cells #[.int .u8 (kd.toNat : Int)] 5)).drew 1 (.slice (some ⟨w3.heap.size, 0, none⟩) 1 1) 1 [.int .u8 (kd.toNat : Int)] := Rd.one w3.drew _ _
        refine hK1.out _ _ (recO_cells hSa 0 rfl) (fun hSS => ?_)
        try simp only [Act.put, List.setIfInBounds_toArray, List.set_cons_zero, List.set_cons_succ]
        refine wpAnyH_ready (rs := [5]) (by kernel_rfl) (by simp) (AllReadyH.cons rfl (fun K2 hK2 => ?_) AllReadyH.nil)
        refine step_app (n := D.length) (m := 1) (xs := bv D) (news := [.int .u8 (kd.toNat : Int)]) 1 29 i0 (.int .u8 0) _ _ rfl rfl (by rfl) (by rfl) Try.underlying29 i0a i0b i0c i0d rfl (by decide) hSa rfl HROW.out.1 hra (by simp [Value.oneCell']) (by unfold maxLen; omega) (by omega) (fun v5 c5 w5 hr5 hS5 => ?_)
        have HS5 := Lib.hid (And.intro hr5 hS5)
        refine hK2.out _ _ (recO_cells hS5 0 rfl) (fun hSS => ?_)
        clear hSa hra hr5 hS5
        try simp only [Act.put, List.setIfInBounds_toArray, List.set_cons_zero, List.set_cons_succ]
        refine wpAnyH_ready (rs := [9]) (by kernel_rfl) (by simp) (AllReadyH.cons rfl (fun K3 hK3 => ?_) AllReadyH.nil)
        rw [if_pos (by rfl)]
        go_simp
        refine (numput_any sq w5 HSQ.out.2).mono ?_
        rintro e w6 ⟨v6, c6, rfl, hr6, hS6⟩
        have hS7 := HS5.out.2.join hS6
        refine hK3.out _ _ (recO_cells hS7 1 rfl) (fun hSS => ?_)
        try simp only [Act.put, List.setIfInBounds_toArray, List.set_cons_zero, List.set_cons_succ]
        have hpl := putN_le sq
        refine wpAnyH_ready (rs := [10]) (by kernel_rfl) (by simp) (AllReadyH.cons rfl (fun K4 hK4 => ?_) AllReadyH.nil)
        refine step_app (n := D.length + 1) (m := (putN sq).length) (xs := bv D ++ [.int .u8 (kd.toNat : Int)]) (news := bv (putN sq)) 2 29 i0 (.int .u8 0) _ _ rfl rfl (by rfl) (by rfl) Try.underlying29 i0a i0b i0c i0d rfl (by decide) hS7 rfl HS5.out.1 (hr6.rd hS7 0 rfl) (bv_one _) (by unfold maxLen; omega) (by omega) (fun v8 c8 w8 hr8 hS8 => ?_)
        have hE : bv D ++ [.int .u8 (kd.toNat : Int)] ++ bv (putN sq) = bv (D ++ [kd] ++ putN sq) := by simp [bv]
        rw [hE] at hr8
        have HS8 : Hid (RowC 5 1 v8 (D ++ [kd] ++ putN sq).length (bv (D ++ [kd] ++ putN sq)) c8 ∧ St w.heap.size w w8 [recO wr.heap.size r, c8, cv]) := Lib.hid ⟨by rw [List.length_append, List.length_append]; exact hr8, hS8.pick [1, 2, 3] (by decide) _ rfl⟩
        refine hK4.out _ _ (recO_cells hS8 1 rfl) (fun hSS => ?_)
        clear hr6 hS6 hS7 hE hr8 hS8 HS5 HS3 HS2
        try simp only [Act.put, List.setIfInBounds_toArray, List.set_cons_zero, List.set_cons_succ]
        refine wpAnyH_ready (rs := [11]) (by kernel_rfl) (by simp) (AllReadyH.cons rfl (fun K5 hK5 => ?_) AllReadyH.nil)
        rw [if_pos (by rfl)]
        go_simp
        refine hK5.out _ _ hSS (fun _ => ?_)
        refine wpAnyH_done (by kernel_rfl) ?_ _
        obtain ⟨D2, HD2⟩ : ∃ D2, Hid (D2 = D ++ [kd] ++ putN sq) := ⟨_, Lib.hid rfl⟩
        have hD2l : D2.length ≤ 21 + 140 * i := by rw [HD2.out]; simp; omega
        rw [← HD2.out] at HS8
        clear hdl
        obtain ⟨ao8, cap8, rfl⟩ := HS8.out.1.shape
        go_wp2_with fail
        refine wp_region_held_drew (S := RecS wr.heap.size r) mixed (recO_cells HS8.out.2.drew 0 rfl) (fun hSS => ?_)
        refine take_d (i := 0) 35 (.slice ao8 D2.length cap8) rfl rfl (by kernel_rfl) (by kernel_rfl) (by kernel_rfl) (fun _ _ _ h => h) (Or.inl ⟨by rfl, ?_⟩) hSS ?_
        (focus (intro w' hw'; have hb1 := HCELL.out w' hw'; obtain ⟨hb1, hb2, hb3, hb4⟩ := hb1; first | (go_simp; done) | (go_simp; simp [qx0, qx1, qx2]; done)))
        simp only [Act.put, List.setIfInBounds_toArray, List.set_cons_zero, List.set_cons_succ]
        refine take_d (i := 1) 36 (.pointer (some ⟨wr.heap.size, 2, none⟩)) rfl rfl (by kernel_rfl) (by kernel_rfl) (by kernel_rfl) (fun _ _ _ h => h) (Or.inl ⟨by rfl, ?_⟩) hSS ?_
        (focus (intro w' hw'; have hb1 := HCELL.out w' hw'; obtain ⟨hb1, hb2, hb3, hb4⟩ := hb1; first | (go_simp; done) | (go_simp; simp [qx0, qx1, qx2]; done)))
        simp only [Act.put, List.setIfInBounds_toArray, List.set_cons_zero, List.set_cons_succ]
        refine take_d (i := 2) 37 (.string ⟨r.key.toArray⟩) rfl rfl (by kernel_rfl) (by kernel_rfl) (by kernel_rfl) (fun _ _ _ h => h) (Or.inl ⟨by rfl, ?_⟩) hSS ?_
        (focus (intro w' hw'; have hb1 := HCELL.out w' hw'; obtain ⟨hb1, hb2, hb3, hb4⟩ := hb1; first | (go_simp; done) | (go_simp; simp [qx0, qx1, qx2]; done)))
        simp only [Act.put, List.setIfInBounds_toArray, List.set_cons_zero, List.set_cons_succ]
        refine take_d (i := 5) 40 (.pointer (some ⟨wr.heap.size, 3, none⟩)) rfl rfl (by kernel_rfl) (by kernel_rfl) (by kernel_rfl) (fun _ _ _ h => h) (Or.inl ⟨by rfl, ?_⟩) hSS ?_
        (focus (intro w' hw'; have hb1 := HCELL.out w' hw'; obtain ⟨hb1, hb2, hb3, hb4⟩ := hb1; first | (go_simp; done) | (go_simp; simp [qx0, qx1, qx2]; done)))
        simp only [Act.put, List.setIfInBounds_toArray, List.set_cons_zero, List.set_cons_succ]
        refine take_d (i := 6) 41 (.string ⟨r.val.toArray⟩) rfl rfl (by kernel_rfl) (by kernel_rfl) (by kernel_rfl) (fun _ _ _ h => h) (Or.inl ⟨by rfl, ?_⟩) hSS ?_
        (focus (intro w' hw'; have hb1 := HCELL.out w' hw'; obtain ⟨hb1, hb2, hb3, hb4⟩ := hb1; first | (go_simp; done) | (go_simp; simp [qx0, qx1, qx2]; done)))
        simp only [Act.put, List.setIfInBounds_toArray, List.set_cons_zero, List.set_cons_succ]
        refine take_d (i := 7) 42 (.int .i64 (r.val.length : Int)) rfl rfl (by kernel_rfl) (by kernel_rfl) (by kernel_rfl) (fun _ _ _ h => h) (Or.inl ⟨by rfl, ?_⟩) hSS ?_
        (focus (intro w' hw'; have hb1 := HCELL.out w' hw'; obtain ⟨hb1, hb2, hb3, hb4⟩ := hb1; first | (go_simp; done) | (go_simp; simp [qx0, qx1, qx2]; done)))
        simp only [Act.put, List.setIfInBounds_toArray, List.set_cons_zero, List.set_cons_succ]
        refine take_d (i := 8) 43 (.int .u64 (r.val.length : Int)) rfl rfl (by kernel_rfl) (by kernel_rfl) (by kernel_rfl) (fun _ _ _ h => h) (Or.inl ⟨by rfl, ?_⟩) hSS ?_
        (focus (intro w' hw'; have hb1 := HCELL.out w' hw'; obtain ⟨hb1, hb2, hb3, hb4⟩ := hb1; first | (go_simp; done) | (go_simp; simp [qx0, qx1, qx2]; done)))
        simp only [Act.put, List.setIfInBounds_toArray, List.set_cons_zero, List.set_cons_succ]
        refine wpAnyH_ready (rs := [3]) (by kernel_rfl) (by simp) (AllReadyH.cons rfl (fun K6 hK6 => ?_) AllReadyH.nil)
        rw [if_pos (by rfl)]
        go_simp
        refine (numtext_any r.key w8.drew (by omega)).mono ?_
        rintro e w9 ⟨v9, c9, rfl, hr9, hS9⟩
        have hS10 := HS8.out.2.drew.join hS9
        refine hK6.out _ _ (recO_cells hS10 1 rfl) (fun hSS => ?_)
        try simp only [Act.put, List.setIfInBounds_toArray, List.set_cons_zero, List.set_cons_succ]
        have htl : (textP r.key).length ≤ 110 := by have := putN_le r.key.length; unfold textP; rw [List.length_append]; omega
        refine wpAnyH_ready (rs := [4]) (by kernel_rfl) (by simp) (AllReadyH.cons rfl (fun K7 hK7 => ?_) AllReadyH.nil)
        refine step_app (n := D2.length) (m := (textP r.key).length) (xs := bv D2) (news := bv (textP r.key)) 2 29 i0 (.int .u8 0) _ _ rfl rfl (by rfl) (by rfl) Try.underlying29 i0a i0b i0c i0d rfl (by decide) hS10 rfl HS8.out.1 (hr9.rd hS10 0 rfl) (bv_one _) (by unfold maxLen; omega) (by omega) (fun v11 c11 w11 hr11 hS11 => ?_)
        rw [← bv_append] at hr11
        have HS11 : Hid (RowC 5 1 v11 (D2.length + (textP r.key).length) (bv (D2 ++ textP r.key)) c11 ∧ St w.heap.size w w11 [recO wr.heap.size r, c11, cv]) := Lib.hid ⟨hr11, hS11.pick [1, 2, 3] (by decide) _ rfl⟩
        refine hK7.out _ _ (recO_cells HS11.out.2 0 rfl) (fun hSS => ?_)
        clear hr9 hS9 hS10 hr11 hS11
        try simp only [Act.put, List.setIfInBounds_toArray, List.set_cons_zero, List.set_cons_succ]
        refine wpAnyH_ready (rs := [9]) (by kernel_rfl) (by simp) (AllReadyH.cons rfl (fun K8 hK8 => ?_) AllReadyH.nil)
        rw [if_pos (by rfl)]
        go_simp
        refine (numput_any r.val.length w11 (by omega)).mono ?_
        rintro e w12 ⟨v12, c12, rfl, hr12, hS12⟩
        have hS13 := HS11.out.2.join hS12
        refine hK8.out _ _ (recO_cells hS13 1 rfl) (fun hSS => ?_)
        try simp only [Act.put, List.setIfInBounds_toArray, List.set_cons_zero, List.set_cons_succ]
        have hpl := putN_le r.val.length
        refine wpAnyH_ready (rs := [10]) (by kernel_rfl) (by simp) (AllReadyH.cons rfl (fun K9 hK9 => ?_) AllReadyH.nil)
        refine step_app (n := D2.length + (textP r.key).length) (m := (putN r.val.length).length) (xs := bv (D2 ++ textP r.key)) (news := bv (putN r.val.length)) 2 29 i0 (.int .u8 0) _ _ rfl rfl (by rfl) (by rfl) Try.underlying29 i0a i0b i0c i0d rfl (by decide) hS13 rfl HS11.out.1 (hr12.rd hS13 0 rfl) (bv_one _) (by unfold maxLen; omega) (by omega) (fun v14 c14 w14 hr14 hS14 => ?_)
        rw [← bv_append] at hr14
        have HS14 : Hid (RowC 5 1 v14 (D2 ++ textP r.key ++ putN r.val.length).length (bv (D2 ++ textP r.key ++ putN r.val.length)) c14 ∧ St w.heap.size w w14 [recO wr.heap.size r, c14, cv]) := Lib.hid ⟨by rw [List.length_append, List.length_append]; exact hr14, hS14.pick [1, 2, 3] (by decide) _ rfl⟩
        refine hK9.out _ _ (recO_cells HS14.out.2 0 rfl) (fun hSS => ?_)
        clear hr12 hS12 hS13 hr14 hS14 HS11
        try simp only [Act.put, List.setIfInBounds_toArray, List.set_cons_zero, List.set_cons_succ]
        refine wpAnyH_ready (rs := [11]) (by kernel_rfl) (by simp) (AllReadyH.cons rfl (fun K10 hK10 => ?_) AllReadyH.nil)
        rw [if_pos (by rfl)]
        go_simp
        refine hK10.out _ _ hSS (fun _ => ?_)
        refine wpAnyH_done (by kernel_rfl) ?_ _
        obtain ⟨D3, HD3⟩ : ∃ D3, Hid (D3 = D2 ++ textP r.key ++ putN r.val.length) := ⟨_, Lib.hid rfl⟩
        have hD3l : D3.length ≤ 141 + 140 * i := by rw [HD3.out]; simp; omega
        rw [← HD3.out] at HS14
        obtain ⟨q0, q1, q2, q3⟩ := hSS
        have hVt : Hid (V ++ r.val = valsP (l.take (i + 1))) := Lib.hid (by rw [List.take_add_one, HRR.out, Option.toList_some, valsP_snoc, HV.out])
        have hVl : V.length + r.val.length ≤ 100000 := by
          have h1 := valsP_take l (i + 1)
          rw [← hVt.out, List.length_append] at h1
          omega
        have hDt : Hid (D3 = dirI l.length (l.take (i + 1))) := Lib.hid (by rw [List.take_add_one, HRR.out, Option.toList_some, dirI_snoc, ← HD.out, HD3.out, HD2.out, HKD.out, HSQ.out.1])
        obtain ⟨aod, capd, rfl⟩ := HS14.out.1.shape
        have hrv := HROW.out.2
        have hS14 := HS14.out.2
        go_wp2_with ((at_builtin; (refine wpList_appS 2 29 9 i0 _ _ r.val rfl rfl rfl rfl Try.underlying29 Try.underlying9 i0a i0b i0c i0d hS14 rfl hrv ?_ ?_ ?_); (unfold maxLen; omega); omega; intro v15 c15 w15 hr15 hS15))
        go_roundg m
        case measure => omega
        case rel =>
          rw [← bv_append, ← List.length_append] at hr15
          exact ⟨i + 1, by omega, by go_num, HF2, D3, V ++ r.val, c14, c15, hDt, hVt, by omega, by rw [List.length_append]; exact hVl, HS14.out.1, hr15, hS15.pick [1, 2] (by decide) _ rfl⟩
      · have qci : ((ck : Int) != 0) = true := by rw [bne_iff_ne]; omega
        have HE : Hid (faultR l = ck ∧ ck ≠ 0) := Lib.hid ⟨HT.out.2 qc, qc⟩
        clear qc
        go_wp2_with fail
        go_ret2
        exact .inl ⟨by rw [HE.out.1]; exact HE.out.2, by rw [HE.out.1]; rfl, HS3.out.pick [] (by decide) _ rfl⟩
    | zero =>
      obtain rfl : i = l.length := by omega
      have hz : ¬ (l.length : Int) < (l.length : Int) := by omega
      rw [List.take_length] at HF HD HV
      have HR := Lib.hid (And.intro hrd (And.intro hrv hS))
      have hdl2 : D.length ≤ 100000 := by omega
      clear hrd hrv hS hi
      go_wp2_with fail
      refine (crcseal_any _ D wr (HR.out.1.rd HR.out.2.2 0 rfl) (by omega)).mono ?_
      rintro e w2 ⟨v2, c2, rfl, hr2, hS2⟩
      obtain ⟨ao2, cap2, rfl⟩ := hr2.shape
      have HQ := Lib.hid (And.intro hr2 (HR.out.2.2.join hS2))
      clear hr2 hS2
      go_wp2_with fail
      refine (pack_any _ V w2 (HR.out.2.1.rd HQ.out.2 2 rfl) hvl).mono ?_
      rintro e w3 ⟨y, v3, c3, rfl, hr3, hpk, hS3⟩
      have hS4 := HQ.out.2.join hS3
      have hrd4 := hr3.rd hS4 0 rfl
      have hrw4 := HQ.out.1
      have hsl := sealP_length D
      obtain ⟨sd, HSD⟩ : ∃ sd, Hid (sd = sealP D) := ⟨_, Lib.hid rfl⟩
      rw [← HSD.out] at hsl hrw4 ⊢
      have hyl := hpk.size
      have HPK := Lib.hid hpk
      obtain ⟨ao3, cap3, rfl⟩ := hr3.shape
      clear hr3 hS3 hpk
      have hsl2 : sd.length ≤ 200000 := by omega
      clear hsl
      go_wp2_with ((at_builtin; (refine wpList_app 1 29 i0 (.int .u8 0) _ _ rfl rfl rfl rfl Try.underlying29 i0a i0b i0c i0d rfl (by decide) hS4 rfl hrw4 hrd4 (bv_one _) ?_ ?_ ?_); (unfold maxLen; omega); omega; intro v5 c5 w5 hr5 hS5))
      go_ret2
      rw [← bv_append] at hr5
      refine .inr ⟨HF.out, sd ++ y, _, c5, rfl, by rw [List.length_append]; exact hr5, ⟨y, by rw [← HV.out]; exact HPK.out, by rw [HSD.out, HD.out]⟩, hS5.pick [1] (by decide) _ rfl⟩
end Go.Proofs.Ythgbkncanoknkaa

/-
  Texts joined: CtGet, CtPart, CtUnp, PureCt, CtLaw.
-/
import Derived.Test.YtdhnmcdgiddhdaaCg1
import Derived.Test.YtdhnmcdgiddhdaaEg11
/-
  Contract of container.plan's get.
-/
set_option linter.unusedVariables false
set_option linter.unusedSimpArgs false
namespace Go.Proofs.Ytdhnmcdgiddhdaa
open Go.RowKit
set_option maxRecDepth 100000
/-- A block of a packed text. -/
def blkB (b : List UInt8) (at0 : Nat) (ls : List Nat) (k : Nat) : List UInt8 := (b.drop (at0 + (ls.take k).sum)).take (ls.getD k 0)
theorem OpenOut.lift {b : List UInt8} {size : Nat} {w w5 w' : World} {e : Ending} (hb : Below w.heap.size w w5) (h : OpenOut b size w5 e w') : OpenOut b size w e w' := by
  have h0 := (St.init w).mono hb
  rcases h with ⟨x, v, c, h1, h2, h3, h4, h5⟩ | ⟨v, h1, h2, h3⟩
  · exact .inl ⟨x, v, c, h1, h2, h3, h4, h0.join h5⟩
  · exact .inr ⟨v, h1, h0.join h2, h3⟩
theorem OpenOut.form {b : List UInt8} {size : Nat} {w w' : World} {e : Ending} (h : OpenOut b size w e w') : ∃ v q, e = .returned (.tuple #[v, .bool q]) := by
  rcases h with ⟨x, v, c, h1, _⟩ | ⟨v, h1, _⟩
  · exact ⟨v, true, h1⟩
  · exact ⟨v, false, h1⟩
theorem OpenOut.below {b : List UInt8} {size : Nat} {w w' : World} {e : Ending} (h : OpenOut b size w e w') : Below w.heap.size w w' := by
  rcases h with ⟨x, v, c, _, _, _, _, h5⟩ | ⟨v, _, h2, _⟩
  · exact h5.below
  · exact h2.below
theorem open_n (v : Value) (b : List UInt8) (n size : Nat) (w : World) (h : Rd w 1 v n (bv b)) (hn : n ≤ 1000000) (hsz : size ≤ 100000) :
    Calls Try.prog 62 #[v, .int .i64 (size : Int)] w (OpenOut b size w) := by
  obtain rfl := rd_len h
  exact open_any v b size w h hn hsz
theorem sum_take_succ (ls : List Nat) (k : Nat) (h : k < ls.length) : (ls.take (k + 1)).sum = (ls.take k).sum + ls.getD k 0 := by
  rw [List.take_add_one, List.sum_append, List.getD_eq_getElem?_getD, List.getElem?_eq_getElem h]
  simp
theorem sum_take_le (ls : List Nat) (k : Nat) : (ls.take k).sum ≤ ls.sum := by
  have := List.take_append_drop k ls
  have h2 := congrArg List.sum this
  rw [List.sum_append] at h2
  omega
theorem placesP_get (at0 : Nat) (ls : List Nat) (k : Nat) (h : k < ls.length) : (placesP at0 ls)[k]? = some ((at0 + (ls.take k).sum : Nat) : Int) := by
  unfold placesP
  rw [List.getElem?_map, List.getElem?_range h]
  rfl
set_option maxHeartbeats 2000000 in
theorem ctget_any (v : Value) (b : List UInt8) (size at0 : Nat) (ls : List Nat) (k : Nat) (aop : Option Addr) (capp : Nat) (w : World) (hb : Rd w 1 v b.length (bv b)) (hp : PlanR b size ls at0)
    (hrow : Rd w 1 (.slice aop ls.length capp) ls.length (iv (placesP at0 ls))) (hk : k < ls.length) (hn : b.length ≤ 1000000) (hls : ls.length ≤ 1000000) :
    Calls Try.prog 36 #[.agg #[.int .i64 (size : Int), .slice aop ls.length capp, .int .i64 (b.length : Int)], v, .int .i64 (k : Int)] w (OpenOut (blkB b at0 ls k) (min 1000 (size - 1000 * k)) w) := by
  obtain ⟨ao, cap, rfl⟩ := hb.shape
  obtain ⟨hx, kx, g1, g2, g3, g4, g5, g6⟩ := hp
  have hcap := hb.cap
  have hs1 := sum_take_succ ls k hk
  have hs2 := sum_take_le ls (k + 1)
  have hsz : size ≤ 1000000000 := by omega
  have hszk : 1000 * k < size := by omega
  obtain ⟨lo, hlo⟩ : ∃ lo, lo = at0 + (ls.take k).sum := ⟨_, rfl⟩
  obtain ⟨hi, hhi⟩ : ∃ hi, hi = at0 + (ls.take (k + 1)).sum := ⟨_, rfl⟩
  have hpl := placesP_get at0 ls k hk
  rw [← hlo] at hpl
  obtain ⟨adp, rfl, kp⟩ := hrow.at (iv_get _ _ _ hpl)
  have hlh : lo ≤ hi := by omega
  have hhb : hi ≤ b.length := by omega
  have hlg : ls.getD k 0 = hi - lo := by omega
  obtain ⟨ad, rfl⟩ : ∃ ad, ao = some ad := by
    cases ao with
    | none => have := hb.none_iff; have := firstP_len g1; omega
    | some ad => exact ⟨ad, rfl⟩
  obtain ⟨aox, hax⟩ : ∃ aox, (¬ cap = lo → aox = some (ad.add lo)) ∧ (cap = lo → aox = some ad) := by
    by_cases e : cap = lo
    · exact ⟨_, fun h => absurd e h, fun _ => rfl⟩
    · exact ⟨_, fun _ => rfl, fun h => absurd h e⟩
  have hrx : Rd w 1 (.slice aox (hi - lo) (cap - lo)) (hi - lo) (bv (blkB b at0 ls k)) := by
    have h1 := hb.drop (ao' := aox) lo (by omega) (fun e => by rw [hax.1 e, Nat.mul_one]; rfl) (fun e => hax.2 e)
    have h2 := h1.take (hi - lo) (by omega)
    unfold blkB
    rw [← hlo, hlg]
    rwa [← bv_drop, ← bv_take] at h2
  have HRX := Lib.hid hrx
  have hxl := rd_len hrx
  have HXL := Lib.hid hxl
  have HNX : Hid (k + 1 < ls.length → ∀ w' {L : List (List (Nat × Obj))}, St w.heap.size w w' L → w'.cell? (adp.add (k + 1)) = some (.int .i64 (hi : Int))) := Lib.hid (fun h w' L hT => by
    have hp2 := placesP_get at0 ls (k + 1) h
    rw [← hhi] at hp2
    obtain ⟨_, e1, k2⟩ := (hrow.st hT).at (iv_get _ _ _ hp2)
    cases e1
    exact k2)
  have HEND : Hid (¬ k + 1 < ls.length → hi = b.length) := Lib.hid (fun h => by
    rw [hhi, List.take_of_length_le (by omega)]
    exact g5)
  have hS0 : St w.heap.size w (w.alloc (.cells #[.int .i64 (size : Int), .slice (some adp) ls.length capp, .int .i64 (b.length : Int)] 63 (0, 0))) [[(w.heap.size, .cells #[.int .i64 (size : Int), .slice (some adp) ls.length capp, .int .i64 (b.length : Int)] 63 (0, 0))]] := (St.init w).alloc _
  have HAX := Lib.hid hax
  have HROW := Lib.hid hrow
  have HPL := Lib.hid hpl
  have hki : (k : Int) < (ls.length : Int) := by omega
  obtain ⟨Z, HZ⟩ : ∃ Z, Hid (Z = min 1000 (size - 1000 * k)) := ⟨_, Lib.hid rfl⟩
  rw [← HZ.out]
  have HMIN : Hid (min (1000 : Int) ((size : Int) - (k : Int) * 1000) = (Z : Int)) := Lib.hid (by rw [HZ.out]; omega)
  have hZ : Z ≤ 1000 := by rw [HZ.out]; omega
  have hloi : (lo : Int) ≤ (hi : Int) := by omega
  have hhc : (hi : Int) ≤ (cap : Int) := by omega
  have hhbi : (hi : Int) ≤ (b.length : Int) := by omega
  have hkp : IntKind.i64.wrap ((k : Int) + 1) = (k : Int) + 1 := IntWalk.i64_in _ (by omega)
  have HS0 := Lib.hid hS0
  clear hb hrow hpl hrx g1 g2 g3 g4 g5 g6 hs1 hs2 hxl hax hlg hlo hhi kp hS0
  go_enter Try.func36, Try.ntmps36
  go_wp2_with fail
  refine (ctnum_any (size : Int) (b.length : Int) (some adp) ls.length capp _).mono ?_
  rintro e w1 ⟨rfl, o, rfl⟩
  have HS1 := Lib.hid (HS0.out.alloc' o)
  have k1 := HS1.out.cell 0 rfl (List.mem_singleton.2 rfl) 1
  have k1' : (((w.alloc (.cells #[.int .i64 (size : Int), .slice (some adp) ls.length capp, .int .i64 (b.length : Int)] 63 (0, 0))).alloc o).cell? ⟨w.heap.size, 1, none⟩ = some (.slice (some adp) ls.length capp)) := k1
  clear k1
  by_cases q1 : k + 1 < ls.length
  · have q1i : (k : Int) + 1 < (ls.length : Int) := by omega
    have hnx : ((w.alloc (.cells #[.int .i64 (size : Int), .slice (some adp) ls.length capp, .int .i64 (b.length : Int)] 63 (0, 0))).alloc o).cell? ⟨adp.block, adp.off + (k + 1), none⟩ = some (.int .i64 (hi : Int)) := HNX.out q1 _ HS1.out
    obtain ⟨w2, HW2⟩ : ∃ w2, w2 = (w.alloc (.cells #[.int .i64 (size : Int), .slice (some adp) ls.length capp, .int .i64 (b.length : Int)] 63 (0, 0))).alloc o := ⟨_, rfl⟩
    rw [← HW2] at k1' hnx HS1 ⊢
    clear HW2
    have HS2 := HS1
    go_wp2_with fail
    by_cases qc : cap = lo
    · obtain rfl := HAX.out.2 qc
      subst qc
      have e : cap = hi := by omega
      subst e
      replace HRX : Hid (Rd w 1 (.slice (some ad) 0 0) 0 (bv (blkB b at0 ls k))) := Lib.hid (by simpa using HRX.out)
      have hcA : w2.cell? ⟨w.heap.size, 0, none⟩ = some (.int .i64 (size : Int)) := HS2.out.cell 0 rfl (List.mem_singleton.2 rfl) 0
      have HCELL : Hid (∀ w' : World, Below w2.heap.size w2 w' → w'.cell? ⟨w.heap.size, 0, none⟩ = some (.int .i64 (size : Int)) ∧ w'.cell? ⟨w.heap.size, 1, none⟩ = some (.slice (some adp) ls.length capp) ∧ w'.cell? ⟨w.heap.size, 2, none⟩ = some (.int .i64 (b.length : Int)) ∧ w'.cell? (adp.add k) = some (.int .i64 (cap : Int))) := Lib.hid (fun w' hw' => by
        have hT := HS2.out.mono hw'
        refine ⟨hT.cell 0 rfl (List.mem_singleton.2 rfl) 0, hT.cell 0 rfl (List.mem_singleton.2 rfl) 1, hT.cell 0 rfl (List.mem_singleton.2 rfl) 2, ?_⟩
        obtain ⟨_, e1, k2⟩ := (HROW.out.st hT).at (iv_get _ _ _ HPL.out)
        cases e1
        exact k2)
      clear hcA
      refine wp_region_held_drew (S := fun w' => Below w2.heap.size w2 w') mixed (Below.refl _ _).drew (fun hSS => ?_)
      refine take_d (i := 0) 22 (.slice (some ad) b.length cap) rfl rfl (by kernel_rfl) (by kernel_rfl) (by kernel_rfl) (fun _ _ _ h => h) (Or.inl ⟨by rfl, ?_⟩) hSS ?_
      (focus (intro w' hw'; have hb1 := HCELL.out w' hw'; obtain ⟨hb1, hb2, hb3, hb4⟩ := hb1; first | (go_simp; done) | (go_simp; simp [qx0, qx1, qx2]; done)))
      simp only [Act.put, List.setIfInBounds_toArray, List.set_cons_zero, List.set_cons_succ]
      refine take_d (i := 1) 23 (.pointer (some ⟨w.heap.size, 1, none⟩)) rfl rfl (by kernel_rfl) (by kernel_rfl) (by kernel_rfl) (fun _ _ _ h => h) (Or.inl ⟨by rfl, ?_⟩) hSS ?_
      (focus (intro w' hw'; have hb1 := HCELL.out w' hw'; obtain ⟨hb1, hb2, hb3, hb4⟩ := hb1; first | (go_simp; done) | (go_simp; simp [qx0, qx1, qx2]; done)))
      simp only [Act.put, List.setIfInBounds_toArray, List.set_cons_zero, List.set_cons_succ]
      refine take_d (i := 2) 24 (.slice (some adp) ls.length capp) rfl rfl (by kernel_rfl) (by kernel_rfl) (by kernel_rfl) (fun _ _ _ h => h) (Or.inl ⟨by rfl, ?_⟩) hSS ?_
      (focus (intro w' hw'; have hb1 := HCELL.out w' hw'; obtain ⟨hb1, hb2, hb3, hb4⟩ := hb1; first | (go_simp; done) | (go_simp; simp [qx0, qx1, qx2]; done)))
      simp only [Act.put, List.setIfInBounds_toArray, List.set_cons_zero, List.set_cons_succ]
      refine take_d (i := 3) 25 (.int .i64 (k : Int)) rfl rfl (by kernel_rfl) (by kernel_rfl) (by kernel_rfl) (fun _ _ _ h => h) (Or.inl ⟨by rfl, ?_⟩) hSS ?_
      (focus (intro w' hw'; have hb1 := HCELL.out w' hw'; obtain ⟨hb1, hb2, hb3, hb4⟩ := hb1; first | (go_simp; done) | (go_simp; simp [qx0, qx1, qx2]; done)))
      simp only [Act.put, List.setIfInBounds_toArray, List.set_cons_zero, List.set_cons_succ]
      refine take_d (i := 4) 26 (.pointer (some (adp.add k))) rfl rfl (by kernel_rfl) (by kernel_rfl) (by kernel_rfl) (fun _ _ _ h => h) (Or.inl ⟨by rfl, ?_⟩) hSS ?_
      (focus (intro w' hw'; have hb1 := HCELL.out w' hw'; obtain ⟨hb1, hb2, hb3, hb4⟩ := hb1; first | (go_simp; done) | (go_simp; simp [qx0, qx1, qx2]; done)))
      simp only [Act.put, List.setIfInBounds_toArray, List.set_cons_zero, List.set_cons_succ]
      refine take_d (i := 5) 27 (.int .i64 (cap : Int)) rfl rfl (by kernel_rfl) (by kernel_rfl) (by kernel_rfl) (fun _ _ _ h => h) (Or.inl ⟨by rfl, ?_⟩) hSS ?_
      (focus (intro w' hw'; have hb1 := HCELL.out w' hw'; obtain ⟨hb1, hb2, hb3, hb4⟩ := hb1; first | (go_simp; done) | (go_simp; simp [qx0, qx1, qx2]; done)))
      simp only [Act.put, List.setIfInBounds_toArray, List.set_cons_zero, List.set_cons_succ]
      refine take_d (i := 6) 28 (.int .i64 (cap : Int)) rfl rfl (by kernel_rfl) (by kernel_rfl) (by kernel_rfl) (fun _ _ _ h => h) (Or.inl ⟨by rfl, ?_⟩) hSS ?_
      (focus (intro w' hw'; have hb1 := HCELL.out w' hw'; obtain ⟨hb1, hb2, hb3, hb4⟩ := hb1; first | (go_simp; done) | (go_simp; simp [qx0, qx1, qx2]; done)))
      simp only [Act.put, List.setIfInBounds_toArray, List.set_cons_zero, List.set_cons_succ]
      refine take_d (i := 7) 29 (.slice (some ad) (0) (0)) rfl rfl (by kernel_rfl) (by kernel_rfl) (by kernel_rfl) (fun _ _ _ h => h) (Or.inl ⟨by rfl, ?_⟩) hSS ?_
      (focus (intro w' hw'; have hb1 := HCELL.out w' hw'; obtain ⟨hb1, hb2, hb3, hb4⟩ := hb1; first | (go_simp; done) | (go_simp; simp [qx0, qx1, qx2]; done)))
      simp only [Act.put, List.setIfInBounds_toArray, List.set_cons_zero, List.set_cons_succ]
      refine take_d (i := 8) 30 (.agg #[.int .i64 (size : Int), .slice (some adp) ls.length capp, .int .i64 (b.length : Int)]) rfl rfl (by kernel_rfl) (by kernel_rfl) (by kernel_rfl) (fun _ _ _ h => h) (Or.inl ⟨by rfl, ?_⟩) hSS ?_
      (focus (intro w' hw'; have hb1 := HCELL.out w' hw'; obtain ⟨hb1, hb2, hb3, hb4⟩ := hb1; first | (go_simp; done) | (go_simp; simp [qx0, qx1, qx2]; done)))
      simp only [Act.put, List.setIfInBounds_toArray, List.set_cons_zero, List.set_cons_succ]
      refine take_d (i := 9) 31 (.int .i64 (k : Int)) rfl rfl (by kernel_rfl) (by kernel_rfl) (by kernel_rfl) (fun _ _ _ h => h) (Or.inl ⟨by rfl, ?_⟩) hSS ?_
      (focus (intro w' hw'; have hb1 := HCELL.out w' hw'; obtain ⟨hb1, hb2, hb3, hb4⟩ := hb1; first | (go_simp; done) | (go_simp; simp [qx0, qx1, qx2]; done)))
      simp only [Act.put, List.setIfInBounds_toArray, List.set_cons_zero, List.set_cons_succ]
      refine wpAnyH_ready (rs := [10]) (by kernel_rfl) (by simp) (AllReadyH.cons rfl (fun K1 hK1 => ?_) AllReadyH.nil)
      rw [if_pos (by rfl)]
      go_simp
      refine (ctsize_any (size : Int) (b.length : Int) (some adp) ls.length capp k _ (by omega) (by omega) (by omega)).mono ?_
      rintro e w5 ⟨rfl, o5, rfl⟩
      rw [HMIN.out]
      have hb5 : Below w2.heap.size w2 (w2.drew.alloc o5) := hSS.alloc hSS.size o5
      refine hK1.out _ _ hb5 (fun hSS => ?_)
      try simp only [Act.put, List.setIfInBounds_toArray, List.set_cons_zero, List.set_cons_succ]
      refine wpAnyH_ready (rs := [11]) (by kernel_rfl) (by simp) (AllReadyH.cons rfl (fun K2 hK2 => ?_) AllReadyH.nil)
      rw [if_pos (by rfl)]
      go_simp
      refine (open_n _ (blkB b at0 ls k) (0) Z _ (HRX.out.st (HS2.out.mono hb5)) (by omega) (by omega)).mono ?_
      intro e w6 hop
      obtain ⟨v6, q6, rfl⟩ := hop.form
      have hb6 := hop.below
      have hb7 := hSS.trans (hb6.mono hSS.size)
      have HOP := Lib.hid (hop.lift (HS2.out.mono hb5).below)
      clear hop
      refine hK2.out _ _ hb7 (fun hSS => ?_)
      try simp only [Act.put, List.setIfInBounds_toArray, List.set_cons_zero, List.set_cons_succ]
      refine take_d (i := 12) 34 (v6) rfl rfl (by kernel_rfl) (by kernel_rfl) (by kernel_rfl) (fun _ _ _ h => h) (Or.inl ⟨by rfl, ?_⟩) hSS ?_
      (focus (intro w' hw'; have hb1 := HCELL.out w' hw'; obtain ⟨hb1, hb2, hb3, hb4⟩ := hb1; first | (go_simp; done) | (go_simp; simp [qx0, qx1, qx2]; done)))
      simp only [Act.put, List.setIfInBounds_toArray, List.set_cons_zero, List.set_cons_succ]
      refine take_d (i := 13) 35 (.bool q6) rfl rfl (by kernel_rfl) (by kernel_rfl) (by kernel_rfl) (fun _ _ _ h => h) (Or.inl ⟨by rfl, ?_⟩) hSS ?_
      (focus (intro w' hw'; have hb1 := HCELL.out w' hw'; obtain ⟨hb1, hb2, hb3, hb4⟩ := hb1; first | (go_simp; done) | (go_simp; simp [qx0, qx1, qx2]; done)))
      simp only [Act.put, List.setIfInBounds_toArray, List.set_cons_zero, List.set_cons_succ]
      refine wpAnyH_ready (rs := [14]) (by kernel_rfl) (by simp) (AllReadyH.cons rfl (fun K3 hK3 => ?_) AllReadyH.nil)
      rw [if_pos (by rfl)]
      go_simp
      refine hK3.out _ _ hSS (fun _ => ?_)
      refine wpAnyH_ready (rs := [15]) (by kernel_rfl) (by simp) (AllReadyH.cons rfl (fun K4 hK4 => ?_) AllReadyH.nil)
      rw [if_pos (by rfl)]
      go_simp
      refine hK4.out _ _ hSS (fun _ => ?_)
      refine wpAnyH_done (by kernel_rfl) ?_ _
      go_wp2_with fail
      go_ret2
      exact HOP.out
    · obtain rfl := HAX.out.1 qc
      have hcA : w2.cell? ⟨w.heap.size, 0, none⟩ = some (.int .i64 (size : Int)) := HS2.out.cell 0 rfl (List.mem_singleton.2 rfl) 0
      have HCELL : Hid (∀ w' : World, Below w2.heap.size w2 w' → w'.cell? ⟨w.heap.size, 0, none⟩ = some (.int .i64 (size : Int)) ∧ w'.cell? ⟨w.heap.size, 1, none⟩ = some (.slice (some adp) ls.length capp) ∧ w'.cell? ⟨w.heap.size, 2, none⟩ = some (.int .i64 (b.length : Int)) ∧ w'.cell? (adp.add k) = some (.int .i64 (lo : Int))) := Lib.hid (fun w' hw' => by
        have hT := HS2.out.mono hw'
        refine ⟨hT.cell 0 rfl (List.mem_singleton.2 rfl) 0, hT.cell 0 rfl (List.mem_singleton.2 rfl) 1, hT.cell 0 rfl (List.mem_singleton.2 rfl) 2, ?_⟩
        obtain ⟨_, e1, k2⟩ := (HROW.out.st hT).at (iv_get _ _ _ HPL.out)
        cases e1
        exact k2)
      clear hcA
      refine wp_region_held_drew (S := fun w' => Below w2.heap.size w2 w') mixed (Below.refl _ _).drew (fun hSS => ?_)
      refine take_d (i := 0) 22 (.slice (some ad) b.length cap) rfl rfl (by kernel_rfl) (by kernel_rfl) (by kernel_rfl) (fun _ _ _ h => h) (Or.inl ⟨by rfl, ?_⟩) hSS ?_
      (focus (intro w' hw'; have hb1 := HCELL.out w' hw'; obtain ⟨hb1, hb2, hb3, hb4⟩ := hb1; first | (go_simp; done) | (go_simp; simp [qx0, qx1, qx2]; done)))
      simp only [Act.put, List.setIfInBounds_toArray, List.set_cons_zero, List.set_cons_succ]
      refine take_d (i := 1) 23 (.pointer (some ⟨w.heap.size, 1, none⟩)) rfl rfl (by kernel_rfl) (by kernel_rfl) (by kernel_rfl) (fun _ _ _ h => h) (Or.inl ⟨by rfl, ?_⟩) hSS ?_
      (focus (intro w' hw'; have hb1 := HCELL.out w' hw'; obtain ⟨hb1, hb2, hb3, hb4⟩ := hb1; first | (go_simp; done) | (go_simp; simp [qx0, qx1, qx2]; done)))
      simp only [Act.put, List.setIfInBounds_toArray, List.set_cons_zero, List.set_cons_succ]
      refine take_d (i := 2) 24 (.slice (some adp) ls.length capp) rfl rfl (by kernel_rfl) (by kernel_rfl) (by kernel_rfl) (fun _ _ _ h => h) (Or.inl ⟨by rfl, ?_⟩) hSS ?_
      (focus (intro w' hw'; have hb1 := HCELL.out w' hw'; obtain ⟨hb1, hb2, hb3, hb4⟩ := hb1; first | (go_simp; done) | (go_simp; simp [qx0, qx1, qx2]; done)))
      simp only [Act.put, List.setIfInBounds_toArray, List.set_cons_zero, List.set_cons_succ]
      refine take_d (i := 3) 25 (.int .i64 (k : Int)) rfl rfl (by kernel_rfl) (by kernel_rfl) (by kernel_rfl) (fun _ _ _ h => h) (Or.inl ⟨by rfl, ?_⟩) hSS ?_
      (focus (intro w' hw'; have hb1 := HCELL.out w' hw'; obtain ⟨hb1, hb2, hb3, hb4⟩ := hb1; first | (go_simp; done) | (go_simp; simp [qx0, qx1, qx2]; done)))
      simp only [Act.put, List.setIfInBounds_toArray, List.set_cons_zero, List.set_cons_succ]
      refine take_d (i := 4) 26 (.pointer (some (adp.add k))) rfl rfl (by kernel_rfl) (by kernel_rfl) (by kernel_rfl) (fun _ _ _ h => h) (Or.inl ⟨by rfl, ?_⟩) hSS ?_
      (focus (intro w' hw'; have hb1 := HCELL.out w' hw'; obtain ⟨hb1, hb2, hb3, hb4⟩ := hb1; first | (go_simp; done) | (go_simp; simp [qx0, qx1, qx2]; done)))
      simp only [Act.put, List.setIfInBounds_toArray, List.set_cons_zero, List.set_cons_succ]
      refine take_d (i := 5) 27 (.int .i64 (lo : Int)) rfl rfl (by kernel_rfl) (by kernel_rfl) (by kernel_rfl) (fun _ _ _ h => h) (Or.inl ⟨by rfl, ?_⟩) hSS ?_
      (focus (intro w' hw'; have hb1 := HCELL.out w' hw'; obtain ⟨hb1, hb2, hb3, hb4⟩ := hb1; first | (go_simp; done) | (go_simp; simp [qx0, qx1, qx2]; done)))
      simp only [Act.put, List.setIfInBounds_toArray, List.set_cons_zero, List.set_cons_succ]
      refine take_d (i := 6) 28 (.int .i64 (hi : Int)) rfl rfl (by kernel_rfl) (by kernel_rfl) (by kernel_rfl) (fun _ _ _ h => h) (Or.inl ⟨by rfl, ?_⟩) hSS ?_
      (focus (intro w' hw'; have hb1 := HCELL.out w' hw'; obtain ⟨hb1, hb2, hb3, hb4⟩ := hb1; first | (go_simp; done) | (go_simp; simp [qx0, qx1, qx2]; done)))
      simp only [Act.put, List.setIfInBounds_toArray, List.set_cons_zero, List.set_cons_succ]
      refine take_d (i := 7) 29 (.slice (some (ad.add lo)) (hi - lo) (cap - lo)) rfl rfl (by kernel_rfl) (by kernel_rfl) (by kernel_rfl) (fun _ _ _ h => h) (Or.inl ⟨by rfl, ?_⟩) hSS ?_
      (focus (intro w' hw'; have hb1 := HCELL.out w' hw'; obtain ⟨hb1, hb2, hb3, hb4⟩ := hb1; first | (go_simp; done) | (go_simp; simp [qx0, qx1, qx2]; done)))
      simp only [Act.put, List.setIfInBounds_toArray, List.set_cons_zero, List.set_cons_succ]
      refine take_d (i := 8) 30 (.agg #[.int .i64 (size : Int), .slice (some adp) ls.length capp, .int .i64 (b.length : Int)]) rfl rfl (by kernel_rfl) (by kernel_rfl) (by kernel_rfl) (fun _ _ _ h => h) (Or.inl ⟨by rfl, ?_⟩) hSS ?_
      (focus (intro w' hw'; have hb1 := HCELL.out w' hw'; obtain ⟨hb1, hb2, hb3, hb4⟩ := hb1; first | (go_simp; done) | (go_simp; simp [qx0, qx1, qx2]; done)))
      simp only [Act.put, List.setIfInBounds_toArray, List.set_cons_zero, List.set_cons_succ]
      refine take_d (i := 9) 31 (.int .i64 (k : Int)) rfl rfl (by kernel_rfl) (by kernel_rfl) (by kernel_rfl) (fun _ _ _ h => h) (Or.inl ⟨by rfl, ?_⟩) hSS ?_
      (focus (intro w' hw'; have hb1 := HCELL.out w' hw'; obtain ⟨hb1, hb2, hb3, hb4⟩ := hb1; first | (go_simp; done) | (go_simp; simp [qx0, qx1, qx2]; done)))
      simp only [Act.put, List.setIfInBounds_toArray, List.set_cons_zero, List.set_cons_succ]
      refine wpAnyH_ready (rs := [10]) (by kernel_rfl) (by simp) (AllReadyH.cons rfl (fun K1 hK1 => ?_) AllReadyH.nil)
      rw [if_pos (by rfl)]
      go_simp
      refine (ctsize_any (size : Int) (b.length : Int) (some adp) ls.length capp k _ (by omega) (by omega) (by omega)).mono ?_
      rintro e w5 ⟨rfl, o5, rfl⟩
      rw [HMIN.out]
      have hb5 : Below w2.heap.size w2 (w2.drew.alloc o5) := hSS.alloc hSS.size o5
      refine hK1.out _ _ hb5 (fun hSS => ?_)
      try simp only [Act.put, List.setIfInBounds_toArray, List.set_cons_zero, List.set_cons_succ]
      refine wpAnyH_ready (rs := [11]) (by kernel_rfl) (by simp) (AllReadyH.cons rfl (fun K2 hK2 => ?_) AllReadyH.nil)
      rw [if_pos (by rfl)]
      go_simp
      refine (open_n _ (blkB b at0 ls k) (hi - lo) Z _ (HRX.out.st (HS2.out.mono hb5)) (by omega) (by omega)).mono ?_
      intro e w6 hop
      obtain ⟨v6, q6, rfl⟩ := hop.form
      have hb6 := hop.below
      have hb7 := hSS.trans (hb6.mono hSS.size)
      have HOP := Lib.hid (hop.lift (HS2.out.mono hb5).below)
      clear hop
      refine hK2.out _ _ hb7 (fun hSS => ?_)
      try simp only [Act.put, List.setIfInBounds_toArray, List.set_cons_zero, List.set_cons_succ]
      refine take_d (i := 12) 34 (v6) rfl rfl (by kernel_rfl) (by kernel_rfl) (by kernel_rfl) (fun _ _ _ h => h) (Or.inl ⟨by rfl, ?_⟩) hSS ?_
      (focus (intro w' hw'; have hb1 := HCELL.out w' hw'; obtain ⟨hb1, hb2, hb3, hb4⟩ := hb1; first | (go_simp; done) | (go_simp; simp [qx0, qx1, qx2]; done)))
      simp only [Act.put, List.setIfInBounds_toArray, List.set_cons_zero, List.set_cons_succ]
      refine take_d (i := 13) 35 (.bool q6) rfl rfl (by kernel_rfl) (by kernel_rfl) (by kernel_rfl) (fun _ _ _ h => h) (Or.inl ⟨by rfl, ?_⟩) hSS ?_
      (focus (intro w' hw'; have hb1 := HCELL.out w' hw'; obtain ⟨hb1, hb2, hb3, hb4⟩ := hb1; first | (go_simp; done) | (go_simp; simp [qx0, qx1, qx2]; done)))
      simp only [Act.put, List.setIfInBounds_toArray, List.set_cons_zero, List.set_cons_succ]
      refine wpAnyH_ready (rs := [14]) (by kernel_rfl) (by simp) (AllReadyH.cons rfl (fun K3 hK3 => ?_) AllReadyH.nil)
      rw [if_pos (by rfl)]
      go_simp
      refine hK3.out _ _ hSS (fun _ => ?_)
      refine wpAnyH_ready (rs := [15]) (by kernel_rfl) (by simp) (AllReadyH.cons rfl (fun K4 hK4 => ?_) AllReadyH.nil)
      rw [if_pos (by rfl)]
      go_simp
      refine hK4.out _ _ hSS (fun _ => ?_)
      refine wpAnyH_done (by kernel_rfl) ?_ _
      go_wp2_with fail
      go_ret2
      exact HOP.out
  · have q1i : ¬ (k : Int) + 1 < (ls.length : Int) := by omega
    obtain rfl := HEND.out q1
    obtain ⟨w2, HW2⟩ : ∃ w2, w2 = (w.alloc (.cells #[.int .i64 (size : Int), .slice (some adp) ls.length capp, .int .i64 (b.length : Int)] 63 (0, 0))).alloc o := ⟨_, rfl⟩
    rw [← HW2] at k1' HS1 ⊢
    clear HW2
    have HS2 := HS1
    go_wp2_with fail
    by_cases qc : cap = lo
    · obtain rfl := HAX.out.2 qc
      subst qc
      have e : b.length - cap = 0 := by omega
      replace HRX : Hid (Rd w 1 (.slice (some ad) 0 0) 0 (bv (blkB b at0 ls k))) := Lib.hid (by have := HRX.out; rw [e, Nat.sub_self] at this; exact this)
      have hcA : w2.cell? ⟨w.heap.size, 0, none⟩ = some (.int .i64 (size : Int)) := HS2.out.cell 0 rfl (List.mem_singleton.2 rfl) 0
      have HCELL : Hid (∀ w' : World, Below w2.heap.size w2 w' → w'.cell? ⟨w.heap.size, 0, none⟩ = some (.int .i64 (size : Int)) ∧ w'.cell? ⟨w.heap.size, 1, none⟩ = some (.slice (some adp) ls.length capp) ∧ w'.cell? ⟨w.heap.size, 2, none⟩ = some (.int .i64 (b.length : Int)) ∧ w'.cell? (adp.add k) = some (.int .i64 (cap : Int))) := Lib.hid (fun w' hw' => by
        have hT := HS2.out.mono hw'
        refine ⟨hT.cell 0 rfl (List.mem_singleton.2 rfl) 0, hT.cell 0 rfl (List.mem_singleton.2 rfl) 1, hT.cell 0 rfl (List.mem_singleton.2 rfl) 2, ?_⟩
        obtain ⟨_, e1, k2⟩ := (HROW.out.st hT).at (iv_get _ _ _ HPL.out)
        cases e1
        exact k2)
      clear hcA
      refine wp_region_held_drew (S := fun w' => Below w2.heap.size w2 w') mixed (Below.refl _ _).drew (fun hSS => ?_)
      refine take_d (i := 0) 22 (.slice (some ad) b.length cap) rfl rfl (by kernel_rfl) (by kernel_rfl) (by kernel_rfl) (fun _ _ _ h => h) (Or.inl ⟨by rfl, ?_⟩) hSS ?_
      (focus (intro w' hw'; have hb1 := HCELL.out w' hw'; obtain ⟨hb1, hb2, hb3, hb4⟩ := hb1; first | (go_simp; done) | (go_simp; simp [qx0, qx1, qx2]; done)))
      simp only [Act.put, List.setIfInBounds_toArray, List.set_cons_zero, List.set_cons_succ]
      refine take_d (i := 1) 23 (.pointer (some ⟨w.heap.size, 1, none⟩)) rfl rfl (by kernel_rfl) (by kernel_rfl) (by kernel_rfl) (fun _ _ _ h => h) (Or.inl ⟨by rfl, ?_⟩) hSS ?_
      (focus (intro w' hw'; have hb1 := HCELL.out w' hw'; obtain ⟨hb1, hb2, hb3, hb4⟩ := hb1; first | (go_simp; done) | (go_simp; simp [qx0, qx1, qx2]; done)))
      simp only [Act.put, List.setIfInBounds_toArray, List.set_cons_zero, List.set_cons_succ]
      refine take_d (i := 2) 24 (.slice (some adp) ls.length capp) rfl rfl (by kernel_rfl) (by kernel_rfl) (by kernel_rfl) (fun _ _ _ h => h) (Or.inl ⟨by rfl, ?_⟩) hSS ?_
      (focus (intro w' hw'; have hb1 := HCELL.out w' hw'; obtain ⟨hb1, hb2, hb3, hb4⟩ := hb1; first | (go_simp; done) | (go_simp; simp [qx0, qx1, qx2]; done)))
      simp only [Act.put, List.setIfInBounds_toArray, List.set_cons_zero, List.set_cons_succ]
      refine take_d (i := 3) 25 (.int .i64 (k : Int)) rfl rfl (by kernel_rfl) (by kernel_rfl) (by kernel_rfl) (fun _ _ _ h => h) (Or.inl ⟨by rfl, ?_⟩) hSS ?_
      (focus (intro w' hw'; have hb1 := HCELL.out w' hw'; obtain ⟨hb1, hb2, hb3, hb4⟩ := hb1; first | (go_simp; done) | (go_simp; simp [qx0, qx1, qx2]; done)))
      simp only [Act.put, List.setIfInBounds_toArray, List.set_cons_zero, List.set_cons_succ]
      refine take_d (i := 4) 26 (.pointer (some (adp.add k))) rfl rfl (by kernel_rfl) (by kernel_rfl) (by kernel_rfl) (fun _ _ _ h => h) (Or.inl ⟨by rfl, ?_⟩) hSS ?_
      (focus (intro w' hw'; have hb1 := HCELL.out w' hw'; obtain ⟨hb1, hb2, hb3, hb4⟩ := hb1; first | (go_simp; done) | (go_simp; simp [qx0, qx1, qx2]; done)))
      simp only [Act.put, List.setIfInBounds_toArray, List.set_cons_zero, List.set_cons_succ]
      refine take_d (i := 5) 27 (.int .i64 (cap : Int)) rfl rfl (by kernel_rfl) (by kernel_rfl) (by kernel_rfl) (fun _ _ _ h => h) (Or.inl ⟨by rfl, ?_⟩) hSS ?_
      (focus (intro w' hw'; have hb1 := HCELL.out w' hw'; obtain ⟨hb1, hb2, hb3, hb4⟩ := hb1; first | (go_simp; done) | (go_simp; simp [qx0, qx1, qx2]; done)))
      simp only [Act.put, List.setIfInBounds_toArray, List.set_cons_zero, List.set_cons_succ]
      refine take_d (i := 6) 28 (.int .i64 (b.length : Int)) rfl rfl (by kernel_rfl) (by kernel_rfl) (by kernel_rfl) (fun _ _ _ h => h) (Or.inl ⟨by rfl, ?_⟩) hSS ?_
      (focus (intro w' hw'; have hb1 := HCELL.out w' hw'; obtain ⟨hb1, hb2, hb3, hb4⟩ := hb1; first | (go_simp; done) | (go_simp; simp [qx0, qx1, qx2]; done)))
      simp only [Act.put, List.setIfInBounds_toArray, List.set_cons_zero, List.set_cons_succ]
      refine take_d (i := 7) 29 (.slice (some ad) (0) (0)) rfl rfl (by kernel_rfl) (by kernel_rfl) (by kernel_rfl) (fun _ _ _ h => h) (Or.inl ⟨by rfl, ?_⟩) hSS ?_
      (focus (intro w' hw'; have hb1 := HCELL.out w' hw'; obtain ⟨hb1, hb2, hb3, hb4⟩ := hb1; first | (go_simp; done) | (go_simp; simp [qx0, qx1, qx2]; done)))
      simp only [Act.put, List.setIfInBounds_toArray, List.set_cons_zero, List.set_cons_succ]
      refine take_d (i := 8) 30 (.agg #[.int .i64 (size : Int), .slice (some adp) ls.length capp, .int .i64 (b.length : Int)]) rfl rfl (by kernel_rfl) (by kernel_rfl) (by kernel_rfl) (fun _ _ _ h => h) (Or.inl ⟨by rfl, ?_⟩) hSS ?_
      (focus (intro w' hw'; have hb1 := HCELL.out w' hw'; obtain ⟨hb1, hb2, hb3, hb4⟩ := hb1; first | (go_simp; done) | (go_simp; simp [qx0, qx1, qx2]; done)))
      simp only [Act.put, List.setIfInBounds_toArray, List.set_cons_zero, List.set_cons_succ]
      refine take_d (i := 9) 31 (.int .i64 (k : Int)) rfl rfl (by kernel_rfl) (by kernel_rfl) (by kernel_rfl) (fun _ _ _ h => h) (Or.inl ⟨by rfl, ?_⟩) hSS ?_
      (focus (intro w' hw'; have hb1 := HCELL.out w' hw'; obtain ⟨hb1, hb2, hb3, hb4⟩ := hb1; first | (go_simp; done) | (go_simp; simp [qx0, qx1, qx2]; done)))
      simp only [Act.put, List.setIfInBounds_toArray, List.set_cons_zero, List.set_cons_succ]
      refine wpAnyH_ready (rs := [10]) (by kernel_rfl) (by simp) (AllReadyH.cons rfl (fun K1 hK1 => ?_) AllReadyH.nil)
      rw [if_pos (by rfl)]
      go_simp
      refine (ctsize_any (size : Int) (b.length : Int) (some adp) ls.length capp k _ (by omega) (by omega) (by omega)).mono ?_
      rintro e w5 ⟨rfl, o5, rfl⟩
      rw [HMIN.out]
      have hb5 : Below w2.heap.size w2 (w2.drew.alloc o5) := hSS.alloc hSS.size o5
      refine hK1.out _ _ hb5 (fun hSS => ?_)
      try simp only [Act.put, List.setIfInBounds_toArray, List.set_cons_zero, List.set_cons_succ]
      refine wpAnyH_ready (rs := [11]) (by kernel_rfl) (by simp) (AllReadyH.cons rfl (fun K2 hK2 => ?_) AllReadyH.nil)
      rw [if_pos (by rfl)]
      go_simp
      refine (open_n _ (blkB b at0 ls k) (0) Z _ (HRX.out.st (HS2.out.mono hb5)) (by omega) (by omega)).mono ?_
      intro e w6 hop
      obtain ⟨v6, q6, rfl⟩ := hop.form
      have hb6 := hop.below
      have hb7 := hSS.trans (hb6.mono hSS.size)
      have HOP := Lib.hid (hop.lift (HS2.out.mono hb5).below)
      clear hop
      refine hK2.out _ _ hb7 (fun hSS => ?_)
      try simp only [Act.put, List.setIfInBounds_toArray, List.set_cons_zero, List.set_cons_succ]
      refine take_d (i := 12) 34 (v6) rfl rfl (by kernel_rfl) (by kernel_rfl) (by kernel_rfl) (fun _ _ _ h => h) (Or.inl ⟨by rfl, ?_⟩) hSS ?_
      (focus (intro w' hw'; have hb1 := HCELL.out w' hw'; obtain ⟨hb1, hb2, hb3, hb4⟩ := hb1; first | (go_simp; done) | (go_simp; simp [qx0, qx1, qx2]; done)))
      simp only [Act.put, List.setIfInBounds_toArray, List.set_cons_zero, List.set_cons_succ]
      refine take_d (i := 13) 35 (.bool q6) rfl rfl (by kernel_rfl) (by kernel_rfl) (by kernel_rfl) (fun _ _ _ h => h) (Or.inl ⟨by rfl, ?_⟩) hSS ?_
      (focus (intro w' hw'; have hb1 := HCELL.out w' hw'; obtain ⟨hb1, hb2, hb3, hb4⟩ := hb1; first | (go_simp; done) | (go_simp; simp [qx0, qx1, qx2]; done)))
      simp only [Act.put, List.setIfInBounds_toArray, List.set_cons_zero, List.set_cons_succ]
      refine wpAnyH_ready (rs := [14]) (by kernel_rfl) (by simp) (AllReadyH.cons rfl (fun K3 hK3 => ?_) AllReadyH.nil)
      rw [if_pos (by rfl)]
      go_simp
      refine hK3.out _ _ hSS (fun _ => ?_)
      refine wpAnyH_ready (rs := [15]) (by kernel_rfl) (by simp) (AllReadyH.cons rfl (fun K4 hK4 => ?_) AllReadyH.nil)
      rw [if_pos (by rfl)]
      go_simp
      refine hK4.out _ _ hSS (fun _ => ?_)
      refine wpAnyH_done (by kernel_rfl) ?_ _
      go_wp2_with fail
      go_ret2
      exact HOP.out
    · obtain rfl := HAX.out.1 qc
      have hcA : w2.cell? ⟨w.heap.size, 0, none⟩ = some (.int .i64 (size : Int)) := HS2.out.cell 0 rfl (List.mem_singleton.2 rfl) 0
      have HCELL : Hid (∀ w' : World, Below w2.heap.size w2 w' → w'.cell? ⟨w.heap.size, 0, none⟩ = some (.int .i64 (size : Int)) ∧ w'.cell? ⟨w.heap.size, 1, none⟩ = some (.slice (some adp) ls.length capp) ∧ w'.cell? ⟨w.heap.size, 2, none⟩ = some (.int .i64 (b.length : Int)) ∧ w'.cell? (adp.add k) = some (.int .i64 (lo : Int))) := Lib.hid (fun w' hw' => by
        have hT := HS2.out.mono hw'
        refine ⟨hT.cell 0 rfl (List.mem_singleton.2 rfl) 0, hT.cell 0 rfl (List.mem_singleton.2 rfl) 1, hT.cell 0 rfl (List.mem_singleton.2 rfl) 2, ?_⟩
        obtain ⟨_, e1, k2⟩ := (HROW.out.st hT).at (iv_get _ _ _ HPL.out)
        cases e1
        exact k2)
      clear hcA
      refine wp_region_held_drew (S := fun w' => Below w2.heap.size w2 w') mixed (Below.refl _ _).drew (fun hSS => ?_)
      refine take_d (i := 0) 22 (.slice (some ad) b.length cap) rfl rfl (by kernel_rfl) (by kernel_rfl) (by kernel_rfl) (fun _ _ _ h => h) (Or.inl ⟨by rfl, ?_⟩) hSS ?_
      (focus (intro w' hw'; have hb1 := HCELL.out w' hw'; obtain ⟨hb1, hb2, hb3, hb4⟩ := hb1; first | (go_simp; done) | (go_simp; simp [qx0, qx1, qx2]; done)))
      simp only [Act.put, List.setIfInBounds_toArray, List.set_cons_zero, List.set_cons_succ]
      refine take_d (i := 1) 23 (.pointer (some ⟨w.heap.size, 1, none⟩)) rfl rfl (by kernel_rfl) (by kernel_rfl) (by kernel_rfl) (fun _ _ _ h => h) (Or.inl ⟨by rfl, ?_⟩) hSS ?_
      (focus (intro w' hw'; have hb1 := HCELL.out w' hw'; obtain ⟨hb1, hb2, hb3, hb4⟩ := hb1; first | (go_simp; done) | (go_simp; simp [qx0, qx1, qx2]; done)))
      simp only [Act.put, List.setIfInBounds_toArray, List.set_cons_zero, List.set_cons_succ]
      refine take_d (i := 2) 24 (.slice (some adp) ls.length capp) rfl rfl (by kernel_rfl) (by kernel_rfl) (by kernel_rfl) (fun _ _ _ h => h) (Or.inl ⟨by rfl, ?_⟩) hSS ?_
      (focus (intro w' hw'; have hb1 := HCELL.out w' hw'; obtain ⟨hb1, hb2, hb3, hb4⟩ := hb1; first | (go_simp; done) | (go_simp; simp [qx0, qx1, qx2]; done)))
      simp only [Act.put, List.setIfInBounds_toArray, List.set_cons_zero, List.set_cons_succ]
      refine take_d (i := 3) 25 (.int .i64 (k : Int)) rfl rfl (by kernel_rfl) (by kernel_rfl) (by kernel_rfl) (fun _ _ _ h => h) (Or.inl ⟨by rfl, ?_⟩) hSS ?_
      (focus (intro w' hw'; have hb1 := HCELL.out w' hw'; obtain ⟨hb1, hb2, hb3, hb4⟩ := hb1; first | (go_simp; done) | (go_simp; simp [qx0, qx1, qx2]; done)))
      simp only [Act.put, List.setIfInBounds_toArray, List.set_cons_zero, List.set_cons_succ]
      refine take_d (i := 4) 26 (.pointer (some (adp.add k))) rfl rfl (by kernel_rfl) (by kernel_rfl) (by kernel_rfl) (fun _ _ _ h => h) (Or.inl ⟨by rfl, ?_⟩) hSS ?_
      (focus (intro w' hw'; have hb1 := HCELL.out w' hw'; obtain ⟨hb1, hb2, hb3, hb4⟩ := hb1; first | (go_simp; done) | (go_simp; simp [qx0, qx1, qx2]; done)))
      simp only [Act.put, List.setIfInBounds_toArray, List.set_cons_zero, List.set_cons_succ]
      refine take_d (i := 5) 27 (.int .i64 (lo : Int)) rfl rfl (by kernel_rfl) (by kernel_rfl) (by kernel_rfl) (fun _ _ _ h => h) (Or.inl ⟨by rfl, ?_⟩) hSS ?_
      (focus (intro w' hw'; have hb1 := HCELL.out w' hw'; obtain ⟨hb1, hb2, hb3, hb4⟩ := hb1; first | (go_simp; done) | (go_simp; simp [qx0, qx1, qx2]; done)))
      simp only [Act.put, List.setIfInBounds_toArray, List.set_cons_zero, List.set_cons_succ]
      refine take_d (i := 6) 28 (.int .i64 (b.length : Int)) rfl rfl (by kernel_rfl) (by kernel_rfl) (by kernel_rfl) (fun _ _ _ h => h) (Or.inl ⟨by rfl, ?_⟩) hSS ?_
      (focus (intro w' hw'; have hb1 := HCELL.out w' hw'; obtain ⟨hb1, hb2, hb3, hb4⟩ := hb1; first | (go_simp; done) | (go_simp; simp [qx0, qx1, qx2]; done)))
      simp only [Act.put, List.setIfInBounds_toArray, List.set_cons_zero, List.set_cons_succ]
      refine take_d (i := 7) 29 (.slice (some (ad.add lo)) (b.length - lo) (cap - lo)) rfl rfl (by kernel_rfl) (by kernel_rfl) (by kernel_rfl) (fun _ _ _ h => h) (Or.inl ⟨by rfl, ?_⟩) hSS ?_
      (focus (intro w' hw'; have hb1 := HCELL.out w' hw'; obtain ⟨hb1, hb2, hb3, hb4⟩ := hb1; first | (go_simp; done) | (go_simp; simp [qx0, qx1, qx2]; done)))
      simp only [Act.put, List.setIfInBounds_toArray, List.set_cons_zero, List.set_cons_succ]
      refine take_d (i := 8) 30 (.agg #[.int .i64 (size : Int), .slice (some adp) ls.length capp, .int .i64 (b.length : Int)]) rfl rfl (by kernel_rfl) (by kernel_rfl) (by kernel_rfl) (fun _ _ _ h => h) (Or.inl ⟨by rfl, ?_⟩) hSS ?_
      (focus (intro w' hw'; have hb1 := HCELL.out w' hw'; obtain ⟨hb1, hb2, hb3, hb4⟩ := hb1; first | (go_simp; done) | (go_simp; simp [qx0, qx1, qx2]; done)))
      simp only [Act.put, List.setIfInBounds_toArray, List.set_cons_zero, List.set_cons_succ]
      refine take_d (i := 9) 31 (.int .i64 (k : Int)) rfl rfl (by kernel_rfl) (by kernel_rfl) (by kernel_rfl) (fun _ _ _ h => h) (Or.inl ⟨by rfl, ?_⟩) hSS ?_
      (focus (intro w' hw'; have hb1 := HCELL.out w' hw'; obtain ⟨hb1, hb2, hb3, hb4⟩ := hb1; first | (go_simp; done) | (go_simp; simp [qx0, qx1, qx2]; done)))
      simp only [Act.put, List.setIfInBounds_toArray, List.set_cons_zero, List.set_cons_succ]
      refine wpAnyH_ready (rs := [10]) (by kernel_rfl) (by simp) (AllReadyH.cons rfl (fun K1 hK1 => ?_) AllReadyH.nil)
      rw [if_pos (by rfl)]
      go_simp
      refine (ctsize_any (size : Int) (b.length : Int) (some adp) ls.length capp k _ (by omega) (by omega) (by omega)).mono ?_
      rintro e w5 ⟨rfl, o5, rfl⟩
      rw [HMIN.out]
      have hb5 : Below w2.heap.size w2 (w2.drew.alloc o5) := hSS.alloc hSS.size o5
      refine hK1.out _ _ hb5 (fun hSS => ?_)
      try simp only [Act.put, List.setIfInBounds_toArray, List.set_cons_zero, List.set_cons_succ]
      refine wpAnyH_ready (rs := [11]) (by kernel_rfl) (by simp) (AllReadyH.cons rfl (fun K2 hK2 => ?_) AllReadyH.nil)
      rw [if_pos (by rfl)]
      go_simp
      refine (open_n _ (blkB b at0 ls k) (b.length - lo) Z _ (HRX.out.st (HS2.out.mono hb5)) (by omega) (by omega)).mono ?_
      intro e w6 hop
      obtain ⟨v6, q6, rfl⟩ := hop.form
      have hb6 := hop.below
      have hb7 := hSS.trans (hb6.mono hSS.size)
      have HOP := Lib.hid (hop.lift (HS2.out.mono hb5).below)
      clear hop
      refine hK2.out _ _ hb7 (fun hSS => ?_)
      try simp only [Act.put, List.setIfInBounds_toArray, List.set_cons_zero, List.set_cons_succ]
      refine take_d (i := 12) 34 (v6) rfl rfl (by kernel_rfl) (by kernel_rfl) (by kernel_rfl) (fun _ _ _ h => h) (Or.inl ⟨by rfl, ?_⟩) hSS ?_
      (focus (intro w' hw'; have hb1 := HCELL.out w' hw'; obtain ⟨hb1, hb2, hb3, hb4⟩ := hb1; first | (go_simp; done) | (go_simp; simp [qx0, qx1, qx2]; done)))
      simp only [Act.put, List.setIfInBounds_toArray, List.set_cons_zero, List.set_cons_succ]
      refine take_d (i := 13) 35 (.bool q6) rfl rfl (by kernel_rfl) (by kernel_rfl) (by kernel_rfl) (fun _ _ _ h => h) (Or.inl ⟨by rfl, ?_⟩) hSS ?_
      (focus (intro w' hw'; have hb1 := HCELL.out w' hw'; obtain ⟨hb1, hb2, hb3, hb4⟩ := hb1; first | (go_simp; done) | (go_simp; simp [qx0, qx1, qx2]; done)))
      simp only [Act.put, List.setIfInBounds_toArray, List.set_cons_zero, List.set_cons_succ]
      refine wpAnyH_ready (rs := [14]) (by kernel_rfl) (by simp) (AllReadyH.cons rfl (fun K3 hK3 => ?_) AllReadyH.nil)
      rw [if_pos (by rfl)]
      go_simp
      refine hK3.out _ _ hSS (fun _ => ?_)
      refine wpAnyH_ready (rs := [15]) (by kernel_rfl) (by simp) (AllReadyH.cons rfl (fun K4 hK4 => ?_) AllReadyH.nil)
      rw [if_pos (by rfl)]
      go_simp
      refine hK4.out _ _ hSS (fun _ => ?_)
      refine wpAnyH_done (by kernel_rfl) ?_ _
      go_wp2_with fail
      go_ret2
      exact HOP.out
end Go.Proofs.Ytdhnmcdgiddhdaa
/-
  Contract of container.Part.
-/
set_option linter.unusedVariables false
set_option linter.unusedSimpArgs false
namespace Go.Proofs.Ytdhnmcdgiddhdaa
open Go.RowKit
set_option maxRecDepth 100000
/-- How many blocks a part reaches. -/
def nBlk (f n : Nat) : Nat := (f + n + 999) / 1000 - f / 1000
/-- Blocks, unpacked. -/
def UnR (b : List UInt8) (size at0 : Nat) (ls : List Nat) (f : Nat) (xs : List (List UInt8)) : Prop :=
  ∀ i x, xs[i]? = some x → OpnR (blkB b at0 ls (f / 1000 + i)) x ∧ x.length = min 1000 (size - 1000 * (f / 1000 + i))
def PartR (b : List UInt8) (f n : Nat) (y : List UInt8) : Prop :=
  ∃ size ls at0, PlanR b size ls at0 ∧ f + n ≤ size ∧ (n = 0 ∧ y = [] ∨ 0 < n ∧ ∃ xs, xs.length = nBlk f n ∧ UnR b size at0 ls f xs ∧ y = (xs.flatten.drop (f % 1000)).take n)
def PartOut (b : List UInt8) (f n : Int) (w : World) (e : Ending) (w' : World) : Prop :=
  (∃ y v, 0 ≤ f ∧ 0 ≤ n ∧ PartR b f.toNat n.toNat y ∧ e = .returned (.tuple #[v, .int .i64 0]) ∧ Rd w' 1 v y.length (bv y) ∧ St w.heap.size w w' []) ∨
  (∃ er : Nat, (er = 6 ∧ (∀ size ls at0, PlanR b size ls at0 → 0 ≤ f ∧ 0 ≤ n ∧ f + n ≤ (size : Int)) ∨ er = 7 ∧ ∀ size ls at0, PlanR b size ls at0 → f < 0 ∨ n < 0 ∨ (size : Int) < f + n) ∧ e = .returned (.tuple #[.slice none 0 0, .int .i64 (er : Int)]) ∧ St w.heap.size w w' [] ∧ ¬ ∃ y, 0 ≤ f ∧ 0 ≤ n ∧ PartR b f.toNat n.toNat y)
theorem NumsR.len : ∀ {l : List Nat} {b : List UInt8}, NumsR b l → l.length ≤ b.length
  | [], _, _ => Nat.zero_le _
  | n :: l, b, ⟨_, k, h1, h2⟩ => by
    have e1 := NumsR.len h2
    have e2 := rdN_pos h1
    rw [List.length_drop] at e1
    rw [List.length_cons]
    omega
theorem UnR.init {b : List UInt8} {size at0 : Nat} {ls : List Nat} {f : Nat} {xs : List (List UInt8)} {x : List UInt8} (h : UnR b size at0 ls f (xs ++ [x])) : UnR b size at0 ls f xs ∧ OpnR (blkB b at0 ls (f / 1000 + xs.length)) x ∧ x.length = min 1000 (size - 1000 * (f / 1000 + xs.length)) := by
  refine ⟨fun i y hy => h i y ?_, h xs.length x (by simp)⟩
  have hi : i < xs.length := by
    rcases Nat.lt_or_ge i xs.length with q | q
    · exact q
    · rw [List.getElem?_eq_none q] at hy; cases hy
  rw [List.getElem?_append_left hi]
  exact hy
theorem UnR.snoc {b : List UInt8} {size at0 : Nat} {ls : List Nat} {f : Nat} {xs : List (List UInt8)} {x : List UInt8} (h : UnR b size at0 ls f xs) (h1 : OpnR (blkB b at0 ls (f / 1000 + xs.length)) x) (h2 : x.length = min 1000 (size - 1000 * (f / 1000 + xs.length))) : UnR b size at0 ls f (xs ++ [x]) := by
  intro i y hy
  rcases Nat.lt_or_ge i xs.length with q | q
  · rw [List.getElem?_append_left q] at hy
    exact h i y hy
  · rw [List.getElem?_append_right q] at hy
    have hi : i = xs.length := by
      rcases Nat.lt_or_ge (i - xs.length) 1 with q2 | q2
      · omega
      · rw [List.getElem?_eq_none (by simpa using q2)] at hy; cases hy
    subst hi
    rw [Nat.sub_self] at hy
    simp at hy
    subst hy
    exact ⟨h1, h2⟩
theorem flat_len (b : List UInt8) (size at0 : Nat) (ls : List Nat) (f : Nat) : ∀ (n : Nat) (xs : List (List UInt8)), xs.length = n → UnR b size at0 ls f xs → xs.flatten.length = min (1000 * n) (size - 1000 * (f / 1000))
  | 0, xs, h, _ => by rw [List.eq_nil_of_length_eq_zero h]; simp
  | n + 1, xs, h, hu => by
    rcases List.eq_nil_or_concat xs with rfl | ⟨ys, z, rfl⟩
    · simp at h
    · rw [List.concat_eq_append] at *
      have hl : ys.length = n := by simpa using h
      obtain ⟨h1, _, h3⟩ := hu.init
      have ih := flat_len b size at0 ls f n ys hl h1
      rw [List.flatten_append, List.length_append, ih, List.flatten_singleton, h3, hl]
      omega
set_option maxHeartbeats 4000000 in
theorem ctpart_any (v : Value) (b : List UInt8) (f n : Int) (w : World) (h : Rd w 1 v b.length (bv b)) (hn : b.length ≤ 1000000) (hbf : -9223372036854775808 ≤ f ∧ f ≤ 9223372036854775807) (hbm : -9223372036854775808 ≤ n ∧ n ≤ 9223372036854775807) :
    Calls Try.prog 20 #[v, .int .i64 f, .int .i64 n] w (PartOut b f n w) := by
  obtain ⟨j0, j0a, j0b, j0c, j0d⟩ := info_parts infoU8
  obtain ⟨ao, cap, rfl⟩ := h.shape
  have H0 := Lib.hid h
  clear h
  go_enter Try.func20, Try.ntmps20
  go_wp2_with fail
  refine (ctread_any _ b w H0.out hn).mono ?_
  rintro e w1 (⟨size, ls, at0, v1, c1, hp, rfl, hr1, hS1⟩ | ⟨n1, a1, l1, cp1, m1, rfl, hS1, hno⟩)
  case inr =>
    have HN := Lib.hid hno
    have hS2 := hS1.alloc' (.cells #[.int .i64 n1, .slice a1 l1 cp1, .int .i64 m1] 63 (0, 0))
    have HS := Lib.hid hS2
    clear hno hS1 hS2
    unfold planV
    go_wp2_with fail
    go_ret2
    refine .inr ⟨6, .inl ⟨rfl, fun size ls at0 hp => absurd ⟨size, ls, at0, hp⟩ HN.out⟩, rfl, HS.out, fun ⟨y, _, _, size, ls, at0, hp, _⟩ => HN.out ⟨size, ls, at0, hp⟩⟩
  case inl =>
    obtain ⟨ao1, cap1, rfl⟩ := hr1.shape
    obtain ⟨hx, kx, g1, g2, g3, g4, g5, g6⟩ := id hp
    have hszb := rdN_le g3
    have HP := Lib.hid hp
    have HG6 := Lib.hid g6
    have hlsb : ls.length ≤ 1000000 := by
      have e1 := g4.len
      have e2 := firstP_len g1
      rw [List.length_drop] at e1
      omega
    have hS2 := hS1.alloc (.cells #[.int .i64 (size : Int), .slice ao1 ls.length cap1, .int .i64 (b.length : Int)] 63 (0, 0))
    have k0 := hS2.cell 0 rfl (List.mem_singleton.2 rfl) 0
    have HS2 := Lib.hid (And.intro hr1 hS2)
    have hszi : (size : Int) ≤ 1099511627776 := by omega
    have HNO : Hid (∀ y, 0 ≤ f → 0 ≤ n → PartR b f.toNat n.toNat y → f + n ≤ (size : Int)) := Lib.hid (by
      rintro y h1 h2 ⟨s, l, a, q1, q2, _⟩
      obtain ⟨rfl, _, _⟩ := HP.out.one q1
      omega)
    have HRG : Hid ((f < 0 ∨ n < 0 ∨ (size : Int) < f + n) → ∀ s l a, PlanR b s l a → f < 0 ∨ n < 0 ∨ (s : Int) < f + n) := Lib.hid (by
      intro h s l a q1
      obtain ⟨rfl, _, _⟩ := HP.out.one q1
      exact h)
    clear hp g1 g2 g3 g4 g5 g6 hr1 hS1 hS2 k0
    unfold planV
    rcases (show f < 0 ∨ (0 ≤ f ∧ n < 0) ∨ (0 ≤ f ∧ 0 ≤ n ∧ (size : Int) < f) ∨ (0 ≤ f ∧ 0 ≤ n ∧ f ≤ (size : Int) ∧ (size : Int) - f < n) ∨ (0 ≤ f ∧ 0 ≤ n ∧ f ≤ (size : Int) ∧ n ≤ (size : Int) - f) by omega) with q | ⟨q, q2⟩ | ⟨q, q2, q3⟩ | ⟨q, q2, q3, q4⟩ | ⟨q, q2, q3, q4⟩
    · go_wp2_with fail
      go_ret2
      exact .inr ⟨7, .inr ⟨rfl, HRG.out (by omega)⟩, rfl, HS2.out.2.pick [] (by decide) [] rfl, fun ⟨y, y1, y2, y3⟩ => by have := HNO.out y y1 y2 y3; omega⟩
    · go_wp2_with fail
      go_ret2
      exact .inr ⟨7, .inr ⟨rfl, HRG.out (by omega)⟩, rfl, HS2.out.2.pick [] (by decide) [] rfl, fun ⟨y, y1, y2, y3⟩ => by have := HNO.out y y1 y2 y3; omega⟩
    · go_wp2_with fail
      go_ret2
      exact .inr ⟨7, .inr ⟨rfl, HRG.out (by omega)⟩, rfl, HS2.out.2.pick [] (by decide) [] rfl, fun ⟨y, y1, y2, y3⟩ => by have := HNO.out y y1 y2 y3; omega⟩
    · go_wp2_with fail
      go_ret2
      exact .inr ⟨7, .inr ⟨rfl, HRG.out (by omega)⟩, rfl, HS2.out.2.pick [] (by decide) [] rfl, fun ⟨y, y1, y2, y3⟩ => by have := HNO.out y y1 y2 y3; omega⟩
    · obtain ⟨F, rfl⟩ := Int.eq_ofNat_of_zero_le q
      obtain ⟨M, rfl⟩ := Int.eq_ofNat_of_zero_le q2
      have d1 : decide ((F : Int) < 0) = false := by rw [decide_eq_false_iff_not]; omega
      have d2 : decide ((M : Int) < 0) = false := by rw [decide_eq_false_iff_not]; omega
      have d3 : decide ((size : Int) < (F : Int)) = false := by rw [decide_eq_false_iff_not]; omega
      have d5 : decide (size < F) = false := by rw [decide_eq_false_iff_not]; omega
      have d4 : decide ((size : Int) - (F : Int) < (M : Int)) = false := by rw [decide_eq_false_iff_not]; omega
      clear hbf hbm HNO HRG
      by_cases qM : M = 0
      · subst qM
        go_wp2_with fail
        go_ret2
        exact .inl ⟨[], _, by omega, by omega, ⟨size, ls, at0, HP.out, by simp; omega, .inl ⟨rfl, rfl⟩⟩, rfl, Rd.nil _ _, HS2.out.2.pick [] (by decide) [] rfl⟩
      have qMi : ((M : Int) == 0) = false := by rw [beq_eq_false_iff_ne]; omega
      have hM : 0 < M := by omega
      clear qM
      have hFM : F + M ≤ size := by omega
      have hmo : F % 1000 + F / 1000 * 1000 = F := by omega
      obtain ⟨D, HD⟩ : ∃ D, Hid (D = F / 1000) := ⟨_, Lib.hid rfl⟩
      obtain ⟨J, HJ⟩ : ∃ J, Hid (J = nBlk F M) := ⟨_, Lib.hid rfl⟩
      have hJ : Hid (D + J = (F + M + 999) / 1000) := Lib.hid (by rw [HJ.out, HD.out]; unfold nBlk; omega)
      have hDF : Hid (Value.int .i64 ((F : Int) / 1000) = .int .i64 (D : Int)) := Lib.hid (by rw [HD.out]; congr 1)
      have hcl := HS2.out.2
      clear hmo
      go_wp2_with fail
      go_loopg [10, 12] J (fun gf s10 s12 wr => ∃ (j K : Nat) (xs : List (List UInt8)) (co : List (Nat × Obj)), j + gf = J ∧ Hid (K = D + j) ∧ s12 = .int .i64 (K : Int) ∧ Hid (xs.length = j ∧ UnR b size at0 ls F xs) ∧ RowC 5 1 s10 xs.flatten.length (bv xs.flatten) co ∧ St w.heap.size w wr [[(w1.heap.size, .cells #[.int .i64 (size : Int), .slice ao1 ls.length cap1, .int .i64 (b.length : Int)] 63 (0, 0))], c1, co])
      case atStart =>
        refine ⟨0, D, [], [], by omega, Lib.hid rfl, hDF.out, Lib.hid ⟨rfl, fun i x h => by cases h⟩, RowC.nil _ _, ?_⟩
        exact (HS2.out.2.one_nil).pick [1, 2, 0] (by decide) _ rfl
      case round =>
        clear hcl
        obtain ⟨j, K, xs, co, hj, HK, rfl, HX, hro, hS⟩ := hrel
        obtain ⟨aoo, capo, rfl⟩ := hro.shape
        have k0 : wr.cell? ⟨w1.heap.size, 0, none⟩ = some (.int .i64 (size : Int)) := hS.cell 0 rfl (List.mem_singleton.2 rfl) 0
        have k1 : wr.cell? ⟨w1.heap.size, 1, none⟩ = some (.slice ao1 ls.length cap1) := hS.cell 0 rfl (List.mem_singleton.2 rfl) 1
        have k2 : wr.cell? ⟨w1.heap.size, 2, none⟩ = some (.int .i64 (b.length : Int)) := hS.cell 0 rfl (List.mem_singleton.2 rfl) 2
        have hfl := flat_len b size at0 ls F j xs HX.out.1 HX.out.2
        have HFLN := Lib.hid hfl
        obtain ⟨fl, HFL⟩ : ∃ fl, Hid (fl = xs.flatten) := ⟨_, Lib.hid rfl⟩
        rw [← HFL.out] at hro hfl ⊢
        have hflb : fl.length ≤ 2000000000000 := by omega
        have HS := Lib.hid (And.intro hro hS)
        have hKb : K ≤ 10000000000 := by have := HK.out; have := hJ.out; omega
        have hwK : IntKind.i64.wrap ((K : Int) * 1000) = (K : Int) * 1000 := IntWalk.i64_in _ (by omega)
        have hwF : IntKind.i64.wrap ((F : Int) + (M : Int)) = (F : Int) + (M : Int) := IntWalk.i64_in _ (by omega)
        clear hro hS hfl
        cases gk with
        | zero =>
          have hKF : ¬ (K : Int) * 1000 < (F : Int) + (M : Int) := by have := HK.out; have := hJ.out; omega
          have hjJ : j = J := by omega
          have hwD : IntKind.i64.wrap ((F : Int) / 1000 * 1000) = (F : Int) / 1000 * 1000 := IntWalk.i64_in _ (by omega)
          obtain ⟨R, HRR⟩ : ∃ R, Hid (R = F % 1000) := ⟨_, Lib.hid rfl⟩
          have hR1 : (F : Int) - (F : Int) / 1000 * 1000 = (R : Int) := by rw [HRR.out]; omega
          have hwR : IntKind.i64.wrap ((F : Int) - (F : Int) / 1000 * 1000) = (R : Int) := by rw [← hR1]; exact IntWalk.i64_in _ (by omega)
          have hwRM : IntKind.i64.wrap ((R : Int) + (M : Int)) = (R : Int) + (M : Int) := IntWalk.i64_in _ (by have := HRR.out; omega)
          have hlen : R + M ≤ fl.length := by
            have e1 := HFLN.out
            rw [← HFL.out] at e1
            have e2 := hJ.out
            have e3 := HD.out
            have e4 := HRR.out
            omega
          have hcp := HS.out.1.cap
          have hRc : (R : Int) ≤ (R : Int) + (M : Int) := by omega
          have hRc2 : (R : Int) + (M : Int) ≤ (capo : Int) := by omega
          obtain ⟨g, hg⟩ := HS.out.1.head (by omega)
          subst hg
          have hy : Rd wr 1 (.slice (some ⟨g, R, none⟩) M (capo - R)) M (bv ((fl.drop R).take M)) := by
            have h1 := (HS.out.1.rd HS.out.2 2 rfl).drop (ao' := some ⟨g, R, none⟩) R (by omega) (fun _ => by rw [Nat.mul_one]; simp [Addr.add]) (fun e => by omega)
            have h2 := h1.take M (by omega)
            rwa [← bv_drop, ← bv_take] at h2
          have HY := Lib.hid hy
          clear hy
          go_wp2_with fail
          go_ret2
          have hyl := rd_len HY.out
          refine .inl ⟨(fl.drop R).take M, _, by omega, by omega, ⟨size, ls, at0, HP.out, by rw [Int.toNat_natCast, Int.toNat_natCast]; exact hFM, .inr ⟨by rw [Int.toNat_natCast]; exact hM, xs, ?_, ?_, ?_⟩⟩, rfl, ?_, HS.out.2.pick [] (by decide) [] rfl⟩
          · rw [Int.toNat_natCast, Int.toNat_natCast, ← HJ.out, HX.out.1, hjJ]
          · rw [Int.toNat_natCast]; exact HX.out.2
          · rw [Int.toNat_natCast, Int.toNat_natCast, ← HRR.out, ← HFL.out]
          · rw [← hyl]; exact HY.out
        | succ m =>
          have hKF : (K : Int) * 1000 < (F : Int) + (M : Int) := by have := HK.out; have := hJ.out; omega
          have hKl : K < ls.length := by have := HG6.out; omega
          go_wp2_with fail
          refine (ctget_any (.slice ao b.length cap) b size at0 ls K ao1 cap1 wr (H0.out.st HS.out.2) HP.out (HS2.out.1.rd HS.out.2 1 rfl) hKl hn hlsb).mono ?_
          rintro e w4 (⟨x, v4, c4, rfl, hr4, hx4, ho4, hS4⟩ | ⟨v4, rfl, hS4, hno⟩)
          · obtain ⟨ao4, cap4, rfl⟩ := hr4.shape
            have hS5 := HS.out.2.join hS4
            have hrd4 := hr4.rd hS5 0 rfl
            have hro5 := HS.out.1
            have hx1 : x.length ≤ 1000 := by omega
            have HO := Lib.hid (And.intro ho4 hx4)
            clear hr4 hx4 ho4 hS4 k0 k1 k2
            go_wp2_with ((at_builtin; (refine wpList_app 3 22 j0 (.int .u8 0) _ _ rfl rfl rfl rfl Try.underlying22 j0a j0b j0c j0d rfl (by decide) hS5 rfl hro5 hrd4 (bv_one _) ?_ ?_ ?_); (unfold maxLen; omega); omega; intro v5 c5 w5 hr5 hS5'); rw [← bv_append] at hr5; have H5 := Lib.hid (And.intro hr5 (hS5'.pick [1, 2, 3] (by decide) [[(w1.heap.size, .cells #[.int .i64 (size : Int), .slice ao1 ls.length cap1, .int .i64 (b.length : Int)] 63 (0, 0))], c1, c5] rfl)); clear hS5 hro5 hrd4 hr5 hS5')
            go_roundg m
            case measure => omega
            case rel =>
              have hKj : K = F / 1000 + xs.length := by rw [HK.out, HD.out, HX.out.1]
              refine ⟨j + 1, K + 1, xs ++ [x], c5, by omega, Lib.hid (by rw [HK.out]; omega), by go_num, Lib.hid ⟨by rw [List.length_append, HX.out.1]; rfl, HX.out.2.snoc (by rw [← hKj]; exact HO.out.1) (by rw [← hKj]; exact HO.out.2)⟩, ?_, H5.out.2⟩
              rw [List.flatten_append, List.flatten_singleton, ← HFL.out, List.length_append]
              exact H5.out.1
          · have HNO := Lib.hid hno
            have HS4 := Lib.hid (HS.out.2.join hS4)
            clear hno hS4 k0 k1 k2
            go_wp2_with fail
            go_ret2
            refine .inr ⟨6, .inl ⟨rfl, fun s l a q1 => by obtain ⟨e1, _, _⟩ := HP.out.one q1; omega⟩, rfl, HS4.out.pick [] (by decide) [] rfl, fun ⟨y, _, _, s, l, a, hp2, _, hy⟩ => ?_⟩
            obtain ⟨rfl, rfl, rfl⟩ := HP.out.one hp2
            rw [Int.toNat_natCast, Int.toNat_natCast] at hy
            rcases hy with ⟨h0, _⟩ | ⟨_, xs', h1, h2, _⟩
            · omega
            · have hjl : j < xs'.length := by rw [h1, ← HJ.out]; omega
              obtain ⟨z, hz⟩ : ∃ z, xs'[j]? = some z := ⟨_, List.getElem?_eq_getElem hjl⟩
              have h3 := h2 j z hz
              have hKj : K = F / 1000 + j := by rw [HK.out, HD.out]
              rw [← hKj] at h3
              exact HNO.out ⟨z, h3.2, h3.1⟩
end Go.Proofs.Ytdhnmcdgiddhdaa
/-
  Contracts of container.Unpack, container.Blocks.
-/
set_option linter.unusedVariables false
set_option linter.unusedSimpArgs false
namespace Go.Proofs.Ytdhnmcdgiddhdaa
open Go.RowKit
set_option maxRecDepth 100000
def UnpR (b y : List UInt8) : Prop := (∃ ls at0, PlanR b y.length ls at0) ∧ PartR b 0 y.length y
def UnpOut (b : List UInt8) (most : Int) (w : World) (e : Ending) (w' : World) : Prop :=
  (∃ y v, UnpR b y ∧ (y.length : Int) ≤ most ∧ e = .returned (.tuple #[v, .int .i64 0]) ∧ Rd w' 1 v y.length (bv y) ∧ St w.heap.size w w' []) ∨
  (∃ er : Nat, (er = 2 ∨ er = 6) ∧ e = .returned (.tuple #[.slice none 0 0, .int .i64 (er : Int)]) ∧ St w.heap.size w w' [] ∧ ¬ ∃ y, UnpR b y ∧ (y.length : Int) ≤ most)
theorem PartR.len {b : List UInt8} {f n : Nat} {y : List UInt8} (h : PartR b f n y) : y.length = n := by
  obtain ⟨size, ls, at0, _, h1, h2⟩ := h
  rcases h2 with ⟨rfl, rfl⟩ | ⟨h3, xs, h4, h5, rfl⟩
  · rfl
  · have h6 := flat_len b size at0 ls f _ xs h4 h5
    rw [List.length_take, List.length_drop, h6]
    unfold nBlk
    omega
theorem PartR.size {b : List UInt8} {f n : Nat} {y : List UInt8} (h : PartR b f n y) {size : Nat} {ls : List Nat} {at0 : Nat} (hp : PlanR b size ls at0) : f + n ≤ size := by
  obtain ⟨s, l, a, h0, h1, _⟩ := h
  obtain ⟨rfl, _, _⟩ := hp.one h0
  exact h1
set_option maxHeartbeats 2000000 in
theorem ctunpack_any (v : Value) (b : List UInt8) (most : Int) (w : World) (h : Rd w 1 v b.length (bv b)) (hn : b.length ≤ 1000000) :
    Calls Try.prog 19 #[v, .int .i64 most] w (UnpOut b most w) := by
  obtain ⟨ao, cap, rfl⟩ := h.shape
  have H0 := Lib.hid h
  clear h
  go_enter Try.func19, Try.ntmps19
  go_wp2_with fail
  refine (ctread_any _ b w H0.out hn).mono ?_
  rintro e w1 (⟨size, ls, at0, v1, c1, hp, rfl, hr1, hS1⟩ | ⟨n1, a1, l1, cp1, m1, rfl, hS1, hno⟩)
  case inr =>
    have HN := Lib.hid hno
    have HS := Lib.hid (hS1.alloc' (.cells #[.int .i64 n1, .slice a1 l1 cp1, .int .i64 m1] 63 (0, 0)))
    clear hno hS1
    unfold planV
    go_wp2_with fail
    go_ret2
    exact .inr ⟨6, .inr rfl, rfl, HS.out, fun ⟨y, ⟨⟨ls, at0, hp⟩, _⟩, _⟩ => HN.out ⟨_, ls, at0, hp⟩⟩
  case inl =>
    obtain ⟨ao1, cap1, rfl⟩ := hr1.shape
    have HP := Lib.hid hp
    have hszb : size ≤ 1099511627776 := by
      obtain ⟨_, _, _, _, g3, _⟩ := hp
      exact rdN_le g3
    have hszi : (size : Int) ≤ 1099511627776 := by omega
    have HS2 := Lib.hid ((hS1.pick [] (by decide) [] rfl).alloc' (.cells #[.int .i64 (size : Int), .slice ao1 ls.length cap1, .int .i64 (b.length : Int)] 63 (0, 0)))
    clear hp hr1 hS1
    unfold planV
    by_cases q : most < (size : Int)
    · go_wp2_with fail
      go_ret2
      refine .inr ⟨2, .inl rfl, rfl, HS2.out, fun ⟨y, ⟨⟨l, a, h1⟩, _⟩, h2⟩ => ?_⟩
      obtain ⟨e1, _, _⟩ := HP.out.one h1
      omega
    · go_wp2_with fail
      refine (ctpart_any _ b 0 (size : Int) _ (H0.out.st HS2.out) hn (by decide) (by omega)).mono ?_
      rintro e w3 (⟨y, v3, _, _, hy, rfl, hr3, hS3⟩ | ⟨er, her, rfl, hS3, hno⟩)
      · have HS3 := Lib.hid (And.intro hr3 (HS2.out.join hS3))
        rw [Int.toNat_natCast] at hy
        have HY := Lib.hid hy
        have HQ := Lib.hid q
        obtain ⟨ao3, cap3, rfl⟩ := hr3.shape
        clear hr3 hS3 hy q
        go_wp2_with fail
        go_ret2
        have hl := HY.out.len
        refine .inl ⟨y, _, ⟨⟨ls, at0, by rw [hl]; exact HP.out⟩, by rw [hl]; exact HY.out⟩, by rw [hl]; have := HQ.out; omega, rfl, HS3.out.1, HS3.out.2⟩
      · have HS3 := Lib.hid (HS2.out.join hS3)
        have HNO := Lib.hid hno
        have her6 : er = 6 := by
          rcases her with ⟨h, _⟩ | ⟨_, h⟩
          · exact h
          · have := h size ls at0 HP.out
            omega
        subst her6
        clear her hS3 hno
        go_wp2_with fail
        go_ret2
        refine .inr ⟨6, .inr rfl, rfl, HS3.out, fun ⟨y, ⟨⟨l, a, h1⟩, h2⟩, _⟩ => ?_⟩
        obtain ⟨e1, _, _⟩ := HP.out.one h1
        refine HNO.out ⟨y, by omega, by omega, ?_⟩
        rw [Int.toNat_natCast, e1]
        exact h2
def partsI (size : Nat) (n : Nat) : List Int := (List.range n).map fun k : Nat => min 1000 ((size : Int) - (k : Int) * 1000)
theorem partsI_snoc (size n : Nat) : partsI size (n + 1) = partsI size n ++ [min 1000 ((size : Int) - (n : Int) * 1000)] := by
  unfold partsI
  rw [List.range_succ, List.map_append]
  rfl
def BlocksOut (b : List UInt8) (w : World) (e : Ending) (w' : World) : Prop :=
  (∃ size ls at0 v c, PlanR b size ls at0 ∧ e = .returned (.tuple #[v, .int .i64 0]) ∧ RowC 3 1 v ls.length (iv (partsI size ls.length)) c ∧ St w.heap.size w w' [c]) ∨
  ((¬ ∃ size ls at0, PlanR b size ls at0) ∧ e = .returned (.tuple #[.slice none 0 0, .int .i64 6]) ∧ St w.heap.size w w' [])
set_option maxHeartbeats 2000000 in
theorem ctblocks_any (v : Value) (b : List UInt8) (w : World) (h : Rd w 1 v b.length (bv b)) (hn : b.length ≤ 1000000) :
    Calls Try.prog 21 #[v] w (BlocksOut b w) := by
  obtain ⟨i0, i0a, i0b, i0c, i0d⟩ := info_parts infoIntN
  obtain ⟨ao, cap, rfl⟩ := h.shape
  have H0 := Lib.hid h
  clear h
  go_enter Try.func21, Try.ntmps21
  go_wp2_with fail
  refine (ctread_any _ b w H0.out hn).mono ?_
  rintro e w1 (⟨size, ls, at0, v1, c1, hp, rfl, hr1, hS1⟩ | ⟨n1, a1, l1, cp1, m1, rfl, hS1, hno⟩)
  case inr =>
    have HN := Lib.hid hno
    have HS := Lib.hid (hS1.alloc' (.cells #[.int .i64 n1, .slice a1 l1 cp1, .int .i64 m1] 63 (0, 0)))
    clear hno hS1
    unfold planV
    go_wp2_with fail
    go_ret2
    exact .inr ⟨HN.out, rfl, HS.out⟩
  case inl =>
    obtain ⟨ao1, cap1, rfl⟩ := hr1.shape
    have HP := Lib.hid hp
    have hszb : size ≤ 1099511627776 := by
      obtain ⟨_, _, _, _, g3, _⟩ := hp
      exact rdN_le g3
    have hls : ls.length ≤ 1000000 := by
      obtain ⟨_, _, g1, _, _, g4, _⟩ := hp
      have e1 := g4.len
      have e2 := firstP_len g1
      rw [List.length_drop] at e1
      omega
    have HS2 := Lib.hid ((hS1.pick [] (by decide) [] rfl).alloc (.cells #[.int .i64 (size : Int), .slice ao1 ls.length cap1, .int .i64 (b.length : Int)] 63 (0, 0)))
    clear hp hr1 hS1
    unfold planV
    go_wp2_with fail
    refine (ctnum_any (size : Int) (b.length : Int) ao1 ls.length cap1 _).mono ?_
    rintro e w2 ⟨rfl, o2, rfl⟩
    have HS3 := Lib.hid (HS2.out.alloc' o2)
    go_wp2_with fail
    go_loopg [6, 17] ls.length (fun gf s6 s17 wr => ∃ (k : Nat) (co : List (Nat × Obj)), k + gf = ls.length ∧ s17 = .int .i64 (k : Int) ∧ RowC 3 1 s6 k (iv (partsI size k)) co ∧ St w.heap.size w wr [[(w1.heap.size, .cells #[.int .i64 (size : Int), .slice ao1 ls.length cap1, .int .i64 (b.length : Int)] 63 (0, 0))], co])
    case atStart => exact ⟨0, [], by omega, rfl, RowC.nil _ _, HS3.out.one_nil.swap⟩
    case round =>
      obtain ⟨k, co, hk, rfl, hro, hS⟩ := hrel
      have k0 : wr.cell? ⟨w1.heap.size, 0, none⟩ = some (.int .i64 (size : Int)) := hS.cell 0 rfl (List.mem_singleton.2 rfl) 0
      have k1 : wr.cell? ⟨w1.heap.size, 1, none⟩ = some (.slice ao1 ls.length cap1) := hS.cell 0 rfl (List.mem_singleton.2 rfl) 1
      have k2 : wr.cell? ⟨w1.heap.size, 2, none⟩ = some (.int .i64 (b.length : Int)) := hS.cell 0 rfl (List.mem_singleton.2 rfl) 2
      obtain ⟨aoo, capo, rfl⟩ := hro.shape
      have HS := Lib.hid (And.intro hro hS)
      clear hro hS
      cases gk with
      | zero =>
        obtain rfl : k = ls.length := by omega
        clear hk
        go_wp2_with fail
        go_ret2
        exact .inl ⟨size, ls, at0, _, co, HP.out, rfl, HS.out.1, HS.out.2.pick [1] (by decide) _ rfl⟩
      | succ m =>
        have hki : (k : Int) < (ls.length : Int) := by omega
        go_wp2_with fail
        refine (ctsize_any (size : Int) (b.length : Int) ao1 ls.length cap1 k wr (by omega) (by omega) (by omega)).mono ?_
        rintro e w4 ⟨rfl, o4, rfl⟩
        have hS4 := HS.out.2.alloc' o4
        have hr4 := HS.out.1
        obtain ⟨w4, hw4⟩ : ∃ w4, w4 = wr.alloc o4 := ⟨_, rfl⟩
        rw [← hw4] at hS4 ⊢
        clear hw4
        generalize hq : min (1000 : Int) ((size : Int) - (k : Int) * 1000) = Q
        have HQ := Lib.hid hq
        clear hq
        go_wp2_with ((at_builtin; (refine wpList_app1 1 36 i0 (.int .i64 0) _ _ _ rfl rfl rfl rfl Try.underlying36 i0a i0b i0c i0d rfl hS4 rfl hr4 rfl ?_ ?_ ?_); (unfold maxLen; omega); omega; intro v5 c5 w5 hr5 hS5); have H5 := Lib.hid (And.intro hr5 hS5); clear hS4 hr4 hr5 hS5)
        go_roundg m
        case measure => omega
        case rel =>
          refine ⟨k + 1, c5, by omega, by go_num, ?_, H5.out.2⟩
          rw [partsI_snoc, HQ.out, iv_append]
          exact H5.out.1
end Go.Proofs.Ytdhnmcdgiddhdaa
/-
  container, plain: what was packed is unpacked; what is unpacked is one.
-/
set_option linter.unusedVariables false
set_option linter.unusedSimpArgs false
namespace Go.Proofs.Ytdhnmcdgiddhdaa
open Go.RowKit
set_option maxRecDepth 100000
theorem blkX_open (b e y : List UInt8) (hy : y = fourB (crcP (blkX b e)) ++ blkX b e) (he : EncR b e) : OpnR y b := by
  have hg : getB y = crcP (blkX b e) := by rw [hy]; exact getB_four _ _ (crcP_lt _)
  have h4 : y.drop 4 = blkX b e := by rw [hy]; exact List.drop_left' (fourB_length _)
  have hl : y.length = 4 + (blkX b e).length := by rw [hy, List.length_append, fourB_length]
  have h5 : y.drop 5 = (blkX b e).drop 1 := by rw [← h4, List.drop_drop]
  have hi : y[4]? = (blkX b e)[0]? := by rw [← h4, List.getElem?_drop]
  refine ⟨?_, by rw [hg, h4], ?_⟩
  · rw [hl]; unfold blkX; split <;> simp <;> omega
  · rw [hi, h5]
    unfold blkX
    split
    · exact .inl ⟨rfl, rfl⟩
    · exact .inr ⟨rfl, he⟩
theorem BlkR.open {b y : List UInt8} (h : BlkR b y) : OpnR y b := by
  obtain ⟨e, he, hy⟩ := h
  exact blkX_open b e y hy he
theorem OpnR.one {y a b : List UInt8} (ha : OpnR y a) (hb : OpnR y b) (h1 : a.length ≤ 1000000) (h2 : b.length ≤ 1000000) : a = b := by
  obtain ⟨_, _, ha⟩ := ha
  obtain ⟨_, _, hb⟩ := hb
  rcases ha with ⟨a1, a2⟩ | ⟨a1, a2⟩ <;> rcases hb with ⟨b1, b2⟩ | ⟨b1, b2⟩
  · rw [a2, b2]
  · rw [a1] at b1; cases b1
  · rw [a1] at b1; cases b1
  · exact a2.text b2 h1 h2
def chk (x : List UInt8) (k : Nat) : List UInt8 := (x.drop (1000 * k)).take 1000
theorem chk_length (x : List UInt8) (k : Nat) : (chk x k).length = min 1000 (x.length - 1000 * k) := by unfold chk; rw [List.length_take, List.length_drop]
theorem BlksR.all : ∀ {X : List (List UInt8)} {b : List UInt8}, BlksR b X → X.length = (b.length + 999) / 1000 ∧ ∀ k y, X[k]? = some y → BlkR (chk b k) y
  | [], b, h => by
    have : b = [] := h
    subst this
    exact ⟨rfl, fun k y h => by cases h⟩
  | x :: X, b, ⟨h0, h1, h2⟩ => by
    obtain ⟨ih1, ih2⟩ := BlksR.all h2
    have hp : 0 < b.length := List.length_pos_iff.2 h0
    refine ⟨by rw [List.length_cons, ih1, List.length_drop]; omega, fun k y hy => ?_⟩
    cases k with
    | zero =>
      simp at hy
      subst hy
      exact h1
    | succ k =>
      have := ih2 k y (by simpa using hy)
      unfold chk at this ⊢
      rwa [List.drop_drop, show 1000 + 1000 * k = 1000 * (k + 1) from by omega] at this
theorem flat_drop : ∀ (X : List (List UInt8)) (k : Nat) (y : List UInt8), X[k]? = some y → (X.flatten.drop ((X.map List.length).take k).sum).take ((X.map List.length).getD k 0) = y
  | [], k, y, h => by cases h
  | x :: X, 0, y, h => by
    simp at h
    subst h
    simp
  | x :: X, k + 1, y, h => by
    have ih := flat_drop X k y (by simpa using h)
    rw [List.map_cons, List.take_succ_cons, List.sum_cons, List.flatten_cons, ← List.drop_drop, List.drop_left]
    simpa using ih
theorem first_seal (h r : List UInt8) (hh : h.length < 4294967296) : firstP (sealP h ++ r) = some h := by
  have hn4 : (fourB h.length).length = 4 := rfl
  have e0 : sealP h ++ r = fourB h.length ++ (fourB (crcP (fourB h.length)) ++ (fourB (crcP h) ++ (h ++ r))) := by unfold sealP; simp only [List.append_assoc]
  have e1 : getB (sealP h ++ r) = h.length := by rw [e0]; exact getB_four _ _ hh
  have d4 : (sealP h ++ r).drop 4 = fourB (crcP (fourB h.length)) ++ (fourB (crcP h) ++ (h ++ r)) := by rw [e0]; exact List.drop_left' rfl
  have d8 : (sealP h ++ r).drop 8 = fourB (crcP h) ++ (h ++ r) := by
    rw [show 8 = 4 + 4 from rfl, ← List.drop_drop, d4]; exact List.drop_left' rfl
  have d12 : (sealP h ++ r).drop 12 = h ++ r := by
    rw [show 12 = 8 + 4 from rfl, ← List.drop_drop, d8]; exact List.drop_left' rfl
  have t4 : (sealP h ++ r).take 4 = fourB h.length := by rw [e0]; exact List.take_left' rfl
  have hl : (sealP h ++ r).length = 12 + h.length + r.length := by rw [List.length_append, sealP_length]
  unfold firstP
  rw [e1, d4, d8, d12, t4, getB_four _ _ (crcP_lt _), getB_four _ _ (crcP_lt _), List.take_left, hl, if_neg (by rintro (h | h | h | h); omega; exact h rfl; omega; exact h rfl)]
theorem nums_put : ∀ X : List (List UInt8), (∀ x ∈ X, x.length ≤ 1000000) → NumsR (X.flatMap fun x => putN x.length) (X.map List.length)
  | [], _ => rfl
  | x :: X, h => by
    have hx := h x List.mem_cons_self
    rw [List.flatMap_cons, List.map_cons]
    refine ⟨fun e => ?_, (putN x.length).length, rdN_putN _ _ _ (by omega) (by omega), ?_⟩
    · have := congrArg List.length e
      have hp := putN_pos x.length
      rw [List.length_append, List.length_nil] at this
      omega
    · rw [List.drop_left]
      exact nums_put X fun y hy => h y (List.mem_cons_of_mem _ hy)
theorem headP_len (n : Nat) : ∀ X : List (List UInt8), (headP n X).length ≤ 10 * (X.length + 1) := by
  intro X
  unfold headP
  rw [List.length_append]
  have h1 := putN_le n
  have h2 : (X.flatMap fun x => putN x.length).length ≤ 10 * X.length := by
    induction X with
    | nil => simp
    | cons x X ih =>
      rw [List.flatMap_cons, List.length_append, List.length_cons]
      have := putN_le x.length
      omega
  omega
theorem flat_sum (X : List (List UInt8)) : X.flatten.length = (X.map List.length).sum := by simp
section
variable {x c : List UInt8} {X : List (List UInt8)} (hX : BlksR x X) (hc : c = sealP (headP x.length X) ++ X.flatten) (hx : x.length ≤ 100000)
include hX hc hx
theorem pack_plan : PlanR c x.length (X.map List.length) (12 + (headP x.length X).length) := by
  obtain ⟨h1, h2⟩ := hX.all
  have hh := headP_len x.length X
  refine ⟨headP x.length X, (putN x.length).length, ?_, rfl, ?_, ?_, ?_, ?_⟩
  · rw [hc]; exact first_seal _ _ (by omega)
  · unfold headP; exact rdN_putN _ _ _ (by omega) (by omega)
  · unfold headP
    rw [List.drop_left]
    refine nums_put X fun y hy => ?_
    obtain ⟨k, hk⟩ := List.mem_iff_getElem?.1 hy
    have h3 := (h2 k y hk).size
    rw [chk_length] at h3
    omega
  · rw [hc, List.length_append, sealP_length, flat_sum]
  · rw [List.length_map, h1]
omit hX hx in
theorem pack_blk (k : Nat) (y : List UInt8) (hk : X[k]? = some y) : blkB c (12 + (headP x.length X).length) (X.map List.length) k = y := by
  unfold blkB
  rw [hc, ← List.drop_drop, List.drop_left' (by rw [sealP_length])]
  exact flat_drop X k y hk
end
theorem chk_flat (x : List UInt8) : ∀ J, ((List.range J).map (chk x)).flatten = x.take (1000 * J)
  | 0 => by simp
  | J + 1 => by
    rw [List.range_succ, List.map_append, List.flatten_append, chk_flat x J]
    simp only [List.map_cons, List.map_nil, List.flatten_cons, List.flatten_nil, List.append_nil]
    unfold chk
    rw [show 1000 * (J + 1) = 1000 * J + 1000 from by omega, List.take_add]
theorem chk_shift (x : List UInt8) (D i : Nat) : chk x (D + i) = chk (x.drop (1000 * D)) i := by
  unfold chk
  rw [List.drop_drop, show 1000 * (D + i) = 1000 * D + 1000 * i from by omega]
theorem PackR.part {x c : List UInt8} (h : PackR x c) (hx : x.length ≤ 100000) {f n : Nat} (hf : f + n ≤ x.length) : PartR c f n ((x.drop f).take n) := by
  obtain ⟨X, hX, hc⟩ := h
  have hp := pack_plan hX hc hx
  refine ⟨_, _, _, hp, hf, ?_⟩
  rcases Nat.eq_zero_or_pos n with rfl | hn
  · exact .inl ⟨rfl, by simp⟩
  · refine .inr ⟨hn, (List.range (nBlk f n)).map fun i => chk x (f / 1000 + i), by simp, fun i y hy => ?_, ?_⟩
    · have hi : i < nBlk f n := by
        rcases Nat.lt_or_ge i (nBlk f n) with q | q
        · exact q
        · rw [List.getElem?_eq_none (by simpa using q)] at hy; cases hy
      rw [List.getElem?_map, List.getElem?_range hi] at hy
      simp at hy
      subst hy
      obtain ⟨h1, h2⟩ := hX.all
      have hk : f / 1000 + i < X.length := by unfold nBlk at hi; omega
      obtain ⟨y, hy⟩ : ∃ y, X[f / 1000 + i]? = some y := ⟨_, List.getElem?_eq_getElem hk⟩
      refine ⟨?_, chk_length _ _⟩
      rw [pack_blk hc _ y hy]
      exact (h2 _ y hy).open
    · have e1 : ((List.range (nBlk f n)).map fun i => chk x (f / 1000 + i)) = (List.range (nBlk f n)).map (chk (x.drop (1000 * (f / 1000)))) := List.map_congr_left fun i _ => chk_shift x _ i
      rw [e1, chk_flat]
      have e2 : f = 1000 * (f / 1000) + f % 1000 := by omega
      rw [List.drop_take, List.drop_drop, ← e2, List.take_take]
      congr 1
      unfold nBlk
      omega
theorem PackR.unp {x c : List UInt8} (h : PackR x c) (hx : x.length ≤ 100000) : UnpR c x := by
  have h1 := h.part hx (f := 0) (n := x.length) (by omega)
  obtain ⟨X, hX, hc⟩ := h
  refine ⟨⟨_, _, pack_plan hX hc hx⟩, ?_⟩
  simpa using h1
theorem blks_len : ∀ {X : List (List UInt8)} {b : List UInt8}, BlksR b X → X.flatten.length ≤ b.length + 5 * X.length
  | [], b, _ => by simp
  | x :: X, b, ⟨h0, h1, h2⟩ => by
    have ih := blks_len h2
    have h3 := h1.size
    rw [List.length_take] at h3
    rw [List.length_drop] at ih
    rw [List.flatten_cons, List.length_append, List.length_cons]
    omega
theorem PackR.size {x c : List UInt8} (h : PackR x c) : c.length ≤ x.length + 16 * ((x.length + 999) / 1000) + 32 := by
  obtain ⟨X, hX, hc⟩ := h
  have h1 := hX.all.1
  have h2 := blks_len hX
  have h3 := headP_len x.length X
  rw [hc, List.length_append, sealP_length]
  omega
theorem PartR.one {b : List UInt8} {f n : Nat} {y z : List UInt8} (hy : PartR b f n y) (hz : PartR b f n z) : y = z := by
  obtain ⟨s, l, a, h1, h2, h3⟩ := hy
  obtain ⟨s', l', a', h1', h2', h3'⟩ := hz
  obtain ⟨rfl, rfl, rfl⟩ := h1.one h1'
  rcases h3 with ⟨h0, rfl⟩ | ⟨h0, xs, h4, h5, rfl⟩
  · rcases h3' with ⟨_, rfl⟩ | ⟨h0', _⟩
    · rfl
    · omega
  · rcases h3' with ⟨h0', _⟩ | ⟨_, xs', h4', h5', rfl⟩
    · omega
    · have e : xs = xs' := by
        apply List.ext_getElem?
        intro i
        rcases Nat.lt_or_ge i (nBlk f n) with q | q
        · obtain ⟨u, hu⟩ : ∃ u, xs[i]? = some u := ⟨_, List.getElem?_eq_getElem (by omega)⟩
          obtain ⟨v, hv⟩ : ∃ v, xs'[i]? = some v := ⟨_, List.getElem?_eq_getElem (by omega)⟩
          have g1 := h5 i u hu
          have g2 := h5' i v hv
          rw [hu, hv, g1.1.one g2.1 (by omega) (by omega)]
        · rw [List.getElem?_eq_none (by omega), List.getElem?_eq_none (by omega)]
      rw [e]
theorem UnpR.one {b y z : List UInt8} (hy : UnpR b y) (hz : UnpR b z) : y = z := by
  obtain ⟨⟨l, a, h1⟩, h2⟩ := hy
  obtain ⟨⟨l', a', h1'⟩, h2'⟩ := hz
  obtain ⟨e, _, _⟩ := h1.one h1'
  rw [← e] at h2'
  exact h2.one h2'
end Go.Proofs.Ytdhnmcdgiddhdaa
/-
  Unpacking what was packed; foliolaw11.begun, foliolaw11.Filled.
-/
set_option linter.unusedVariables false
set_option linter.unusedSimpArgs false
namespace Go.Proofs.Ytdhnmcdgiddhdaa
open Go.RowKit
set_option maxRecDepth 100000
def OkRd (x : List UInt8) (w : World) (e : Ending) (w' : World) : Prop := ∃ v, e = .returned (.tuple #[v, .int .i64 0]) ∧ Rd w' 1 v x.length (bv x) ∧ St w.heap.size w w' []
theorem UnpOut.coded {x c : List UInt8} {most : Int} {w w' : World} {e : Ending} (hp : PackR x c) (hx : x.length ≤ 100000) (hm : (x.length : Int) ≤ most) (h : UnpOut c most w e w') : OkRd x w e w' := by
  have hu := hp.unp hx
  rcases h with ⟨y, v, h1, _, rfl, hr, hS⟩ | ⟨_, _, _, _, hn⟩
  · obtain rfl := h1.one hu
    exact ⟨v, rfl, hr, hS⟩
  · exact absurd ⟨x, hu, hm⟩ hn
theorem PartOut.coded {x c : List UInt8} {f n : Nat} {w w' : World} {e : Ending} (hp : PackR x c) (hx : x.length ≤ 100000) (hf : f + n ≤ x.length) (h : PartOut c (f : Int) (n : Int) w e w') : OkRd ((x.drop f).take n) w e w' := by
  have hu := hp.part hx hf
  rcases h with ⟨y, v, _, _, h1, rfl, hr, hS⟩ | ⟨_, _, _, _, hn⟩
  · rw [Int.toNat_natCast, Int.toNat_natCast] at h1
    obtain rfl := h1.one hu
    exact ⟨v, rfl, hr, hS⟩
  · exact absurd ⟨(x.drop f).take n, by omega, by omega, by rw [Int.toNat_natCast, Int.toNat_natCast]; exact hu⟩ hn
theorem PartOut.range {x c : List UInt8} {f n : Int} {w w' : World} {e : Ending} (hp : PackR x c) (hx : x.length ≤ 100000) (hf : f < 0 ∨ n < 0 ∨ (x.length : Int) < f + n) (h : PartOut c f n w e w') : e = .returned (.tuple #[.slice none 0 0, .int .i64 7]) ∧ St w.heap.size w w' [] := by
  obtain ⟨⟨ls, at0, hpl⟩, _⟩ := hp.unp hx
  rcases h with ⟨y, v, h1, h2, h3, _⟩ | ⟨er, h1, rfl, hS, _⟩
  · have := h3.size hpl
    omega
  · rcases h1 with ⟨_, h1⟩ | ⟨rfl, _⟩
    · have := h1 _ _ _ hpl
      omega
    · exact ⟨rfl, hS⟩
theorem BlocksOut.coded {x c : List UInt8} {w w' : World} {e : Ending} (hp : PackR x c) (hx : x.length ≤ 100000) (h : BlocksOut c w e w') : ∃ v cc, e = .returned (.tuple #[v, .int .i64 0]) ∧ RowC 3 1 v ((x.length + 999) / 1000) (iv (partsI x.length ((x.length + 999) / 1000))) cc ∧ St w.heap.size w w' [cc] := by
  obtain ⟨⟨ls, at0, hpl⟩, _⟩ := hp.unp hx
  rcases h with ⟨s, l, a, v, cc, h1, rfl, hr, hS⟩ | ⟨h1, _⟩
  · obtain ⟨rfl, rfl, rfl⟩ := hpl.one h1
    have hl : ls.length = (x.length + 999) / 1000 := by obtain ⟨_, _, _, _, _, _, _, g⟩ := hpl; exact g
    rw [hl] at hr
    exact ⟨v, cc, rfl, hr, hS⟩
  · exact absurd ⟨_, _, _, hpl⟩ h1
set_option maxHeartbeats 2000000 in
theorem begun11 (w : World) : Calls Try.prog 16 #[] w fun e w' => e = .returned (.bool true) ∧ Below w.heap.size w w' := by
  have hb : Rd _ 1 _ ban.length (bv ban) := Rd.litsF w #[.int .u8 98, .int .u8 97, .int .u8 110, .int .u8 97, .int .u8 110, .int .u8 97] 5 (6, 7) 6 rfl m6
  have hS := (St.init w).alloc (.cells #[.int .u8 98, .int .u8 97, .int .u8 110, .int .u8 97, .int .u8 110, .int .u8 97] 5 (6, 7))
  go_enter Try.func16, Try.ntmps16
  go_wp2_with fail
  rw [Lib.run_convert_bytes_const _ 22 5 _ _ _ Try.underlying22 Try.underlying5]
  go_wp2_with fail
  refine (pack_any _ ban _ hb (by decide)).mono ?_
  rintro e w1 ⟨c, v, cc, rfl, hr, hp, hS1⟩
  have hS2 := (hS.join hS1).pick [0] (by decide) [cc] rfl
  have hcl : c.length ≤ 1000 := by have := hp.size; have e : ban.length = 6 := rfl; omega
  have HP := Lib.hid hp
  have HR := Lib.hid hr
  obtain ⟨ao, cap, rfl⟩ := hr.shape
  have H2 := Lib.hid hS2
  clear hS hS1 hS2 hb hp hr
  go_wp2_with fail
  refine (ctunpack_any _ c 10 w1 (HR.out.rd H2.out 0 rfl) (by omega)).mono ?_
  intro e w2 hd
  obtain ⟨v2, rfl, hr2, hS3⟩ := hd.coded HP.out (by decide) (by decide)
  obtain ⟨ao2, cap2, rfl⟩ := hr2.shape
  have H3 := Lib.hid (And.intro hr2 (H2.out.join hS3))
  clear hd hr2 hS3
  go_wp2_with fail
  refine (ctpart_any _ c 2 3 w2 (HR.out.rd H3.out.2 0 rfl) (by omega) (by decide) (by decide)).mono ?_
  intro e w3 hd
  obtain ⟨v3, rfl, hr3, hS4⟩ := PartOut.coded (f := 2) (n := 3) HP.out (by decide) (by decide) hd
  replace hr3 : Rd w3 1 v3 3 (bv [110, 97, 110]) := hr3
  obtain ⟨ao3, cap3, rfl⟩ := hr3.shape
  have H4 := Lib.hid (And.intro hr3 (And.intro (H3.out.2.join hS4) (H3.out.1.keep hS4.below)))
  clear hd hr3 hS4
  go_wp2_with fail
  refine (ctblocks_any _ c w3 (HR.out.rd H4.out.2.1 0 rfl) (by omega)).mono ?_
  intro e w4 hd
  obtain ⟨v4, c4, rfl, hr4, hS5⟩ := hd.coded HP.out (by decide)
  replace hr4 : RowC 3 1 v4 1 (iv [6]) c4 := hr4
  obtain ⟨ao4, cap4, rfl⟩ := hr4.shape
  have H5 := Lib.hid (And.intro hr4 (And.intro (H4.out.2.1.join hS5) (And.intro (H4.out.1.keep hS5.below) (H4.out.2.2.keep hS5.below))))
  clear hd hr4 hS5
  go_wp2_with fail
  refine (ctpart_any _ c 5 2 w4 (HR.out.rd H5.out.2.1 1 rfl) (by omega) (by decide) (by decide)).mono ?_
  intro e w5 hd
  obtain ⟨rfl, hS6⟩ := hd.range HP.out (by decide) (by decide)
  have hS7 := H5.out.2.1.join hS6
  have hc1 : (convert 22 9 (.slice ao2 ban.length cap2)).run Try.prog w5 = .ok (.string ⟨#[98, 97, 110, 97, 110, 97]⟩) w5 := conv_str (H5.out.2.2.2.keep hS6.below)
  have hc2 : (convert 22 9 (.slice ao3 3 cap3)).run Try.prog w5 = .ok (.string ⟨#[110, 97, 110]⟩) w5 := conv_str (H5.out.2.2.1.keep hS6.below)
  obtain ⟨ad4, had4, hk4⟩ := (H5.out.1.rd hS7 0 rfl).at (iv_get [6] 0 6 rfl)
  subst had4
  replace hk4 : w5.cell? ad4 = some (.int .i64 6) := by rw [show ad4.add 0 = ad4 from by cases ad4; rfl] at hk4; exact hk4
  have HE := Lib.hid hS7.below
  clear hd hS6 hS7
  go_wp2_with fail
  go_ret
  exact ⟨rfl, HE.out⟩
end Go.Proofs.Ytdhnmcdgiddhdaa

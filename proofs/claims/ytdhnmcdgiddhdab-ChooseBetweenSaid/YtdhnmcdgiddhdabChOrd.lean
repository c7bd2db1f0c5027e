/-
  choose.order: the comparison.
-/
import Derived.Test.YtdhnmcdgiddhdabUse
import Derived.Test.YtdhnmcdgiddhdabSortTI
import Derived.BigQuiet
set_option linter.unusedVariables false
set_option linter.unusedSimpArgs false
namespace Go.Proofs.Ytdhnmcdgiddhdab
open Go.RowKit
set_option maxRecDepth 100000
def cmpZ (x y : Int) : Int := if x < y then -1 else if y < x then 1 else 0
theorem cmpi64_any (x y : Int) (w : World) : Calls Try.prog 41 #[.int .i64 x, .int .i64 y] w fun e w' => e = .returned (.int .i64 (cmpZ x y)) ∧ w = w' := by
  have hx : (x != x) = false := by simp
  have hy : (y != y) = false := by simp
  rcases Int.lt_trichotomy x y with q | q | q
  · have e : cmpZ x y = -1 := by unfold cmpZ; rw [if_pos q]
    rw [e]
    go_enter Try.func41, Try.ntmps41
    go_wp2
    go_ret
    exact ⟨rfl, rfl⟩
  · subst q
    have e : cmpZ x x = 0 := by unfold cmpZ; rw [if_neg (by omega), if_neg (by omega)]
    have q1 : ¬ x < x := by omega
    rw [e]
    go_enter Try.func41, Try.ntmps41
    go_wp2
    go_ret
    exact ⟨rfl, rfl⟩
  · have e : cmpZ x y = 1 := by unfold cmpZ; rw [if_neg (by omega), if_pos q]
    have q1 : ¬ x < y := by omega
    rw [e]
    go_enter Try.func41, Try.ntmps41
    go_wp2
    go_ret
    exact ⟨rfl, rfl⟩
def cfO (xs : List Nat) (us : List UseP) (a b : Nat) : Int :=
  if lessP (xs.getD b 0) (xs.getD a 0) then -1 else if lessP (xs.getD a 0) (xs.getD b 0) then 1 else
    match us[a]?, us[b]? with
    | some x, some y => cmpZ x.num y.num
    | _, _ => 0
set_option maxHeartbeats 4000000 in
theorem ordf_any (p1 p2 a b : Nat) (gv lv : Value) (xs : List Nat) (us : List UseP) (w : World) (c1 : w.cell? ⟨p1, 0, none⟩ = some gv) (c2 : w.cell? ⟨p2, 0, none⟩ = some lv) (h1 : Rd w 1 gv xs.length (fv xs)) (h2 : Rd w 4 lv us.length (uv us)) (hl : ∀ x ∈ xs, x < 18446744073709551616) (hlen : xs.length = us.length) (ha : a < us.length) (hb : b < us.length) :
    Calls Try.prog 40 #[.int .i64 (a : Int), .int .i64 (b : Int), .pointer (some ⟨p1, 0, none⟩), .pointer (some ⟨p2, 0, none⟩)] w fun e w' => e = .returned (.int .i64 (cfO xs us a b)) ∧ ∃ k, w' = w.drewN k := by
  obtain ⟨ao1, cap1, rfl⟩ := h1.shape
  obtain ⟨ao2, cap2, rfl⟩ := h2.shape
  obtain ⟨x, hx⟩ : ∃ x, xs[a]? = some x := ⟨_, List.getElem?_eq_getElem (by omega)⟩
  obtain ⟨y, hy⟩ : ∃ y, xs[b]? = some y := ⟨_, List.getElem?_eq_getElem (by omega)⟩
  obtain ⟨u, hu⟩ : ∃ u, us[a]? = some u := ⟨_, List.getElem?_eq_getElem (by omega)⟩
  obtain ⟨v, hv⟩ : ∃ v, us[b]? = some v := ⟨_, List.getElem?_eq_getElem (by omega)⟩
  obtain ⟨ad1, rfl, hc1⟩ := h1.at (fv_get xs a x hx)
  obtain ⟨ad1', e1, hc2⟩ := h1.at (fv_get xs b y hy)
  cases e1
  obtain ⟨ad2, rfl⟩ : ∃ ad, ao2 = some ad := by
    obtain ⟨ad, e, _⟩ := h2.at (j := a * 4 + 0) (by rw [uv_get us a 0 u hu (by omega)]; rfl)
    exact ⟨ad, e⟩
  have hn1 := (h2.use hu).1
  have hn2 := (h2.use hv).1
  have hx64 := hl x (List.mem_of_getElem? hx)
  have hy64 := hl y (List.mem_of_getElem? hy)
  have hai : (a : Int) < (us.length : Int) := by omega
  have hbi : (b : Int) < (us.length : Int) := by omega
  have hli : xs.length = us.length := hlen
  have HE : Hid (cfO xs us a b = if lessP y x then -1 else if lessP x y then 1 else cmpZ u.num v.num) := Lib.hid (by
    unfold cfO
    rw [List.getD_eq_getElem?_getD, List.getD_eq_getElem?_getD, hx, hy, hu, hv]
    rfl)
  obtain ⟨z, hz⟩ : ∃ z, cfO xs us a b = z := ⟨_, rfl⟩
  rw [hz] at HE ⊢
  clear hz hx hy hu hv h1 h2
  have hai1 : (a : Int) < (xs.length : Int) := by omega
  have hbi1 : (b : Int) < (xs.length : Int) := by omega
  have hle1 : ∀ (wx : World) (n : Nat), Calls Try.prog 30 #[.float .f64 y, .float .f64 x] (wx.drewN n) fun e w'' => e = .returned (.bool (lessP y x)) ∧ ∃ m, w'' = wx.drewN m := fun wx n => quiet_same (less_any y x _ hy64 hx64)
  have hle2 : ∀ (wx : World) (n : Nat), Calls Try.prog 30 #[.float .f64 x, .float .f64 y] (wx.drewN n) fun e w'' => e = .returned (.bool (lessP x y)) ∧ ∃ m, w'' = wx.drewN m := fun wx n => quiet_same (less_any x y _ hx64 hy64)
  have hcm : ∀ (wx : World) (n : Nat), Calls Try.prog 41 #[.int .i64 u.num, .int .i64 v.num] (wx.drewN n) fun e w'' => e = .returned (.int .i64 (cmpZ u.num v.num)) ∧ ∃ m, w'' = wx.drewN m := fun wx n => quiet_same (cmpi64_any _ _ _)
  clear hli hlen ha hb
  have HC : Hid (∀ wx, Drew w wx → wx.cell? ⟨p1, 0, none⟩ = some (.slice (some ad1) xs.length cap1) ∧ wx.cell? ⟨p2, 0, none⟩ = some (.slice (some ad2) us.length cap2) ∧ wx.cell? (ad1.add a) = some (.float .f64 x) ∧ wx.cell? (ad1.add b) = some (.float .f64 y) ∧ wx.cell? (ad2.add (a * 4)) = some (.int .i64 u.num) ∧ wx.cell? (ad2.add (b * 4)) = some (.int .i64 v.num)) := Lib.hid (by
    intro wx hd
    obtain ⟨k, rfl⟩ := hd.out
    exact ⟨c1, c2, hc1, hc2, hn1, hn2⟩)
  cases b1 : lessP y x with
  | true =>
    have HZ : Hid (z = -1) := Lib.hid (by rw [HE.out, b1]; rfl)
    rw [b1] at hle1
    clear HE
    go_enter Try.func40, Try.ntmps40
    go_wp2_with fail
    go_quiet ((go_at_call 30; exact hle1 _ _))
    go_wp2_with fail
    go_ret
    exact ⟨by rw [HZ.out]; try rfl, _, rfl⟩
  | false =>
    cases b2 : lessP x y with
    | true =>
      have HZ : Hid (z = 1) := Lib.hid (by rw [HE.out, b1, b2]; rfl)
      rw [b1] at hle1
      rw [b2] at hle2
      clear HE
      go_enter Try.func40, Try.ntmps40
      go_wp2_with fail
      go_quiet ((go_at_call 30; exact hle1 _ _))
      have D2 := Lib.hid (Drew.mk w nq)
      generalize w.drewN nq = w2 at D2 ⊢
      clear c1 c2 hc1 hc2 hn1 hn2
      obtain ⟨c1, c2, hc1, hc2, hn1, hn2⟩ := HC.out w2 D2.out
      go_wp2_with fail
      go_quiet ((go_at_call 30; exact hle2 _ _))
      go_wp2_with fail
      go_ret
      obtain ⟨nd, rfl⟩ := D2.out.out
      exact ⟨by rw [HZ.out]; try rfl, _, World.drewN_drewN ..⟩
    | false =>
      have HZ : Hid (z = cmpZ u.num v.num) := Lib.hid (by rw [HE.out, b1, b2]; rfl)
      rw [b1] at hle1
      rw [b2] at hle2
      clear HE
      generalize cmpZ u.num v.num = cz at *
      go_enter Try.func40, Try.ntmps40
      go_wp2_with fail
      go_quiet ((go_at_call 30; exact hle1 _ _))
      have D2 := Lib.hid (Drew.mk w nq)
      generalize w.drewN nq = w2 at D2 ⊢
      clear c1 c2 hc1 hc2 hn1 hn2
      obtain ⟨c1, c2, hc1, hc2, hn1, hn2⟩ := HC.out w2 D2.out
      go_wp2_with fail
      go_quiet ((go_at_call 30; exact hle2 _ _))
      obtain ⟨nd, rfl⟩ := D2.out.out
      have D3 : Hid (Drew w ((w.drewN nd).drewN nq)) := Lib.hid (by rw [World.drewN_drewN]; exact Drew.mk w _)
      generalize (w.drewN nd).drewN nq = w3 at D3 ⊢
      clear c1 c2 hc1 hc2 hn1 hn2
      obtain ⟨c1, c2, hc1, hc2, hn1, hn2⟩ := HC.out w3 D3.out
      go_wp2_with fail
      go_quiet ((go_at_call 41; exact hcm _ _))
      go_wp2_with fail
      go_ret
      obtain ⟨nd2, rfl⟩ := D3.out.out
      exact ⟨by rw [HZ.out]; try rfl, _, World.drewN_drewN ..⟩
end Go.Proofs.Ytdhnmcdgiddhdab

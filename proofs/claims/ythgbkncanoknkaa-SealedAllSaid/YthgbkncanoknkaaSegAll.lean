/-
  Contracts of the helpers of SealedAll: bytes, Eq, EqAll, last, Good.
-/
import Derived.Test.YthgbkncanoknkaaRefEnc
import Derived.Test.YthgbkncanoknkaaSegAlike
set_option linter.unusedVariables false
set_option linter.unusedSimpArgs false
namespace Go.Proofs.Ythgbkncanoknkaa
open Go.RowKit
set_option maxRecDepth 100000
/-- How many bytes records' seals take. -/
def encsP (l : List Rec) : Nat := (l.map fun r => (encR r).length).sum
theorem encsP_snoc (l : List Rec) (r : Rec) : encsP (l ++ [r]) = encsP l + (encR r).length := by simp [encsP]
theorem encR_length (r : Rec) : (encR r).length = 12 + (1 + (putN r.seq.toNat).length + (textP r.key).length + (if r.kind = 1 then textP r.val else []).length) := by
  unfold encR encB
  rw [sealP_length]
  simp only [List.length_append, List.length_singleton]
theorem encR_le {r : Rec} (h : OkR r) : (encR r).length ≤ 4200 := by
  obtain ⟨_, h2, h3, _⟩ := h
  rw [encR_length]
  have h4 := putN_le r.seq.toNat
  have h5 := putN_le r.key.length
  have h6 := putN_le r.val.length
  unfold textP
  split <;> simp only [List.length_append, List.length_nil] <;> omega
theorem encR_ge {r : Rec} (h : OkR r) : 12 + r.key.length + r.val.length ≤ (encR r).length := by
  obtain ⟨_, h2, h3, h4, h5, _⟩ := h
  rw [encR_length]
  rcases h4 with e | e
  · rw [if_pos e]
    unfold textP
    simp only [List.length_append]
    omega
  · rw [if_neg (by omega), h5 e]
    unfold textP
    simp only [List.length_append, List.length_nil]
    omega
theorem encsP_le : ∀ {l : List Rec}, (∀ r ∈ l, OkR r) → encsP l ≤ 4200 * l.length
  | [], _ => by simp [encsP]
  | r :: l, h => by
    have h1 := encsP_le (l := l) fun x hx => h x (by simp [hx])
    have h2 := encR_le (h r (by simp))
    have h3 : encsP (r :: l) = (encR r).length + encsP l := by simp [encsP]
    rw [h3, List.length_cons]
    omega
set_option maxHeartbeats 2000000 in
theorem bytes16_any (v : Value) (l : List Rec) (w : World) (h : Rd w 4 v l.length (rcs l)) (hl : l.length ≤ 100) (hok : ∀ r ∈ l, OkR r) :
    Calls Try.prog 20 #[v] w fun e w' => e = .returned (.int .i64 (encsP l : Int)) ∧ Below w.heap.size w w' := by
  obtain ⟨ao, cap, rfl⟩ := h.shape
  have H0 := Lib.hid (And.intro h hok)
  clear h hok
  go_enter Try.func20, Try.ntmps20
  go_wp2_with fail
  go_loopg [3, 4] l.length (fun m s3 s4 wr => ∃ i : Nat, i + m = l.length ∧ s4 = .int .i64 (i : Int) ∧ ∃ k : Nat, Hid (k = encsP (l.take i)) ∧ k ≤ 4200 * i ∧ s3 = .int .i64 (k : Int) ∧ Hid (Below w.heap.size w wr))
  case atStart => exact ⟨0, by omega, rfl, 0, Lib.hid rfl, by omega, rfl, Lib.hid (Below.refl _ _)⟩
  case round =>
    obtain ⟨i, hi, rfl, k, HK, hk, rfl, HB⟩ := hrel
    cases gk with
    | zero =>
      have hz : ¬ (i : Int) < (l.length : Int) := by omega
      have HE : Hid (k = encsP l) := Lib.hid (by rw [HK.out, List.take_of_length_le (by omega)])
      go_wp2_with fail
      go_ret
      exact ⟨by rw [← HE.out]; rfl, HB.out⟩
    | succ m =>
      have hif : (i : Int) < (l.length : Int) := by omega
      obtain ⟨r, hr⟩ : ∃ r, l[i]? = some r := ⟨_, List.getElem?_eq_getElem (by omega)⟩
      have hok := H0.out.2 r (List.mem_of_getElem? hr)
      have HT : Hid (encsP (l.take (i + 1)) = encsP (l.take i) + (encR r).length) := Lib.hid (by rw [List.take_add_one, hr]; exact encsP_snoc _ _)
      obtain ⟨ad, rfl⟩ := H0.out.1.rec_some hr
      obtain ⟨k0, k1, k2, k3⟩ := (H0.out.1.keep HB.out).rec hr
      have hle := encR_le hok
      have HC := Lib.hid (refenc14_any r wr hok)
      have hwi : IntKind.i64.wrap ((i : Int) + 1) = (i : Int) + 1 := IntWalk.i64_in _ (by omega)
      have HN : Hid (k + (encR r).length = encsP (l.take (i + 1))) := Lib.hid (by rw [HT.out, HK.out])
      generalize encR r = y at HC hle HN
      clear hr hok
      go_wp2_with fail
      refine HC.out.mono ?_
      rintro e w2 ⟨v2, c2, rfl, hr2, hS2⟩
      obtain ⟨ao2, cap2, rfl⟩ := hr2.shape
      have HB2 := Lib.hid (HB.out.trans (hS2.below.mono HB.out.size))
      have hwk : IntKind.i64.wrap ((k : Int) + (y.length : Int)) = (k : Int) + (y.length : Int) := IntWalk.i64_in _ (by omega)
      clear hr2 hS2 HC
      go_wp2_with fail
      go_roundg m
      case measure => omega
      case rel => exact ⟨i + 1, by omega, by go_num, k + y.length, HN, by omega, by go_num, HB2⟩
set_option maxHeartbeats 2000000 in
theorem refeq14_any (a b : Rec) (w : World) : Calls Try.prog 21 #[recV a, recV b] w fun e w' => e = .returned (.bool (recEq a b)) ∧ Below w.heap.size w w' := by
  obtain ⟨k1, s1, y1, v1⟩ := a
  obtain ⟨k2, s2, y2, v2⟩ := b
  have HB := Lib.hid (((St.init w).alloc' (.cells #[.int .i64 k1, .int .i64 s1, .string ⟨y1.toArray⟩, .string ⟨v1.toArray⟩] 26)).alloc' (.cells #[.int .i64 k2, .int .i64 s2, .string ⟨y2.toArray⟩, .string ⟨v2.toArray⟩] 26)).below
  unfold recV
  dsimp only
  have HE : Hid (recEq ⟨k1, s1, y1, v1⟩ ⟨k2, s2, y2, v2⟩ = (k1 == k2 && s1 == s2 && y1 == y2 && v1 == v2)) := Lib.hid rfl
  by_cases q0 : k1 = k2
  · have c0 : (k1 == k2) = true := by simp [q0]
    have HQ0 := Lib.hid c0
    by_cases q1 : s1 = s2
    · have c1 : (s1 == s2) = true := by simp [q1]
      have HQ1 := Lib.hid c1
      by_cases q2 : y1 = y2
      · have c2 : (y1 == y2) = true := by simp [q2]
        have HQ2 := Lib.hid c2
        clear q0 q1 q2
        go_enter Try.func21, Try.ntmps21
        go_wp2_with fail
        go_ret
        exact ⟨by rw [HE.out, HQ0.out, HQ1.out, HQ2.out]; simp, HB.out⟩
      · have c2 : (y1 == y2) = false := beq_eq_false_iff_ne.2 q2
        have HQ2 := Lib.hid c2
        clear q0 q1 q2
        go_enter Try.func21, Try.ntmps21
        go_wp2_with fail
        go_ret
        exact ⟨by rw [HE.out, HQ0.out, HQ1.out, HQ2.out]; rfl, HB.out⟩
    · have c1 : (s1 == s2) = false := beq_eq_false_iff_ne.2 q1
      have HQ1 := Lib.hid c1
      clear q0 q1
      go_enter Try.func21, Try.ntmps21
      go_wp2_with fail
      go_ret
      exact ⟨by rw [HE.out, HQ0.out, HQ1.out]; rfl, HB.out⟩
  · have c0 : (k1 == k2) = false := beq_eq_false_iff_ne.2 q0
    have HQ0 := Lib.hid c0
    clear q0
    go_enter Try.func21, Try.ntmps21
    go_wp2_with fail
    go_ret
    exact ⟨by rw [HE.out, HQ0.out]; rfl, HB.out⟩
/-- A place, or -1. -/
def placeI : Option Nat → Int
  | some i => i
  | none => -1
set_option maxHeartbeats 2000000 in
theorem last16_any (v : Value) (l : List Rec) (key : List UInt8) (w : World) (h : Rd w 4 v l.length (rcs l)) (hl : l.length ≤ 100) :
    Calls Try.prog 22 #[v, .string ⟨key.toArray⟩] w fun e w' => e = .returned (.int .i64 (placeI (lastR l key l.length))) ∧ w = w' := by
  obtain ⟨ao, cap, rfl⟩ := h.shape
  have H0 := Lib.hid h
  clear h
  have hw0 : IntKind.i64.wrap ((l.length : Int) - 1) = (l.length : Int) - 1 := IntWalk.i64_in _ (by omega)
  go_enter Try.func22, Try.ntmps22
  go_wp2_with fail
  go_loopg [5] l.length (fun m s5 wr => m ≤ l.length ∧ s5 = .int .i64 ((m : Int) - 1) ∧ Hid (lastR l key l.length = lastR l key m) ∧ w = wr)
  case atStart => exact ⟨Nat.le_refl _, rfl, Lib.hid rfl, rfl⟩
  case round =>
    obtain ⟨hm, rfl, HL, rfl⟩ := hrel
    cases gk with
    | zero =>
      go_wp2_with fail
      go_ret
      exact ⟨by rw [HL.out]; rfl, rfl⟩
    | succ m =>
      obtain ⟨r, hr⟩ : ∃ r, l[m]? = some r := ⟨_, List.getElem?_eq_getElem (by omega)⟩
      obtain ⟨ad, rfl⟩ := H0.out.rec_some hr
      obtain ⟨_, _, k2, _⟩ := H0.out.rec hr
      have e1 : (((m + 1 : Nat) : Int) - 1) = (m : Int) := by omega
      rw [e1]
      have hm0 : (0 : Int) ≤ (m : Int) := by omega
      have hml : (m : Int) < (l.length : Int) := by omega
      have hwi : IntKind.i64.wrap ((m : Int) - 1) = (m : Int) - 1 := IntWalk.i64_in _ (by omega)
      have HS : Hid (lastR l key (m + 1) = if r.key = key then some m else lastR l key m) := Lib.hid (by rw [lastR, hr])
      clear hr e1
      by_cases q : r.key = key
      · have c : (r.key == key) = true := by simp [q]
        have HF : Hid (lastR l key (m + 1) = some m) := Lib.hid (by rw [HS.out, if_pos q])
        clear q
        go_wp2_with fail
        go_ret
        exact ⟨by rw [HL.out, HF.out]; rfl, rfl⟩
      · have c : (r.key == key) = false := beq_eq_false_iff_ne.2 q
        have HF : Hid (lastR l key (m + 1) = lastR l key m) := Lib.hid (by rw [HS.out, if_neg q])
        clear q
        go_wp2_with fail
        go_roundg m
        case measure => omega
        case rel => exact ⟨by omega, rfl, Lib.hid (HL.out.trans HF.out), rfl⟩
set_option maxHeartbeats 4000000 in
theorem refeqall14_any (v1 v2 : Value) (l : List Rec) (w : World) (h1 : Rd w 4 v1 l.length (rcs l)) (h2 : Rd w 4 v2 l.length (rcs l)) (hl : l.length ≤ 100) :
    Calls Try.prog 24 #[v1, v2] w fun e w' => e = .returned (.bool true) ∧ Below w.heap.size w w' := by
  obtain ⟨ao1, cap1, rfl⟩ := h1.shape
  obtain ⟨ao2, cap2, rfl⟩ := h2.shape
  have H0 := Lib.hid (And.intro h1 h2)
  clear h1 h2
  have q0 : ((l.length : Int) != (l.length : Int)) = false := by simp
  go_enter Try.func24, Try.ntmps24
  go_wp2_with fail
  go_loopg [5] l.length (fun m s5 wr => ∃ i : Nat, i + m = l.length ∧ s5 = .int .i64 (i : Int) ∧ Hid (Below w.heap.size w wr))
  case atStart => exact ⟨0, by omega, rfl, Lib.hid (Below.refl _ _)⟩
  case round =>
    obtain ⟨i, hi, rfl, HB⟩ := hrel
    cases gk with
    | zero =>
      have hz : ¬ (i : Int) < (l.length : Int) := by omega
      go_wp2_with fail
      go_ret
      exact ⟨rfl, HB.out⟩
    | succ m =>
      have hif : (i : Int) < (l.length : Int) := by omega
      have hif2 : (0 : Int) ≤ (i : Int) := by omega
      obtain ⟨r, hr⟩ : ∃ r, l[i]? = some r := ⟨_, List.getElem?_eq_getElem (by omega)⟩
      obtain ⟨ad1, rfl⟩ := H0.out.1.rec_some hr
      obtain ⟨ad2, rfl⟩ := H0.out.2.rec_some hr
      have HCELL : Hid (∀ w' : World, Below w.heap.size w w' → (w'.cell? (ad1.add (i * 4)) = some (.int .i64 r.kind) ∧ w'.cell? ⟨(ad1.add (i * 4)).block, (ad1.add (i * 4)).off + 1, none⟩ = some (.int .i64 r.seq) ∧ w'.cell? ⟨(ad1.add (i * 4)).block, (ad1.add (i * 4)).off + 2, none⟩ = some (.string ⟨r.key.toArray⟩) ∧ w'.cell? ⟨(ad1.add (i * 4)).block, (ad1.add (i * 4)).off + 3, none⟩ = some (.string ⟨r.val.toArray⟩)) ∧
          (w'.cell? (ad2.add (i * 4)) = some (.int .i64 r.kind) ∧ w'.cell? ⟨(ad2.add (i * 4)).block, (ad2.add (i * 4)).off + 1, none⟩ = some (.int .i64 r.seq) ∧ w'.cell? ⟨(ad2.add (i * 4)).block, (ad2.add (i * 4)).off + 2, none⟩ = some (.string ⟨r.key.toArray⟩) ∧ w'.cell? ⟨(ad2.add (i * 4)).block, (ad2.add (i * 4)).off + 3, none⟩ = some (.string ⟨r.val.toArray⟩))) := Lib.hid fun w' hw => ⟨(H0.out.1.keep hw).rec hr, (H0.out.2.keep hw).rec hr⟩
      have HR : Hid (recEq r r = true) := Lib.hid (recEq_iff.2 rfl)
      have hwi : IntKind.i64.wrap ((i : Int) + 1) = (i : Int) + 1 := IntWalk.i64_in _ (by omega)
      clear hr
      go_wp2_with fail
      refine wp_region_held_drew (S := fun w' => Below w.heap.size w w') mixed HB.out.drew (fun hSS => ?_)
      refine take_d (i := 0) 17 (.slice (some ad1) l.length cap1) rfl rfl (by kernel_rfl) (by kernel_rfl) (by kernel_rfl) (fun _ _ _ h => h) (Or.inl ⟨by rfl, ?_⟩) hSS ?_
      (focus (intro w' hw'; have hb1 := HCELL.out w' hw'; obtain ⟨⟨b1, b2, b3, b4⟩, b5, b6, b7, b8⟩ := hb1; first | (go_simp; done) | (go_simp; simp [*]; done)))
      simp only [Act.put, List.setIfInBounds_toArray, List.set_cons_zero, List.set_cons_succ]
      refine take_d (i := 1) 18 (.int .i64 (i : Int)) rfl rfl (by kernel_rfl) (by kernel_rfl) (by kernel_rfl) (fun _ _ _ h => h) (Or.inl ⟨by rfl, ?_⟩) hSS ?_
      (focus (intro w' hw'; have hb1 := HCELL.out w' hw'; obtain ⟨⟨b1, b2, b3, b4⟩, b5, b6, b7, b8⟩ := hb1; first | (go_simp; done) | (go_simp; simp [*]; done)))
      simp only [Act.put, List.setIfInBounds_toArray, List.set_cons_zero, List.set_cons_succ]
      refine take_d (i := 2) 19 (.pointer (some (ad1.add (i * 4)))) rfl rfl (by kernel_rfl) (by kernel_rfl) (by kernel_rfl) (fun _ _ _ h => h) (Or.inl ⟨by rfl, ?_⟩) hSS ?_
      (focus (intro w' hw'; have hb1 := HCELL.out w' hw'; obtain ⟨⟨b1, b2, b3, b4⟩, b5, b6, b7, b8⟩ := hb1; first | (go_simp; done) | (go_simp; simp [*]; done)))
      simp only [Act.put, List.setIfInBounds_toArray, List.set_cons_zero, List.set_cons_succ]
      refine take_d (i := 3) 20 (.agg #[.int .i64 r.kind, .int .i64 r.seq, .string ⟨r.key.toArray⟩, .string ⟨r.val.toArray⟩]) rfl rfl (by kernel_rfl) (by kernel_rfl) (by kernel_rfl) (fun _ _ _ h => h) (Or.inl ⟨by rfl, ?_⟩) hSS ?_
      (focus (intro w' hw'; have hb1 := HCELL.out w' hw'; obtain ⟨⟨b1, b2, b3, b4⟩, b5, b6, b7, b8⟩ := hb1; first | (go_simp; done) | (go_simp; simp [*]; done)))
      simp only [Act.put, List.setIfInBounds_toArray, List.set_cons_zero, List.set_cons_succ]
      refine take_d (i := 4) 21 (.slice (some ad2) l.length cap2) rfl rfl (by kernel_rfl) (by kernel_rfl) (by kernel_rfl) (fun _ _ _ h => h) (Or.inl ⟨by rfl, ?_⟩) hSS ?_
      (focus (intro w' hw'; have hb1 := HCELL.out w' hw'; obtain ⟨⟨b1, b2, b3, b4⟩, b5, b6, b7, b8⟩ := hb1; first | (go_simp; done) | (go_simp; simp [*]; done)))
      simp only [Act.put, List.setIfInBounds_toArray, List.set_cons_zero, List.set_cons_succ]
      refine take_d (i := 5) 22 (.int .i64 (i : Int)) rfl rfl (by kernel_rfl) (by kernel_rfl) (by kernel_rfl) (fun _ _ _ h => h) (Or.inl ⟨by rfl, ?_⟩) hSS ?_
      (focus (intro w' hw'; have hb1 := HCELL.out w' hw'; obtain ⟨⟨b1, b2, b3, b4⟩, b5, b6, b7, b8⟩ := hb1; first | (go_simp; done) | (go_simp; simp [*]; done)))
      simp only [Act.put, List.setIfInBounds_toArray, List.set_cons_zero, List.set_cons_succ]
      refine take_d (i := 6) 23 (.pointer (some (ad2.add (i * 4)))) rfl rfl (by kernel_rfl) (by kernel_rfl) (by kernel_rfl) (fun _ _ _ h => h) (Or.inl ⟨by rfl, ?_⟩) hSS ?_
      (focus (intro w' hw'; have hb1 := HCELL.out w' hw'; obtain ⟨⟨b1, b2, b3, b4⟩, b5, b6, b7, b8⟩ := hb1; first | (go_simp; done) | (go_simp; simp [*]; done)))
      simp only [Act.put, List.setIfInBounds_toArray, List.set_cons_zero, List.set_cons_succ]
      refine take_d (i := 7) 24 (.agg #[.int .i64 r.kind, .int .i64 r.seq, .string ⟨r.key.toArray⟩, .string ⟨r.val.toArray⟩]) rfl rfl (by kernel_rfl) (by kernel_rfl) (by kernel_rfl) (fun _ _ _ h => h) (Or.inl ⟨by rfl, ?_⟩) hSS ?_
      (focus (intro w' hw'; have hb1 := HCELL.out w' hw'; obtain ⟨⟨b1, b2, b3, b4⟩, b5, b6, b7, b8⟩ := hb1; first | (go_simp; done) | (go_simp; simp [*]; done)))
      simp only [Act.put, List.setIfInBounds_toArray, List.set_cons_zero, List.set_cons_succ]
      refine wpAnyH_ready (rs := [8]) (by kernel_rfl) (by simp) (AllReadyH.cons rfl (fun K1 hK1 => ?_) AllReadyH.nil)
      rw [if_pos (by rfl)]
      go_simp
      refine (refeq14_any r r wr.drew).mono ?_
      rintro e w2 ⟨rfl, hb2⟩
      rw [HR.out]
      have HB2 : Hid (Below w.heap.size w w2) := Lib.hid (HB.out.drew.trans (hb2.mono HB.out.size))
      clear hb2
      refine hK1.out _ _ HB2.out (fun hSS => ?_)
      try simp only [Act.put, List.setIfInBounds_toArray, List.set_cons_zero, List.set_cons_succ]
      refine wpAnyH_ready (rs := [9]) (by kernel_rfl) (by simp) (AllReadyH.cons rfl (fun K2 hK2 => ?_) AllReadyH.nil)
      rw [if_pos (by rfl)]
      go_simp
      refine hK2.out _ _ hSS (fun _ => ?_)
      refine wpAnyH_done (by kernel_rfl) ?_ _
      clear hSS
      go_wp2_with fail
      go_roundg m
      case measure => omega
      case rel => exact ⟨i + 1, by omega, by go_num, HB2⟩
/-- Good records. -/
def GoodOut (n : Nat) (w : World) (e : Ending) (w' : World) : Prop :=
  ∃ (l : List Rec) (v : Value) (c : List (Nat × Obj)), l.length ≤ n ∧ (∀ r ∈ l, OkR r ∧ r.val.length ≤ 300) ∧ e = .returned v ∧ RowC 26 4 v l.length (rcs l) c ∧ St w.heap.size w w' [c]
set_option maxHeartbeats 4000000 in
theorem good14_any (v : Value) (os : List Rec) (n : Nat) (w : World) (h : Rd w 4 v os.length (rcs os)) (hwf : ∀ o ∈ os, WfR o) (hsz : os.length ≤ 2932031007402) (hn : n ≤ 100) :
    Calls Try.prog 19 #[v, .int .i64 (n : Int)] w (GoodOut n w) := by
  obtain ⟨i0, i0a, i0b, i0c, i0d⟩ := info_parts infoRC
  obtain ⟨ao, cap, rfl⟩ := h.shape
  have H0 := Lib.hid (And.intro h hwf)
  have HS0 := Lib.hid (St.init w).one_nil
  clear h hwf
  go_enter Try.func19, Try.ntmps19
  go_wp2_with fail
  go_loopg [5, 6] os.length (fun m s5 s6 wr => ∃ (i : Nat) (rs : List Rec) (c : List (Nat × Obj)), i + m = os.length ∧ s6 = .int .i64 (i : Int) ∧ rs.length ≤ n ∧ Hid (∀ r ∈ rs, OkR r ∧ r.val.length ≤ 300) ∧ RowC 26 4 s5 rs.length (rcs rs) c ∧ St w.heap.size w wr [c])
  case atStart => exact ⟨0, [], [], by omega, rfl, Nat.zero_le _, Lib.hid (fun r h => by cases h), RowC.nil _ _, HS0.out⟩
  case round =>
    obtain ⟨i, rs, c, hi, rfl, hrn, HRS, hr, hS⟩ := hrel
    obtain ⟨ao5, cap5, rfl⟩ := hr.shape
    have HR := Lib.hid (And.intro hr hS)
    clear hr hS
    by_cases q1 : i < os.length
    · by_cases q2 : rs.length < n
      · obtain ⟨m, rfl⟩ : ∃ m, gk = m + 1 := ⟨gk - 1, by omega⟩
        have q1i : (i : Int) < (os.length : Int) := by omega
        have q2i : (rs.length : Int) < (n : Int) := by omega
        obtain ⟨r, hrr⟩ : ∃ r, os[i]? = some r := ⟨_, List.getElem?_eq_getElem (by omega)⟩
        obtain ⟨ad, rfl⟩ := H0.out.1.rec_some hrr
        obtain ⟨k0, k1, k2, k3⟩ := (H0.out.1.st HR.out.2).rec hrr
        obtain ⟨hw1, hw2, _, _⟩ := H0.out.2 r (List.mem_of_getElem? hrr)
        have hwi : IntKind.i64.wrap ((i : Int) + 1) = (i : Int) + 1 := IntWalk.i64_in _ (by omega)
        have HCC := Lib.hid (cut14_any r wr hw1 hw2)
        clear hrr hw1 hw2 q1 q2
        go_wp2_with fail
        refine HCC.out.mono ?_
        rintro e w2 ⟨rfl, hb⟩
        have HV : Hid ((cutR r).val.length ≤ 300) := Lib.hid (by show (r.val.take 300).length ≤ 300; rw [List.length_take]; omega)
        generalize cutR r = q at HV ⊢
        unfold recV
        have hS3 := (HR.out.2.mono hb).alloc (.cells #[.int .i64 q.kind, .int .i64 q.seq, .string ⟨q.key.toArray⟩, .string ⟨q.val.toArray⟩] 26 (0, 0))
        have HS3 := Lib.hid hS3
        have HCK := Lib.hid (refcheck14_any q (w2.alloc (.cells #[.int .i64 q.kind, .int .i64 q.seq, .string ⟨q.key.toArray⟩, .string ⟨q.val.toArray⟩] 26 (0, 0))))
        unfold recV at HCK
        clear hb k0 k1 k2 k3 HCC
        go_wp2_with fail
        refine HCK.out.mono ?_
        rintro e w4 ⟨rfl, o, rfl⟩
        by_cases qc : ckR q = 0
        · have qci : ((ckR q : Int) == 0) = true := by rw [qc]; rfl
          have HOK := Lib.hid (ck_ok.1 qc)
          have HS4 := Lib.hid (HS3.out.alloc' o)
          obtain ⟨g, HG⟩ : ∃ g, Hid (g = w2.heap.size) := ⟨_, Lib.hid rfl⟩
          rw [← HG.out] at HS4 ⊢
          generalize (w2.alloc (.cells #[.int .i64 q.kind, .int .i64 q.seq, .string ⟨q.key.toArray⟩, .string ⟨q.val.toArray⟩] 26 (0, 0))).alloc o = w4 at HS4 ⊢
          obtain ⟨k0, k1, k2, k3⟩ := recO_cells HS4.out 0 rfl
          have hS5 := HS4.out.alloc' (.cells #[.int .i64 q.kind, .int .i64 q.seq, .string ⟨q.key.toArray⟩, .string ⟨q.val.toArray⟩] 26 (0, 0))
          have hr5 := HR.out.1
          have hn5 : Rd (w4.alloc (.cells #[.int .i64 q.kind, .int .i64 q.seq, .string ⟨q.key.toArray⟩, .string ⟨q.val.toArray⟩] 26 (0, 0))) 4 (.slice (some ⟨w4.heap.size, 0, none⟩) 1 1) 1 (recC q) := Rd.litsN 4 w4 #[.int .i64 q.kind, .int .i64 q.seq, .string ⟨q.key.toArray⟩, .string ⟨q.val.toArray⟩] 26 (by decide) rfl (by decide)
          clear qc HS3 HCK
          go_wp2_with ((at_builtin; (refine wpList_app 1 22 i0 (.agg #[.int .i64 0, .int .i64 0, .string ⟨#[]⟩, .string ⟨#[]⟩]) _ _ rfl rfl rfl rfl Try.underlying22 i0a i0b i0c i0d rfl (by decide) hS5 rfl hr5 hn5 (recC_one q) ?_ ?_ ?_); (unfold maxLen; omega); omega; intro v5 c5 w5 hr6 hS6))
          go_roundg m
          case measure => omega
          case rel =>
            rw [rcs_snoc] at hr6
            exact ⟨i + 1, rs ++ [q], c5, by omega, by go_num, by rw [List.length_append, List.length_singleton]; omega, Lib.hid (fun r' hr' => by
              rcases List.mem_append.1 hr' with h1 | h1
              · exact HRS.out r' h1
              · rw [List.mem_singleton] at h1; rw [h1]; exact ⟨HOK.out, HV.out⟩), by rw [List.length_append]; exact hr6, hS6.pick [1] (by decide) _ rfl⟩
        · have qci : ((ckR q : Int) == 0) = false := by rw [beq_eq_false_iff_ne]; omega
          clear qc
          go_wp2_with fail
          go_roundg m
          case measure => omega
          case rel => exact ⟨i + 1, rs, c, by omega, by go_num, hrn, HRS, HR.out.1, (HS3.out.alloc' o).pick [1] (by decide) _ rfl⟩
      · have q1i : (i : Int) < (os.length : Int) := by omega
        have q2i : ¬ (rs.length : Int) < (n : Int) := by omega
        clear q1 q2
        go_wp2_with fail
        go_ret
        exact ⟨rs, _, c, hrn, HRS.out, rfl, HR.out.1, HR.out.2⟩
    · have q1i : ¬ (i : Int) < (os.length : Int) := by omega
      clear q1
      go_wp2_with fail
      go_ret
      exact ⟨rs, _, c, hrn, HRS.out, rfl, HR.out.1, HR.out.2⟩
end Go.Proofs.Ythgbkncanoknkaa

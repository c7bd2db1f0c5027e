/-
  The walk of SealedAll.
-/
import Derived.Test.YthgbkncanoknkaaSegAll
import Derived.Test.YthgbkncanoknkaaPureTw
import Derived.Test.YthgbkncanoknkaaHeldM
import Derived.Test.YthgbkncanoknkaaSg12
set_option linter.unusedVariables false
set_option linter.unusedSimpArgs false
namespace Go.Proofs.Ythgbkncanoknkaa
open Go.RowKit
set_option maxRecDepth 100000
theorem encsP_ge : ∀ {l : List Rec}, (∀ r ∈ l, OkR r) → 12 * l.length + (l.map fun r => r.key.length).sum + (valsP l).length ≤ encsP l
  | [], _ => by simp [encsP, valsP]
  | r :: l, h => by
    have h1 := encsP_ge (l := l) fun x hx => h x (by simp [hx])
    have h2 := encR_ge (h r (by simp))
    have h3 : encsP (r :: l) = (encR r).length + encsP l := by simp [encsP]
    have h4 : valsP (r :: l) = r.val ++ valsP l := by simp [valsP]
    rw [h3, h4, List.length_append, List.length_cons, List.map_cons, List.sum_cons]
    omega
theorem putN_128 {n : Nat} (h : n < 128) : (putN n).length = 1 := by
  unfold putN putF
  rw [if_neg (by omega)]
  rfl
theorem dirI_len : ∀ {l : List Rec}, (∀ r ∈ l, OkR r) → (l.flatMap entP).length ≤ 22 * l.length + (l.map fun r => r.key.length).sum
  | [], _ => by simp
  | r :: l, h => by
    have h1 := dirI_len (l := l) fun x hx => h x (by simp [hx])
    obtain ⟨_, h2, h3, _⟩ := h r (by simp)
    have h4 := putN_le r.seq.toNat
    have h5 := putN_128 (n := r.key.length) (by omega)
    have h6 := putN_le r.val.length
    have h7 : (entP r).length = 1 + (putN r.seq.toNat).length + ((putN r.key.length).length + r.key.length) + (putN r.val.length).length := by
      unfold entP textP
      simp only [List.length_append, List.length_singleton]
    rw [List.flatMap_cons, List.length_append, List.length_cons, List.map_cons, List.sum_cons]
    omega
theorem seal_size {l : List Rec} {y : List UInt8} (h : SealR l y) (hok : ∀ r ∈ l, OkR r) (hl : l.length ≤ 25) (hv : (valsP l).length ≤ 300 * l.length + 3000) : y.length ≤ encsP l + 40 * l.length + 200 := by
  obtain ⟨pk, hp, rfl⟩ := h
  have h1 := hp.size
  have h2 := encsP_ge hok
  have h3 := dirI_len hok
  have h4 := putN_128 (n := l.length) (by omega)
  rw [List.length_append, sealP_length]
  unfold dirI
  rw [List.length_append]
  omega
theorem GotR.all {l : List Rec} {pk : List UInt8} {rs : List Rec} (h : GotR (l.map entOf) pk l.length rs) (hp : PackR (valsP l) pk) (hok : ∀ r ∈ l, OkR r) (hv : (valsP l).length ≤ 100000) : rs = l := by
  obtain ⟨h1, h2⟩ := h
  apply List.ext_getElem?
  intro i
  by_cases hi : i < l.length
  · obtain ⟨r, hr⟩ : ∃ r, l[i]? = some r := ⟨_, List.getElem?_eq_getElem hi⟩
    obtain ⟨val, h3, h4⟩ := h2 i (entOf r) hi (by rw [List.getElem?_map, hr]; rfl)
    rw [h4, hr, (val_of hp hv hr).1 h3, recE_of (hok r (List.mem_of_getElem? hr))]
  · rw [List.getElem?_eq_none (by omega), List.getElem?_eq_none (by omega)]
theorem sall_seal (p : Nat) (l : List Rec) (pk : List UInt8) (w : World) (h : SegIn w p (l.map entOf) pk) (hp : PackR (valsP l) pk) (hok : ∀ r ∈ l, OkR r) (hl : l.length ≤ 100) (hv : (valsP l).length ≤ 100000) :
    Calls Try.prog 23 #[.pointer (some ⟨p, 0, none⟩)] w fun e w' => ∃ v c, e = .returned (.tuple #[v, .int .i64 0]) ∧ RowC 26 4 v l.length (rcs l) c ∧ St w.heap.size w w' [c] := by
  have h1 := hp.size
  obtain ⟨h2, h3⟩ := sealed_sizes hok hv
  refine (sall_any p _ pk w h (by rw [List.length_map]; omega) (by omega) h2 h3).mono ?_
  rintro e w' (⟨rs, v, c, hg, rfl, hr, hS⟩ | ⟨⟨i, E, hE, hno⟩, _⟩)
  · rw [List.length_map] at hg
    obtain rfl := hg.all hp hok hv
    exact ⟨v, c, rfl, hr, hS⟩
  · exfalso
    rw [List.getElem?_map] at hE
    cases hr : l[i]? with
    | none => rw [hr] at hE; cases hE
    | some r =>
      rw [hr] at hE
      obtain rfl : entOf r = E := by simpa using hE
      exact hno ⟨_, (val_of hp hv hr).2 rfl⟩
/-- A key that stands in a list is found. -/
theorem lastR_some {l : List Rec} {i : Nat} {r : Rec} (hr : l[i]? = some r) : ∃ j, lastR l r.key l.length = some j ∧ j < l.length := by
  cases h : lastR l r.key l.length with
  | none =>
    have key : ∀ n, lastR l r.key n = none → i < n → False := by
      intro n
      induction n with
      | zero => intro _ h; omega
      | succ n ih =>
        intro h hi
        rw [lastR] at h
        by_cases e : i = n
        · subst e
          rw [hr] at h
          simp at h
        · refine ih ?_ (by omega)
          split at h
          · split at h
            · cases h
            · exact h
          · exact h
    exact (key _ h (List.getElem?_eq_some_iff.1 hr).1).elim
  | some j => exact ⟨j, rfl, (lastR_lt h).1⟩
/-- The first one's value is another one. -/
def setV (l : List Rec) (z : List UInt8) : List Rec := match l with
  | [] => []
  | r :: l => ⟨r.kind, r.seq, r.key, z⟩ :: l
theorem rcs_setV {l : List Rec} (z : List UInt8) (h : 0 < l.length) : (rcs l).set 3 (.string ⟨z.toArray⟩) = rcs (setV l z) := by
  cases l with
  | nil => simp at h
  | cons r l => rfl
theorem setV_length (l : List Rec) (z : List UInt8) : (setV l z).length = l.length := by cases l <;> rfl
theorem setV_ok {l : List Rec} {z : List UInt8} {r : Rec} (hok : ∀ r ∈ l, OkR r) (hr : l[0]? = some r) (hk : r.kind = 1) (hz : z.length ≤ 4000) : ∀ r ∈ setV l z, OkR r := by
  cases l with
  | nil => simp at hr
  | cons x l =>
    simp only [List.getElem?_cons_zero, Option.some.injEq] at hr
    subst hr
    intro r hr
    rcases List.mem_cons.1 hr with rfl | hr
    · obtain ⟨h1, h2, h3, h4, h5, h6, h7⟩ := hok x (by simp)
      exact ⟨h1, h2, hz, .inl hk, fun e => absurd (hk.symm.trans e) (by decide), h6, h7⟩
    · exact hok r (by simp [hr])
theorem setV_vals {l : List Rec} {z : List UInt8} (hv : ∀ r ∈ l, r.val.length ≤ 300) (hz : z.length ≤ 3000) : (valsP (setV l z)).length ≤ 300 * l.length + 3000 := by
  cases l with
  | nil => simp [setV, valsP]
  | cons x l =>
    have h1 : ∀ {l : List Rec}, (∀ r ∈ l, r.val.length ≤ 300) → (valsP l).length ≤ 300 * l.length := by
      intro l
      induction l with
      | nil => intro _; simp [valsP]
      | cons y l ih =>
        intro h
        have h2 := ih fun r hr => h r (by simp [hr])
        have h3 := h y (by simp)
        have h4 : valsP (y :: l) = y.val ++ valsP l := by simp [valsP]
        rw [h4, List.length_append, List.length_cons]
        omega
    have h2 := h1 (l := l) fun r hr => hv r (by simp [hr])
    have h4 : valsP (setV (x :: l) z) = z ++ valsP l := by simp [valsP, setV]
    rw [h4, List.length_append, List.length_cons]
    omega
set_option maxHeartbeats 8000000 in
theorem SealedAll_walk (w : World) (v : Value) (n0 : Nat) (os : List Rec) (h : Rd w 4 v n0 (rcs os) ∧ os.length = n0 ∧ ∀ o ∈ os, WfR o) (sz : n0 * 48 ≤ 140737488351232)
    (key : ByteArray) (sk : key.size ≤ 140737488351232) (more : Int) (wm : (Lit.int .i64 more).wf = true) :
    Calls Try.prog 7 #[v, .string key, .int .i64 more] w fun e w' => e = .returned (.bool true) ∧ Below w.heap.size w w' := by
  obtain ⟨i0, i0a, i0b, i0c, i0d⟩ := info_parts infoRC
  obtain ⟨i8, i8a, i8b, i8c, i8d⟩ := info_parts infoU8
  obtain ⟨hrd, rfl, hwf⟩ := h
  obtain ⟨ks, rfl⟩ : ∃ ks : List UInt8, key = ⟨ks.toArray⟩ := ⟨key.data.toList, by simp⟩
  clear sk
  go_enter Try.func7, Try.ntmps7
  go_wp2_with fail
  refine (begun16_any _).mono ?_
  rintro e w1 ⟨rfl, hb⟩
  have hr := hrd.keep hb
  have HB := Lib.hid hb
  have HG := Lib.hid (good14_any v os 25 w1 hr hwf (by omega) (by omega))
  clear hrd hb hr hwf sz
  go_wp2_with fail
  refine HG.out.mono ?_
  rintro e w2 ⟨l, v2, c2, hl, hlok, rfl, hr2, hS2⟩
  obtain ⟨ao2, cap2, rfl⟩ := hr2.shape
  obtain ⟨n, HNL⟩ : ∃ n, Hid (l.length = n) := ⟨_, Lib.hid rfl⟩
  rw [HNL.out] at hl hr2 ⊢
  have HL := Lib.hid (And.intro hlok (And.intro hr2 hS2))
  have HB2 := Lib.hid (HB.out.trans (hS2.below.mono HB.out.size))
  clear hlok hr2 hS2 HG
  rcases (show (0 < more ∧ more < 3000 ∧ ¬ (0 : Int) < (n : Int)) ∨ ¬ 0 < more ∨ (0 < more ∧ ¬ more < 3000) ∨ (0 < more ∧ more < 3000 ∧ 0 < n) by omega) with ⟨q1, q2, q3⟩ | q1 | ⟨q1, q2⟩ | ⟨q1, q2, q3⟩
  · skip
    skip
    have HA : Hid (Rd w2 4 (.slice ao2 n cap2) n (rcs l) ∧ l.length = n ∧ (∀ r ∈ l, OkR r) ∧ (valsP l).length ≤ 300 * n + 3000) := Lib.hid ⟨HL.out.2.1.rd HL.out.2.2 0 rfl, HNL.out, fun r hr => (HL.out.1 r hr).1, by
      have h1 := vals_small (l := l) (k := 300) fun r hr => (HL.out.1 r hr).2
      rw [HNL.out] at h1
      omega⟩
    have HW := Lib.hid HB2.out
    obtain ⟨w3, hw3⟩ : ∃ w3, w3 = w2 := ⟨_, rfl⟩
    subst hw3
    clear HL HNL HB2
    obtain ⟨cap5, hc5⟩ : ∃ x, x = cap2 := ⟨_, rfl⟩
    subst hc5
    obtain ⟨l3, hl3⟩ : ∃ x, x = l := ⟨_, rfl⟩
    subst hl3
    go_wp2_with fail
    clear q1 q2
    skip
    refine (build_ok _ l3 w3 (by have := HA.out.1; rwa [← HA.out.2.1] at this ⊢) (by have := HA.out.2.1; omega) (by have := HA.out.2.2.2; omega) HA.out.2.2.1).mono ?_
    rintro e w4 ⟨y, v4, c4, rfl, hr4, hseal, hS4⟩
    obtain ⟨ao4, cap4, rfl⟩ := hr4.shape
    have HSZ : Hid (y.length ≤ encsP l3 + 40 * n + 200) := Lib.hid (by
      have h1 := seal_size hseal HA.out.2.2.1 (by have := HA.out.2.1; omega) (by rw [HA.out.2.1]; exact HA.out.2.2.2)
      rwa [HA.out.2.1] at h1)
    have H4 := Lib.hid (And.intro (hr4.rd hS4 0 rfl) (And.intro hseal (HW.out.trans (hS4.below.mono HW.out.size))))
    have HA4 := Lib.hid (HA.out.1.keep hS4.below)
    clear hr4 hseal hS4
    go_wp2_with fail
    refine (sopen_seal _ l3 y w4 H4.out.1 H4.out.2.1 HA.out.2.2.1 (by have := HA.out.2.1; omega) (by have := HA.out.2.2.2; omega)).mono ?_
    rintro e w5 ⟨p, pk, rfl, hp, hin, hb5⟩
    have H5 := Lib.hid (And.intro hp (And.intro hin (H4.out.2.2.trans (hb5.mono H4.out.2.2.size))))
    have HA5 := Lib.hid (HA4.out.keep hb5)
    clear hp hin hb5
    go_wp2_with fail
    refine (slen_seal p l3 pk w5 H5.out.2.1).mono ?_
    rintro e w6 ⟨rfl, rfl⟩
    rw [HA.out.2.1]
    go_wp2_with fail
    refine (bytes16_any _ l3 w5 (by have := HA5.out; rwa [← HA.out.2.1] at this ⊢) (by have := HA.out.2.1; omega) HA.out.2.2.1).mono ?_
    rintro e w6 ⟨rfl, hb6⟩
    have HEN : Hid (encsP l3 ≤ 105000) := Lib.hid (by have h1 := encsP_le HA.out.2.2.1; rw [HA.out.2.1] at h1; omega)
    have H6 := Lib.hid (And.intro H5.out.1 (And.intro (H5.out.2.1.keep hb6) (And.intro (H5.out.2.2.trans (hb6.mono H5.out.2.2.size)) (HA5.out.keep hb6))))
    generalize encsP l3 = E at HSZ HEN ⊢
    have hw1 : IntKind.i64.wrap (40 * (n : Int)) = 40 * (n : Int) := IntWalk.i64_in _ (by omega)
    have hw2 : IntKind.i64.wrap ((E : Int) + 40 * (n : Int)) = (E : Int) + 40 * (n : Int) := IntWalk.i64_in _ (by have := HEN.out; omega)
    have hw3 : IntKind.i64.wrap ((E : Int) + 40 * (n : Int) + 200) = (E : Int) + 40 * (n : Int) + 200 := IntWalk.i64_in _ (by have := HEN.out; omega)
    have hq3 : ¬ (E : Int) + 40 * (n : Int) + 200 < (y.length : Int) := by have := HSZ.out; omega
    clear hb6 HA4 HA5 H4 H5
    go_wp2_with fail
    go_loopg [12] n (fun m s12 wr => ∃ i : Nat, i + m = n ∧ s12 = .int .i64 (i : Int) ∧ Hid (Below w6.heap.size w6 wr))
    case atStart => exact ⟨0, by omega, rfl, Lib.hid (Below.refl _ _)⟩
    case round =>
      obtain ⟨i, hi, rfl, HBR⟩ := hrel
      clear hw1 hw2 hw3 hq3
      cases gk with
      | zero =>
        have hz : ¬ (i : Int) < (n : Int) := by omega
        have HIN := Lib.hid (H6.out.2.1.keep HBR.out)
        have HRD := Lib.hid (H6.out.2.2.2.keep HBR.out)
        have HBT := Lib.hid (H6.out.2.2.1.trans (HBR.out.mono H6.out.2.2.1.size))
        clear hi
        go_wp2_with fail
        refine (sall_seal p l3 pk wr HIN.out H6.out.1 HA.out.2.2.1 (by have := HA.out.2.1; omega) (by have := HA.out.2.2.2; omega)).mono ?_
        rintro e wa ⟨va, ca, rfl, hra, hSa⟩
        obtain ⟨aoa, capa, rfl⟩ := hra.shape
        have HRA := Lib.hid (hra.rd hSa 0 rfl)
        have HIN := Lib.hid (HIN.out.keep hSa.below)
        have HRD := Lib.hid (HRD.out.keep hSa.below)
        have HBT := Lib.hid (HBT.out.trans (hSa.below.mono HBT.out.size))
        clear hra hSa
        go_wp2_with fail
        refine (sfind_seal p l3 pk ks wa HIN.out (by have := HA.out.2.1; omega)).mono ?_
        rintro e wb ⟨hf, rfl⟩
        have HLS := Lib.hid (last16_any (.slice ao2 n cap5) l3 ks wa (by have := HRD.out; rwa [← HA.out.2.1] at this ⊢) (by have := HA.out.2.1; omega))
        have HEQ := Lib.hid (refeqall14_any (.slice aoa l3.length capa) (.slice ao2 n cap5) l3 wa HRA.out (by have := HRD.out; rwa [← HA.out.2.1] at this ⊢) (by have := HA.out.2.1; omega))
        obtain ⟨hno, rfl⟩ | ⟨j, hj, rfl⟩ := hf
        · rw [hno] at HLS
          go_wp2_with fail
          refine HLS.out.mono ?_
          rintro e wc ⟨rfl, rfl⟩
          rw [show placeI none = -1 from rfl]
          clear hno
          go_wp2_with fail
          refine HEQ.out.mono ?_
          rintro e wc ⟨rfl, hbc⟩
          go_wp2_with fail
          go_ret
          exact ⟨rfl, HBT.out.trans (hbc.mono HBT.out.size)⟩
        · rw [hj] at HLS
          have hj0 : (0 : Int) ≤ (j : Int) := by omega
          have hj1 : decide ((0 : Int) ≤ (j : Int)) = true := decide_eq_true hj0
          have hj2 : ((j : Int) == (j : Int)) = true := by simp
          go_wp2_with fail
          refine HLS.out.mono ?_
          rintro e wc ⟨rfl, rfl⟩
          rw [show placeI (some j) = (j : Int) from rfl]
          clear hj
          go_wp2_with fail
          refine HEQ.out.mono ?_
          rintro e wc ⟨rfl, hbc⟩
          go_wp2_with fail
          go_ret
          exact ⟨rfl, HBT.out.trans (hbc.mono HBT.out.size)⟩
      | succ m =>
        exfalso
        omega
  case' inr.inl =>
    skip
    have HA : Hid (Rd w2 4 (.slice ao2 n cap2) n (rcs l) ∧ l.length = n ∧ (∀ r ∈ l, OkR r) ∧ (valsP l).length ≤ 300 * n + 3000) := Lib.hid ⟨HL.out.2.1.rd HL.out.2.2 0 rfl, HNL.out, fun r hr => (HL.out.1 r hr).1, by
      have h1 := vals_small (l := l) (k := 300) fun r hr => (HL.out.1 r hr).2
      rw [HNL.out] at h1
      omega⟩
    have HW := Lib.hid HB2.out
    obtain ⟨w3, hw3⟩ : ∃ w3, w3 = w2 := ⟨_, rfl⟩
    subst hw3
    clear HL HNL HB2
    obtain ⟨cap5, hc5⟩ : ∃ x, x = cap2 := ⟨_, rfl⟩
    subst hc5
    obtain ⟨l3, hl3⟩ : ∃ x, x = l := ⟨_, rfl⟩
    subst hl3
    go_wp2_with fail
    obtain ⟨aoX, hao⟩ : ∃ x, x = ao2 := ⟨_, rfl⟩
    subst hao
  case' inr.inr.inl =>
    skip
    have HA : Hid (Rd w2 4 (.slice ao2 n cap2) n (rcs l) ∧ l.length = n ∧ (∀ r ∈ l, OkR r) ∧ (valsP l).length ≤ 300 * n + 3000) := Lib.hid ⟨HL.out.2.1.rd HL.out.2.2 0 rfl, HNL.out, fun r hr => (HL.out.1 r hr).1, by
      have h1 := vals_small (l := l) (k := 300) fun r hr => (HL.out.1 r hr).2
      rw [HNL.out] at h1
      omega⟩
    have HW := Lib.hid HB2.out
    obtain ⟨w3, hw3⟩ : ∃ w3, w3 = w2 := ⟨_, rfl⟩
    subst hw3
    clear HL HNL HB2
    obtain ⟨cap5, hc5⟩ : ∃ x, x = cap2 := ⟨_, rfl⟩
    subst hc5
    obtain ⟨l3, hl3⟩ : ∃ x, x = l := ⟨_, rfl⟩
    subst hl3
    go_wp2_with fail
    obtain ⟨aoX, hao⟩ : ∃ x, x = ao2 := ⟨_, rfl⟩
    subst hao
  case' inr.inr.inr =>
    have q3i : (0 : Int) < (n : Int) := by omega
    obtain ⟨M, rfl⟩ := Int.eq_ofNat_of_zero_le (show 0 ≤ more by omega)
    obtain ⟨r, hr0⟩ : ∃ r, l[0]? = some r := ⟨_, List.getElem?_eq_getElem (by have := HNL.out; omega)⟩
    obtain ⟨g2, rfl⟩ := HL.out.2.1.head q3
    have k0 : w2.cell? ⟨g2, 0, none⟩ = some (.int .i64 r.kind) := HL.out.2.1.cellAt HL.out.2.2 0 rfl (rcs_get l 0 0 r hr0 (by omega))
    by_cases qk : r.kind = 1
    case' pos =>
      have qki : (r.kind == 1) = true := by rw [qk]; rfl
      have HK := Lib.hid (And.intro hr0 qk)
      have hS3 := HL.out.2.2.one_nil
      have hr30 : RowC 26 4 (.slice none 0 0) 0 [] [] := RowC.nil _ _
      have hrd3 := HL.out.2.1.rd hS3 1 rfl
      have HRO := Lib.hid (rcs_one l)
      have hM1 : (0 : Int) ≤ (M : Int) := by omega
      have hrM := rcs_get l 0 3 r hr0 (by omega)
      have HRM := Lib.hid hrM
      obtain ⟨zs, HZS⟩ : ∃ zs : List UInt8, Hid (zs = List.replicate M 0) := ⟨_, Lib.hid rfl⟩
      clear hr0 qk hrM
      go_wp2_with (first | ((at_make; (refine wpList_mk (n := M) 29 i8 (.int .u8 0) _ _ rfl rfl _ _ _ _ rfl rfl Try.underlying29 i8a i8b i8c i8d rfl ?_ ?_ ?_ ?_ hS5 ?_); omega; omega; omega; (unfold maxLen; omega); intro g4 c4 w4 hr4 hS4); rw [← bv_zeros, ← HZS.out] at hr4; have kc := conv_str (hr4.rd hS4 0 rfl); have q3c : w4.cell? ⟨g3, 3, none⟩ = some (.string ⟨r.val.toArray⟩) := hr5.cellAt hS4 1 rfl HRM.out; have q3f := hr5.freeAt hS4 1 rfl 3; have H4 := Lib.hid hS4; have H5 := Lib.hid hr5; clear hS5 hr4 hS4 hr5) | ((at_builtin; (refine wpList_app 0 22 i0 (.agg #[.int .i64 0, .int .i64 0, .string ⟨#[]⟩, .string ⟨#[]⟩]) _ _ rfl rfl rfl rfl Try.underlying22 i0a i0b i0c i0d rfl (by decide) hS3 rfl hr30 hrd3 HRO.out ?_ ?_ ?_); (unfold maxLen; omega); omega; intro v5 c5 w5 hr5 hS5); rw [List.nil_append, Nat.zero_add] at hr5; (obtain ⟨ao5, cap5, rfl⟩ := hr5.shape); (obtain ⟨g3, rfl⟩ := hr5.head q3); clear hS3 hr30 hrd3 k0))
      obtain ⟨c6, hr6, hS6⟩ := H5.out.store H4.out 1 rfl rfl 3 (.string ⟨zs.toArray⟩)
      rw [rcs_setV zs (by have := HNL.out; omega)] at hr6
      have HZL : Hid (zs.length = M) := Lib.hid (by rw [HZS.out, List.length_replicate])
      have HA0 : Hid (∃ L : List Rec, Rd (w4.setCell ⟨g3, 3, none⟩ (.string ⟨zs.toArray⟩)) 4 (.slice (some ⟨g3, 0, none⟩) n cap5) n (rcs L) ∧ L.length = n ∧ (∀ r ∈ L, OkR r) ∧ (valsP L).length ≤ 300 * n + 3000) := Lib.hid ⟨setV l zs, hr6.rd hS6 1 rfl, by rw [setV_length]; exact HNL.out, setV_ok (fun r hr => (HL.out.1 r hr).1) HK.out.1 HK.out.2 (by have := HZL.out; omega), by
        have h1 := setV_vals (l := l) (z := zs) (fun r hr => (HL.out.1 r hr).2) (by have := HZL.out; omega)
        rwa [HNL.out] at h1⟩
      have HW : Hid (Below w.heap.size w (w4.setCell ⟨g3, 3, none⟩ (.string ⟨zs.toArray⟩))) := Lib.hid (HB.out.trans (hS6.below.mono HB.out.size))
      clear hr6 hS6 kc q3c q3f H4 H5 hM1 qki
      generalize w4.setCell ⟨g3, 3, none⟩ (.string ⟨zs.toArray⟩) = w3 at HA0 HW ⊢
      generalize hg : (some (⟨g3, 0, none⟩ : Addr)) = aoX at HA0 ⊢
      clear hg
      obtain ⟨l3, HA⟩ : ∃ l3, Hid (Rd w3 4 (.slice aoX n cap5) n (rcs l3) ∧ l3.length = n ∧ (∀ r ∈ l3, OkR r) ∧ (valsP l3).length ≤ 300 * n + 3000) := HA0.out
      clear HA0 HL HNL HB2 q1 q2
    case' neg =>
      have qki : (r.kind == 1) = false := beq_eq_false_iff_ne.2 qk
      clear qk hr0
      skip
      have HA : Hid (Rd w2 4 (.slice (some ⟨g2, 0, none⟩) n cap2) n (rcs l) ∧ l.length = n ∧ (∀ r ∈ l, OkR r) ∧ (valsP l).length ≤ 300 * n + 3000) := Lib.hid ⟨HL.out.2.1.rd HL.out.2.2 0 rfl, HNL.out, fun r hr => (HL.out.1 r hr).1, by
        have h1 := vals_small (l := l) (k := 300) fun r hr => (HL.out.1 r hr).2
        rw [HNL.out] at h1
        omega⟩
      have HW := Lib.hid HB2.out
      obtain ⟨w3, hw3⟩ : ∃ w3, w3 = w2 := ⟨_, rfl⟩
      subst hw3
      clear HL HNL HB2
      obtain ⟨cap5, hc5⟩ : ∃ x, x = cap2 := ⟨_, rfl⟩
      subst hc5
      obtain ⟨l3, hl3⟩ : ∃ x, x = l := ⟨_, rfl⟩
      subst hl3
      go_wp2_with fail
      generalize hg : (some (⟨g2, 0, none⟩ : Addr)) = aoX at HA ⊢
      clear hg
  all_goals
    skip
    refine (build_ok _ l3 w3 (by have := HA.out.1; rwa [← HA.out.2.1] at this ⊢) (by have := HA.out.2.1; omega) (by have := HA.out.2.2.2; omega) HA.out.2.2.1).mono ?_
    rintro e w4 ⟨y, v4, c4, rfl, hr4, hseal, hS4⟩
    obtain ⟨ao4, cap4, rfl⟩ := hr4.shape
    have HSZ : Hid (y.length ≤ encsP l3 + 40 * n + 200) := Lib.hid (by
      have h1 := seal_size hseal HA.out.2.2.1 (by have := HA.out.2.1; omega) (by rw [HA.out.2.1]; exact HA.out.2.2.2)
      rwa [HA.out.2.1] at h1)
    have H4 := Lib.hid (And.intro (hr4.rd hS4 0 rfl) (And.intro hseal (HW.out.trans (hS4.below.mono HW.out.size))))
    have HA4 := Lib.hid (HA.out.1.keep hS4.below)
    clear hr4 hseal hS4
    go_wp2_with fail
    refine (sopen_seal _ l3 y w4 H4.out.1 H4.out.2.1 HA.out.2.2.1 (by have := HA.out.2.1; omega) (by have := HA.out.2.2.2; omega)).mono ?_
    rintro e w5 ⟨p, pk, rfl, hp, hin, hb5⟩
    have H5 := Lib.hid (And.intro hp (And.intro hin (H4.out.2.2.trans (hb5.mono H4.out.2.2.size))))
    have HA5 := Lib.hid (HA4.out.keep hb5)
    clear hp hin hb5
    go_wp2_with fail
    refine (slen_seal p l3 pk w5 H5.out.2.1).mono ?_
    rintro e w6 ⟨rfl, rfl⟩
    rw [HA.out.2.1]
    go_wp2_with fail
    refine (bytes16_any _ l3 w5 (by have := HA5.out; rwa [← HA.out.2.1] at this ⊢) (by have := HA.out.2.1; omega) HA.out.2.2.1).mono ?_
    rintro e w6 ⟨rfl, hb6⟩
    have HEN : Hid (encsP l3 ≤ 105000) := Lib.hid (by have h1 := encsP_le HA.out.2.2.1; rw [HA.out.2.1] at h1; omega)
    have H6 := Lib.hid (And.intro H5.out.1 (And.intro (H5.out.2.1.keep hb6) (And.intro (H5.out.2.2.trans (hb6.mono H5.out.2.2.size)) (HA5.out.keep hb6))))
    generalize encsP l3 = E at HSZ HEN ⊢
    have hw1 : IntKind.i64.wrap (40 * (n : Int)) = 40 * (n : Int) := IntWalk.i64_in _ (by omega)
    have hw2 : IntKind.i64.wrap ((E : Int) + 40 * (n : Int)) = (E : Int) + 40 * (n : Int) := IntWalk.i64_in _ (by have := HEN.out; omega)
    have hw3 : IntKind.i64.wrap ((E : Int) + 40 * (n : Int) + 200) = (E : Int) + 40 * (n : Int) + 200 := IntWalk.i64_in _ (by have := HEN.out; omega)
    have hq3 : ¬ (E : Int) + 40 * (n : Int) + 200 < (y.length : Int) := by have := HSZ.out; omega
    clear hb6 HA4 HA5 H4 H5
    go_wp2_with fail
    go_loopg [12] n (fun m s12 wr => ∃ i : Nat, i + m = n ∧ s12 = .int .i64 (i : Int) ∧ Hid (Below w6.heap.size w6 wr))
    case atStart => exact ⟨0, by omega, rfl, Lib.hid (Below.refl _ _)⟩
    case round =>
      obtain ⟨i, hi, rfl, HBR⟩ := hrel
      clear hw1 hw2 hw3 hq3
      cases gk with
      | zero =>
        have hz : ¬ (i : Int) < (n : Int) := by omega
        have HIN := Lib.hid (H6.out.2.1.keep HBR.out)
        have HRD := Lib.hid (H6.out.2.2.2.keep HBR.out)
        have HBT := Lib.hid (H6.out.2.2.1.trans (HBR.out.mono H6.out.2.2.1.size))
        clear hi
        go_wp2_with fail
        refine (sall_seal p l3 pk wr HIN.out H6.out.1 HA.out.2.2.1 (by have := HA.out.2.1; omega) (by have := HA.out.2.2.2; omega)).mono ?_
        rintro e wa ⟨va, ca, rfl, hra, hSa⟩
        obtain ⟨aoa, capa, rfl⟩ := hra.shape
        have HRA := Lib.hid (hra.rd hSa 0 rfl)
        have HIN := Lib.hid (HIN.out.keep hSa.below)
        have HRD := Lib.hid (HRD.out.keep hSa.below)
        have HBT := Lib.hid (HBT.out.trans (hSa.below.mono HBT.out.size))
        clear hra hSa
        go_wp2_with fail
        refine (sfind_seal p l3 pk ks wa HIN.out (by have := HA.out.2.1; omega)).mono ?_
        rintro e wb ⟨hf, rfl⟩
        have HLS := Lib.hid (last16_any (.slice aoX n cap5) l3 ks wa (by have := HRD.out; rwa [← HA.out.2.1] at this ⊢) (by have := HA.out.2.1; omega))
        have HEQ := Lib.hid (refeqall14_any (.slice aoa l3.length capa) (.slice aoX n cap5) l3 wa HRA.out (by have := HRD.out; rwa [← HA.out.2.1] at this ⊢) (by have := HA.out.2.1; omega))
        obtain ⟨hno, rfl⟩ | ⟨j, hj, rfl⟩ := hf
        · rw [hno] at HLS
          go_wp2_with fail
          refine HLS.out.mono ?_
          rintro e wc ⟨rfl, rfl⟩
          rw [show placeI none = -1 from rfl]
          clear hno
          go_wp2_with fail
          refine HEQ.out.mono ?_
          rintro e wc ⟨rfl, hbc⟩
          go_wp2_with fail
          go_ret
          exact ⟨rfl, HBT.out.trans (hbc.mono HBT.out.size)⟩
        · rw [hj] at HLS
          have hj0 : (0 : Int) ≤ (j : Int) := by omega
          have hj1 : decide ((0 : Int) ≤ (j : Int)) = true := decide_eq_true hj0
          have hj2 : ((j : Int) == (j : Int)) = true := by simp
          go_wp2_with fail
          refine HLS.out.mono ?_
          rintro e wc ⟨rfl, rfl⟩
          rw [show placeI (some j) = (j : Int) from rfl]
          clear hj
          go_wp2_with fail
          refine HEQ.out.mono ?_
          rintro e wc ⟨rfl, hbc⟩
          go_wp2_with fail
          go_ret
          exact ⟨rfl, HBT.out.trans (hbc.mono HBT.out.size)⟩
      | succ m =>
        have hif : (i : Int) < (n : Int) := by omega
        have hif0 : (0 : Int) ≤ (i : Int) := by omega
        have hwi : IntKind.i64.wrap ((i : Int) + 1) = (i : Int) + 1 := IntWalk.i64_in _ (by omega)
        obtain ⟨r, hr⟩ : ∃ r, l3[i]? = some r := ⟨_, List.getElem?_eq_getElem (by have := HA.out.2.1; omega)⟩
        obtain ⟨ad, rfl⟩ := H6.out.2.2.2.rec_some hr
        obtain ⟨j, hj, hjl⟩ := lastR_some hr
        have HR := Lib.hid (And.intro hr hj)
        have HGE := Lib.hid (sget_seal p i l3 pk r wr (H6.out.2.1.keep HBR.out) H6.out.1 HA.out.2.2.1 (by have := HA.out.2.1; omega) (by have := HA.out.2.2.2; omega) hr)
        clear hr hj
        go_wp2_with fail
        refine HGE.out.mono ?_
        rintro e w7 ⟨rfl, hb7⟩
        unfold recV
        have HB7 := Lib.hid (HBR.out.trans (hb7.mono HBR.out.size))
        obtain ⟨w8, HW8⟩ : ∃ w8, Hid (w8 = w7.alloc (.cells #[.int .i64 r.kind, .int .i64 r.seq, .string ⟨r.key.toArray⟩, .string ⟨r.val.toArray⟩] 26 (0, 0))) := ⟨_, Lib.hid rfl⟩
        have HB8 : Hid (Below w6.heap.size w6 w8) := Lib.hid (by rw [HW8.out]; exact HB7.out.alloc HB7.out.size _)
        have HBX : Hid (Rd w8 4 (.slice (some ⟨w7.heap.size, 0, none⟩) 1 1) 1 (rcs [r])) := Lib.hid (by rw [HW8.out]; exact Rd.litsN 4 w7 #[.int .i64 r.kind, .int .i64 r.seq, .string ⟨r.key.toArray⟩, .string ⟨r.val.toArray⟩] 26 (by decide) rfl (by decide))
        have k2 : (w7.alloc (.cells #[.int .i64 r.kind, .int .i64 r.seq, .string ⟨r.key.toArray⟩, .string ⟨r.val.toArray⟩] 26 (0, 0))).cell? ⟨(ad.add (i * 4)).block, (ad.add (i * 4)).off + 2, none⟩ = some (.string ⟨r.key.toArray⟩) := by
          rw [← HW8.out]
          exact ((H6.out.2.2.2.keep HB8.out).rec HR.out.1).2.2.1
        clear hb7 HGE
        go_wp2_with fail
        rw [← HW8.out]
        refine (sfind_seal p l3 pk r.key w8 (H6.out.2.1.keep HB8.out) (by have := HA.out.2.1; omega)).mono ?_
        rintro e w9 ⟨hf, rfl⟩
        obtain ⟨hno, _⟩ | ⟨j', hj', rfl⟩ := hf
        · rw [HR.out.2] at hno
          cases hno
        · rw [HR.out.2] at hj'
          injection hj' with hj'
          subst hj'
          have HCELL : Hid (∀ w' : World, Below w8.heap.size w8 w' → (w'.cell? ⟨w7.heap.size, 0, none⟩ = some (.int .i64 r.kind) ∧ w'.cell? ⟨w7.heap.size, 1, none⟩ = some (.int .i64 r.seq) ∧ w'.cell? ⟨w7.heap.size, 2, none⟩ = some (.string ⟨r.key.toArray⟩) ∧ w'.cell? ⟨w7.heap.size, 3, none⟩ = some (.string ⟨r.val.toArray⟩)) ∧
              (w'.cell? (ad.add (i * 4)) = some (.int .i64 r.kind) ∧ w'.cell? ⟨(ad.add (i * 4)).block, (ad.add (i * 4)).off + 1, none⟩ = some (.int .i64 r.seq) ∧ w'.cell? ⟨(ad.add (i * 4)).block, (ad.add (i * 4)).off + 2, none⟩ = some (.string ⟨r.key.toArray⟩) ∧ w'.cell? ⟨(ad.add (i * 4)).block, (ad.add (i * 4)).off + 3, none⟩ = some (.string ⟨r.val.toArray⟩))) := Lib.hid fun w' hw => ⟨(HBX.out.keep hw).rec (i := 0) (u := r) rfl, (H6.out.2.2.2.keep (HB8.out.trans (hw.mono HB8.out.size))).rec HR.out.1⟩
          have HER : Hid (recEq r r = true) := Lib.hid (recEq_iff.2 rfl)
          clear k2
          go_wp2_with fail
          refine wp_region_held_drew (S := fun w' => Below w8.heap.size w8 w') mixed (Below.refl _ _).drew (fun hSS => ?_)
          refine take_d (i := 0) 109 (.int .i64 0) rfl rfl (by kernel_rfl) (by kernel_rfl) (by kernel_rfl) (fun _ _ _ h => h) (Or.inl ⟨by rfl, ?_⟩) hSS ?_
          (focus (intro w' hw'; have hb1 := HCELL.out w' hw'; obtain ⟨⟨b1, b2, b3, b4⟩, b5, b6, b7, b8⟩ := hb1; first | (go_simp; done) | (go_simp; simp [*]; done)))
          simp only [Act.put, List.setIfInBounds_toArray, List.set_cons_zero, List.set_cons_succ]
          refine take_d (i := 1) 110 (.bool false) rfl rfl (by kernel_rfl) (by kernel_rfl) (by kernel_rfl) (fun _ _ _ h => h) (Or.inl ⟨by rfl, ?_⟩) hSS ?_
          (focus (intro w' hw'; have hb1 := HCELL.out w' hw'; obtain ⟨⟨b1, b2, b3, b4⟩, b5, b6, b7, b8⟩ := hb1; first | (go_simp; done) | (go_simp; simp [*]; done)))
          simp only [Act.put, List.setIfInBounds_toArray, List.set_cons_zero, List.set_cons_succ]
          refine take_d (i := 2) 111 (.bool false) rfl rfl (by kernel_rfl) (by kernel_rfl) (by kernel_rfl) (fun _ _ _ h => h) (Or.inl ⟨by rfl, ?_⟩) hSS ?_
          (focus (intro w' hw'; have hb1 := HCELL.out w' hw'; obtain ⟨⟨b1, b2, b3, b4⟩, b5, b6, b7, b8⟩ := hb1; first | (go_simp; done) | (go_simp; simp [*]; done)))
          simp only [Act.put, List.setIfInBounds_toArray, List.set_cons_zero, List.set_cons_succ]
          refine take_d (i := 3) 112 (.agg #[.int .i64 r.kind, .int .i64 r.seq, .string ⟨r.key.toArray⟩, .string ⟨r.val.toArray⟩]) rfl rfl (by kernel_rfl) (by kernel_rfl) (by kernel_rfl) (fun _ _ _ h => h) (Or.inl ⟨by rfl, ?_⟩) hSS ?_
          (focus (intro w' hw'; have hb1 := HCELL.out w' hw'; obtain ⟨⟨b1, b2, b3, b4⟩, b5, b6, b7, b8⟩ := hb1; first | (go_simp; done) | (go_simp; simp [*]; done)))
          simp only [Act.put, List.setIfInBounds_toArray, List.set_cons_zero, List.set_cons_succ]
          refine take_d (i := 4) 113 (.slice (some ad) n cap5) rfl rfl (by kernel_rfl) (by kernel_rfl) (by kernel_rfl) (fun _ _ _ h => h) (Or.inl ⟨by rfl, ?_⟩) hSS ?_
          (focus (intro w' hw'; have hb1 := HCELL.out w' hw'; obtain ⟨⟨b1, b2, b3, b4⟩, b5, b6, b7, b8⟩ := hb1; first | (go_simp; done) | (go_simp; simp [*]; done)))
          simp only [Act.put, List.setIfInBounds_toArray, List.set_cons_zero, List.set_cons_succ]
          refine take_d (i := 5) 114 (.int .i64 (i : Int)) rfl rfl (by kernel_rfl) (by kernel_rfl) (by kernel_rfl) (fun _ _ _ h => h) (Or.inl ⟨by rfl, ?_⟩) hSS ?_
          (focus (intro w' hw'; have hb1 := HCELL.out w' hw'; obtain ⟨⟨b1, b2, b3, b4⟩, b5, b6, b7, b8⟩ := hb1; first | (go_simp; done) | (go_simp; simp [*]; done)))
          simp only [Act.put, List.setIfInBounds_toArray, List.set_cons_zero, List.set_cons_succ]
          refine take_d (i := 6) 115 (.pointer (some (ad.add (i * 4)))) rfl rfl (by kernel_rfl) (by kernel_rfl) (by kernel_rfl) (fun _ _ _ h => h) (Or.inl ⟨by rfl, ?_⟩) hSS ?_
          (focus (intro w' hw'; have hb1 := HCELL.out w' hw'; obtain ⟨⟨b1, b2, b3, b4⟩, b5, b6, b7, b8⟩ := hb1; first | (go_simp; done) | (go_simp; simp [*]; done)))
          simp only [Act.put, List.setIfInBounds_toArray, List.set_cons_zero, List.set_cons_succ]
          refine take_d (i := 7) 116 (.agg #[.int .i64 r.kind, .int .i64 r.seq, .string ⟨r.key.toArray⟩, .string ⟨r.val.toArray⟩]) rfl rfl (by kernel_rfl) (by kernel_rfl) (by kernel_rfl) (fun _ _ _ h => h) (Or.inl ⟨by rfl, ?_⟩) hSS ?_
          (focus (intro w' hw'; have hb1 := HCELL.out w' hw'; obtain ⟨⟨b1, b2, b3, b4⟩, b5, b6, b7, b8⟩ := hb1; first | (go_simp; done) | (go_simp; simp [*]; done)))
          simp only [Act.put, List.setIfInBounds_toArray, List.set_cons_zero, List.set_cons_succ]
          refine wpAnyH_ready (rs := [8]) (by kernel_rfl) (by simp) (AllReadyH.cons rfl (fun K1 hK1 => ?_) AllReadyH.nil)
          rw [if_pos (by rfl)]
          go_simp
          refine (refeq14_any r r w8.drew).mono ?_
          rintro e wb ⟨rfl, hbb⟩
          rw [HER.out]
          have HBB : Hid (Below w8.heap.size w8 wb) := Lib.hid ((Below.refl _ w8).drew.trans hbb)
          clear hbb
          refine hK1.out _ _ HBB.out (fun hSS => ?_)
          try simp only [Act.put, List.setIfInBounds_toArray, List.set_cons_zero, List.set_cons_succ]
          refine take_d (i := 9) 118 (.bool false) rfl rfl (by kernel_rfl) (by kernel_rfl) (by kernel_rfl) (fun _ _ _ h => h) (Or.inl ⟨by rfl, ?_⟩) hSS ?_
          (focus (intro w' hw'; have hb1 := HCELL.out w' hw'; obtain ⟨⟨b1, b2, b3, b4⟩, b5, b6, b7, b8⟩ := hb1; first | (go_simp; done) | (go_simp; simp [*]; done)))
          simp only [Act.put, List.setIfInBounds_toArray, List.set_cons_zero, List.set_cons_succ]
          refine take_d (i := 10) 119 (.bool false) rfl rfl (by kernel_rfl) (by kernel_rfl) (by kernel_rfl) (fun _ _ _ h => h) (Or.inl ⟨by rfl, ?_⟩) hSS ?_
          (focus (intro w' hw'; have hb1 := HCELL.out w' hw'; obtain ⟨⟨b1, b2, b3, b4⟩, b5, b6, b7, b8⟩ := hb1; first | (go_simp; done) | (go_simp; simp [*]; done)))
          simp only [Act.put, List.setIfInBounds_toArray, List.set_cons_zero, List.set_cons_succ]
          refine take_d (i := 11) 120 (.bool false) rfl rfl (by kernel_rfl) (by kernel_rfl) (by kernel_rfl) (fun _ _ _ h => h) (Or.inl ⟨by rfl, ?_⟩) hSS ?_
          (focus (intro w' hw'; have hb1 := HCELL.out w' hw'; obtain ⟨⟨b1, b2, b3, b4⟩, b5, b6, b7, b8⟩ := hb1; first | (go_simp; done) | (go_simp; simp [*]; done)))
          simp only [Act.put, List.setIfInBounds_toArray, List.set_cons_zero, List.set_cons_succ]
          refine take_d (i := 12) 121 (.bool true) rfl rfl (by kernel_rfl) (by kernel_rfl) (by kernel_rfl) (fun _ _ _ h => h) (Or.inl ⟨by rfl, ?_⟩) hSS ?_
          (focus (intro w' hw'; have hb1 := HCELL.out w' hw'; obtain ⟨⟨b1, b2, b3, b4⟩, b5, b6, b7, b8⟩ := hb1; first | (go_simp; done) | (go_simp; simp [*]; done)))
          simp only [Act.put, List.setIfInBounds_toArray, List.set_cons_zero, List.set_cons_succ]
          refine take_d (i := 13) 122 (.bool false) rfl rfl (by kernel_rfl) (by kernel_rfl) (by kernel_rfl) (fun _ _ _ h => h) (Or.inl ⟨by rfl, ?_⟩) hSS ?_
          (focus (intro w' hw'; have hb1 := HCELL.out w' hw'; obtain ⟨⟨b1, b2, b3, b4⟩, b5, b6, b7, b8⟩ := hb1; first | (go_simp; done) | (go_simp; simp [*]; done)))
          simp only [Act.put, List.setIfInBounds_toArray, List.set_cons_zero, List.set_cons_succ]
          refine take_d (i := 14) 123 (.bool false) rfl rfl (by kernel_rfl) (by kernel_rfl) (by kernel_rfl) (fun _ _ _ h => h) (Or.inl ⟨by rfl, ?_⟩) hSS ?_
          (focus (intro w' hw'; have hb1 := HCELL.out w' hw'; obtain ⟨⟨b1, b2, b3, b4⟩, b5, b6, b7, b8⟩ := hb1; first | (go_simp; done) | (go_simp; simp [*]; done)))
          simp only [Act.put, List.setIfInBounds_toArray, List.set_cons_zero, List.set_cons_succ]
          refine take_d (i := 15) 124 (.bool false) rfl rfl (by kernel_rfl) (by kernel_rfl) (by kernel_rfl) (fun _ _ _ h => h) (Or.inl ⟨by rfl, ?_⟩) hSS ?_
          (focus (intro w' hw'; have hb1 := HCELL.out w' hw'; obtain ⟨⟨b1, b2, b3, b4⟩, b5, b6, b7, b8⟩ := hb1; first | (go_simp; done) | (go_simp; simp [*]; done)))
          simp only [Act.put, List.setIfInBounds_toArray, List.set_cons_zero, List.set_cons_succ]
          refine take_d (i := 16) 125 (.int .i64 (j : Int)) rfl rfl (by kernel_rfl) (by kernel_rfl) (by kernel_rfl) (fun _ _ _ h => h) (Or.inl ⟨by rfl, ?_⟩) hSS ?_
          (focus (intro w' hw'; have hb1 := HCELL.out w' hw'; obtain ⟨⟨b1, b2, b3, b4⟩, b5, b6, b7, b8⟩ := hb1; first | (go_simp; done) | (go_simp; simp [*]; done)))
          simp only [Act.put, List.setIfInBounds_toArray, List.set_cons_zero, List.set_cons_succ]
          refine take_d (i := 17) 126 (.slice (some ad) n cap5) rfl rfl (by kernel_rfl) (by kernel_rfl) (by kernel_rfl) (fun _ _ _ h => h) (Or.inl ⟨by rfl, ?_⟩) hSS ?_
          (focus (intro w' hw'; have hb1 := HCELL.out w' hw'; obtain ⟨⟨b1, b2, b3, b4⟩, b5, b6, b7, b8⟩ := hb1; first | (go_simp; done) | (go_simp; simp [*]; done)))
          simp only [Act.put, List.setIfInBounds_toArray, List.set_cons_zero, List.set_cons_succ]
          refine take_d (i := 18) 127 (.slice (some ad) n cap5) rfl rfl (by kernel_rfl) (by kernel_rfl) (by kernel_rfl) (fun _ _ _ h => h) (Or.inl ⟨by rfl, ?_⟩) hSS ?_
          (focus (intro w' hw'; have hb1 := HCELL.out w' hw'; obtain ⟨⟨b1, b2, b3, b4⟩, b5, b6, b7, b8⟩ := hb1; first | (go_simp; done) | (go_simp; simp [*]; done)))
          simp only [Act.put, List.setIfInBounds_toArray, List.set_cons_zero, List.set_cons_succ]
          refine take_d (i := 19) 128 (.int .i64 (i : Int)) rfl rfl (by kernel_rfl) (by kernel_rfl) (by kernel_rfl) (fun _ _ _ h => h) (Or.inl ⟨by rfl, ?_⟩) hSS ?_
          (focus (intro w' hw'; have hb1 := HCELL.out w' hw'; obtain ⟨⟨b1, b2, b3, b4⟩, b5, b6, b7, b8⟩ := hb1; first | (go_simp; done) | (go_simp; simp [*]; done)))
          simp only [Act.put, List.setIfInBounds_toArray, List.set_cons_zero, List.set_cons_succ]
          refine take_d (i := 20) 129 (.pointer (some (ad.add (i * 4)))) rfl rfl (by kernel_rfl) (by kernel_rfl) (by kernel_rfl) (fun _ _ _ h => h) (Or.inl ⟨by rfl, ?_⟩) hSS ?_
          (focus (intro w' hw'; have hb1 := HCELL.out w' hw'; obtain ⟨⟨b1, b2, b3, b4⟩, b5, b6, b7, b8⟩ := hb1; first | (go_simp; done) | (go_simp; simp [*]; done)))
          simp only [Act.put, List.setIfInBounds_toArray, List.set_cons_zero, List.set_cons_succ]
          refine take_d (i := 21) 130 (.pointer (some ⟨(ad.add (i * 4)).block, (ad.add (i * 4)).off + 2, none⟩)) rfl rfl (by kernel_rfl) (by kernel_rfl) (by kernel_rfl) (fun _ _ _ h => h) (Or.inl ⟨by rfl, ?_⟩) hSS ?_
          (focus (intro w' hw'; have hb1 := HCELL.out w' hw'; obtain ⟨⟨b1, b2, b3, b4⟩, b5, b6, b7, b8⟩ := hb1; first | (go_simp; done) | (go_simp; simp [*]; done)))
          simp only [Act.put, List.setIfInBounds_toArray, List.set_cons_zero, List.set_cons_succ]
          refine take_d (i := 22) 131 (.string ⟨r.key.toArray⟩) rfl rfl (by kernel_rfl) (by kernel_rfl) (by kernel_rfl) (fun _ _ _ h => h) (Or.inl ⟨by rfl, ?_⟩) hSS ?_
          (focus (intro w' hw'; have hb1 := HCELL.out w' hw'; obtain ⟨⟨b1, b2, b3, b4⟩, b5, b6, b7, b8⟩ := hb1; first | (go_simp; done) | (go_simp; simp [*]; done)))
          simp only [Act.put, List.setIfInBounds_toArray, List.set_cons_zero, List.set_cons_succ]
          refine wpAnyH_ready (rs := [23]) (by kernel_rfl) (by simp) (AllReadyH.cons rfl (fun K2 hK2 => ?_) AllReadyH.nil)
          rw [if_pos (by rfl)]
          go_simp
          refine (last16_any (.slice (some ad) n cap5) l3 r.key wb (by have := H6.out.2.2.2.keep (HB8.out.trans (HBB.out.mono HB8.out.size)); rwa [← HA.out.2.1] at this ⊢) (by have := HA.out.2.1; omega)).mono ?_
          rintro e wc ⟨rfl, rfl⟩
          rw [HR.out.2, show placeI (some j) = (j : Int) from rfl]
          refine hK2.out _ _ HBB.out (fun hSS => ?_)
          try simp only [Act.put, List.setIfInBounds_toArray, List.set_cons_zero, List.set_cons_succ]
          refine take_d (i := 24) 133 (.bool false) rfl rfl (by kernel_rfl) (by kernel_rfl) (by kernel_rfl) (fun _ _ _ h => h) (Or.inl ⟨by rfl, ?_⟩) hSS ?_
          (focus (intro w' hw'; have hb1 := HCELL.out w' hw'; obtain ⟨⟨b1, b2, b3, b4⟩, b5, b6, b7, b8⟩ := hb1; first | (go_simp; done) | (go_simp; simp [*]; done)))
          simp only [Act.put, List.setIfInBounds_toArray, List.set_cons_zero, List.set_cons_succ]
          refine wpAnyH_ready (rs := [25]) (by kernel_rfl) (by simp) (AllReadyH.cons rfl (fun K3 hK3 => ?_) AllReadyH.nil)
          rw [if_pos (by rfl)]
          go_simp
          refine hK3.out _ _ hSS (fun _ => ?_)
          refine wpAnyH_done (by kernel_rfl) ?_ _
          clear hSS
          have HBZ := Lib.hid (HB8.out.trans (HBB.out.mono HB8.out.size))
          go_wp2_with fail
          go_roundg m
          case measure => omega
          case rel => exact ⟨i + 1, by omega, by go_num, HBZ⟩
end Go.Proofs.Ythgbkncanoknkaa

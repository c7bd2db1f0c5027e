/-
  The walk of SealedAny.
-/
import Derived.Test.YthgbkncanoknkaaSg12
set_option linter.unusedVariables false
set_option linter.unusedSimpArgs false
namespace Go.Proofs.Ythgbkncanoknkaa
open Go.RowKit
set_option maxRecDepth 100000
theorem EntsR.bnd : ∀ {l : List Ent} {b : List UInt8}, EntsR b l → l.length ≤ b.length ∧ ∀ E ∈ l, E.size ≤ 4000
  | [], b, _ => ⟨Nat.zero_le _, fun E h => by cases h⟩
  | E :: l, b, ⟨k1, k2, k3, k4, h1, h2, h3, h4, _, h5⟩ => by
    obtain ⟨e1, e2⟩ := EntsR.bnd h5
    have e3 := rdN_pos h1
    simp only [List.length_drop] at e1
    refine ⟨by rw [List.length_cons]; omega, fun E' hE => ?_⟩
    rcases List.mem_cons.1 hE with rfl | hE
    · exact rdN_le h4
    · exact e2 E' hE
theorem sizes_bnd : ∀ {l : List Ent}, (∀ E ∈ l, E.size ≤ 4000) → sizesP l ≤ 4000 * l.length
  | [], _ => by simp [sizesP]
  | E :: l, h => by
    have h1 := sizes_bnd (l := l) fun E' hE => h E' (by simp [hE])
    have h2 := h E (by simp)
    have h3 : sizesP (E :: l) = E.size + sizesP l := by simp [sizesP]
    rw [h3, List.length_cons]
    omega
theorem SegR.bnd {b pk : List UInt8} {es : List Ent} (h : SegR b es pk) (hb : b.length ≤ 100000) : es.length ≤ 100000 ∧ pk.length ≤ 100000 ∧ (∀ E ∈ es, E.size ≤ 4000) ∧ sizesP es ≤ 1099511627776 := by
  obtain ⟨x, k, h1, h2, h3, rfl⟩ := h
  have e1 := firstP_len h1
  obtain ⟨e2, e3⟩ := h3.bnd
  have e4 := sizes_bnd e3
  rw [List.length_drop] at e2
  rw [List.length_drop]
  exact ⟨by omega, by omega, e3, by omega⟩
theorem lastN_lt {l : List Ent} {key : List UInt8} : ∀ {n i : Nat}, lastN l key n = some i → i < n
  | 0, i, h => by cases h
  | n + 1, i, h => by
    rw [lastN] at h
    split at h
    · split at h
      · injection h with h; omega
      · have := lastN_lt h; omega
    · have := lastN_lt h; omega
set_option maxHeartbeats 4000000 in
theorem SealedAny_walk (w : World) (v : Value) (bs0 : List UInt8) (h : Rd w 1 v bs0.length (bv bs0)) (sz : bs0.length ≤ 140737488351232) (key : ByteArray) (sk : key.size ≤ 140737488351232) :
    Calls Try.prog 4 #[v, .string key] w fun e w' => e = .returned (.bool true) ∧ Below w.heap.size w w' := by
  obtain ⟨ks, rfl⟩ : ∃ ks : List UInt8, key = ⟨ks.toArray⟩ := ⟨key.data.toList, by simp⟩
  go_enter Try.func4, Try.ntmps4
  go_wp2_with fail
  refine (begun16_any _).mono ?_
  rintro e w1 ⟨rfl, hb⟩
  have hr := h.keep hb
  have HB := Lib.hid hb
  clear h hb sk
  go_wp2_with fail
  refine (short_any v bs0 300 w1 hr (by omega)).mono ?_
  rintro e w2 ⟨v', rfl, hr', rfl⟩
  have hnb : (bs0.take 300).length ≤ 300 := by simp; omega
  generalize bs0.take 300 = b at *
  obtain ⟨aob, capb, rfl⟩ := hr'.shape
  have H1 := Lib.hid hr'
  clear sz hr hr'
  go_wp2_with fail
  refine (sopen_any _ b w1 H1.out (by omega)).mono ?_
  rintro e w2 ⟨hb2, ⟨es, pk, p, hseg, rfl, hin⟩ | ⟨_, rfl⟩⟩
  · obtain ⟨hel, hpk, hes, hss⟩ := hseg.bnd (by omega)
    have HE := Lib.hid (And.intro hes hss)
    have HI := Lib.hid hin
    have HB2 : Hid (Below w.heap.size w w2) := Lib.hid (HB.out.trans (hb2.mono HB.out.size))
    clear hseg hes hss hin hb2
    go_wp2_with fail
    refine (slen_any p es pk w2 HI.out).mono ?_
    rintro e w3 ⟨rfl, rfl⟩
    have hn0 : ¬ (es.length : Int) < 0 := by omega
    go_wp2_with fail
    go_loopg [9] 20 (fun m s9 wr => ∃ i : Nat, i + m = 20 ∧ s9 = .int .i64 (i : Int) ∧ Hid (Below w2.heap.size w2 wr))
    case atStart => exact ⟨0, by omega, rfl, Lib.hid (Below.refl _ _)⟩
    case round =>
      obtain ⟨i, hi, rfl, HBR⟩ := hrel
      have exitQ : (es.length : Int) ≤ (i : Int) ∨ (20 : Int) ≤ (i : Int) ∨ ((i : Int) < (es.length : Int) ∧ (i : Int) < 20) := by omega
      by_cases q : i < es.length ∧ i < 20
      · have q1 : (i : Int) < (es.length : Int) := by omega
        have q2 : (i : Int) < 20 := by omega
        obtain ⟨m, rfl⟩ : ∃ m, gk = m + 1 := ⟨gk - 1, by omega⟩
        have hwi : IntKind.i64.wrap ((i : Int) + 1) = (i : Int) + 1 := IntWalk.i64_in _ (by omega)
        clear q exitQ
        go_wp2_with fail
        refine (sget_any p es pk (i : Int) wr (HI.out.keep HBR.out) (by omega) (by omega) HE.out.1 HE.out.2 (by omega)).mono ?_
        rintro e w4 ⟨hb4, ⟨hbad, _⟩ | ⟨j, E, hj, hE, ⟨val, hval, rfl⟩ | ⟨hno, rfl⟩⟩⟩
        · exfalso; omega
        · obtain ⟨r, HRR⟩ : ∃ r, Hid (r = recE E val) := ⟨_, Lib.hid rfl⟩
          rw [← HRR.out]
          unfold recV
          have HB5 := Lib.hid (HBR.out.trans ((hb4.alloc hb4.size (.cells #[.int .i64 r.kind, .int .i64 r.seq, .string ⟨r.key.toArray⟩, .string ⟨r.val.toArray⟩] 26)).mono HBR.out.size))
          clear hE hval hb4
          go_wp2_with fail
          go_roundg m
          case measure => omega
          case rel => exact ⟨i + 1, by omega, by go_num, HB5⟩
        · unfold recV rec0
          have HB5 := Lib.hid (HBR.out.trans ((hb4.alloc hb4.size (.cells #[.int .i64 0, .int .i64 0, .string ⟨#[]⟩, .string ⟨#[]⟩] 26)).mono HBR.out.size))
          clear hE hno hb4
          go_wp2_with fail
          go_roundg m
          case measure => omega
          case rel => exact ⟨i + 1, by omega, by go_num, HB5⟩
      · by_cases q1 : (i : Int) < (es.length : Int)
        case' pos =>
          have q2 : ¬ (i : Int) < 20 := by omega
          have q3 : decide ((i : Int) < 20) = false := by rw [decide_eq_false_iff_not]; exact q2
          clear q exitQ
          go_wp2_with fail
        case' neg =>
          clear q exitQ
          go_wp2_with fail
        all_goals
          refine (sfind_any p es pk ks wr (HI.out.keep HBR.out) (by omega)).mono ?_
          rintro e w5 ⟨⟨_, rfl⟩ | ⟨k, hk, rfl⟩, rfl⟩
          · go_wp2_with fail
            go_ret
            exact ⟨rfl, HB2.out.trans (HBR.out.mono HB2.out.size)⟩
          · have hkl := lastN_lt hk
            have hki : (k : Int) < (es.length : Int) := by omega
            have hk0 : (0 : Int) ≤ (k : Int) := by omega
            clear hk
            go_wp2_with fail
            go_ret
            exact ⟨by simp, HB2.out.trans (HBR.out.mono HB2.out.size)⟩
  · go_wp2_with fail
    go_ret
    exact ⟨rfl, HB.out.trans (hb2.mono HB.out.size)⟩
end Go.Proofs.Ythgbkncanoknkaa

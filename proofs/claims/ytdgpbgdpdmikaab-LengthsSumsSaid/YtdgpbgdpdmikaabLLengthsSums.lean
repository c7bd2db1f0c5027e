/-
  The walk of LengthsSums.
-/
import Derived.Test.YtdgpbgdpdmikaabLenBegun
set_option linter.unusedVariables false
set_option linter.unusedSimpArgs false
namespace Go.Proofs.Ytdgpbgdpdmikaab
open Go.RowKit
set_option maxRecDepth 100000
set_option maxHeartbeats 4000000 in
theorem LengthsSums_walk (w : World) (v : Value) (n : Nat) (f0 : List Int) (h : Rd w 1 v n (f0.map (Value.int .i64))) (wf : ∀ z ∈ f0, (Lit.int .i64 z).wf = true) (sz : n * 8 ≤ 140737488351232) (v2 : Value) (n2 : Nat) (l0 : List Int) (h2 : Rd w 1 v2 n2 (l0.map (Value.int .i64))) (wf2 : ∀ z ∈ l0, (Lit.int .i64 z).wf = true) (sz2 : n2 * 8 ≤ 140737488351232) :
    Calls Try.prog 10 #[v, v2] w fun e w' => e = .returned (.bool true) ∧ Below w.heap.size w w' := by
  have hn : f0.length = n := by have := h.len; simpa using this
  have hn2 : l0.length = n2 := by have := h2.len; simpa using this
  subst hn
  subst hn2
  obtain ⟨ao2, cap2, rfl⟩ := h2.shape
  have hl2 : (l0.length : Int) ≤ 17592186044416 := by omega
  have hcp2 := h2.cap
  have H2 := Lib.hid h2
  have H1 := Lib.hid h
  clear h wf sz wf2 sz2 h2
  by_cases q0 : 305 < l0.length
  · have q0i : (305 : Int) < (l0.length : Int) := by omega
    obtain ⟨ad0, rfl⟩ : ∃ ad, ao2 = some ad := by
      cases ao2 with
      | none => have := H2.out.none_iff; omega
      | some ad => exact ⟨ad, rfl⟩
    have hcc : (305 : Int) ≤ (cap2 : Int) := by omega
    have hcc2 : 305 ≤ cap2 := by omega
    go_enter Try.func10, Try.ntmps10
    go_wp2_with fail
    refine (begun6 _).mono ?_
    rintro e w1 ⟨rfl, hb⟩
    have hS := (St.init w).mono hb
    clear hb
    go_wp2_with fail
    refine (cut6_gen v f0 w1 (H1.out.st hS)).mono ?_
    rintro e w2 ⟨v', rfl, hgen, rfl⟩
    have hf : Rd w 1 v' (f0.take 305).length (iv (f0.take 305)) := hgen w H1.out
    have hfl : (f0.take 305).length ≤ 305 := by simp; omega
    generalize f0.take 305 = f at *
    obtain ⟨ao1, cap1, rfl⟩ := hf.shape
    have HF := Lib.hid (And.intro hf hS)
    clear hf hgen hS
    have hl : Rd w 1 (.slice (some ad0) 305 cap2) (l0.take 305).length (iv (l0.take 305)) := by
      have := H2.out.take 305 (by omega)
      rw [Nat.mul_one] at this
      rw [show (l0.take 305).length = 305 from by simp; omega]
      simpa [iv] using this
    have hll : (l0.take 305).length = 305 := by simp; omega
    go_wp2_with fail
    generalize l0.take 305 = l at *
    have HL := Lib.hid hl
    have HL2 : Hid (Rd w 1 (.slice (some ad0) 305 cap2) 305 (iv l)) := Lib.hid (by have := hl; rw [hll] at this; exact this)
    clear hl
    have hfi : (f.length : Int) ≤ 305 := by omega
    have hli : (l.length : Int) ≤ 305 := by omega
    go_wp2_with fail
    go_loopg [6] f.length (fun m s6 wr => ∃ i : Nat, i + m = f.length ∧ s6 = .int .i64 (i : Int) ∧ Hid (∀ x ∈ f.take i, -1073741824 ≤ x ∧ x ≤ 1073741824) ∧ w1 = wr)
    case atStart => exact ⟨0, by omega, rfl, Lib.hid (by simp), rfl⟩
    case round =>
      obtain ⟨i, hi, rfl, HB, rfl⟩ := hrel
      cases gk with
      | succ m =>
        have hif : (i : Int) < (f.length : Int) := by omega
        obtain ⟨x, hx⟩ : ∃ x, f[i]? = some x := ⟨_, List.getElem?_eq_getElem (by omega)⟩
        obtain ⟨ad1, rfl, hc1⟩ := (HF.out.1.st HF.out.2).at (iv_get f i x hx)
        have HX := Lib.hid hx
        clear hx
        by_cases q1 : x < -1073741824
        · go_wp2_with fail
          go_ret
          exact ⟨rfl, HF.out.2.below⟩
        · by_cases q2 : 1073741824 < x
          · go_wp2_with fail
            go_ret
            exact ⟨rfl, HF.out.2.below⟩
          · go_wp2_with fail
            go_roundg m
            case measure => omega
            case rel =>
              refine ⟨i + 1, by omega, by go_num, Lib.hid ?_, rfl⟩
              intro z hz
              rw [List.take_add_one, HX.out, List.mem_append] at hz
              rcases hz with hz | hz
              · exact HB.out z hz
              · simp at hz; omega
      | zero =>
        have hif : i = f.length := by omega
        have hz : ¬ (i : Int) < (f.length : Int) := by omega
        have HSF : Hid (SmallF f) := Lib.hid ⟨by omega, fun x hx => by
          have := HB.out x (by rw [hif, List.take_length]; exact hx)
          omega⟩
        clear hi hif
        go_wp2_with fail
        go_loopg [7] l.length (fun m s7 wr => ∃ j : Nat, j + m = l.length ∧ s7 = .int .i64 (j : Int) ∧ Hid (∀ x ∈ l.take j, -100 ≤ x ∧ x ≤ 100) ∧ w1 = wr)
        case atStart => exact ⟨0, by omega, rfl, Lib.hid (by simp), rfl⟩
        case round =>
          obtain ⟨j, hj, rfl, HB2, rfl⟩ := hrel
          cases gk with
          | succ m =>
            have hjl : (j : Int) < (l.length : Int) := by omega
            obtain ⟨x, hx⟩ : ∃ x, l[j]? = some x := ⟨_, List.getElem?_eq_getElem (by omega)⟩
            obtain ⟨ad2, e2, hc2⟩ := (HL2.out.st HF.out.2).at (iv_get l j x hx)
            cases e2
            have HX := Lib.hid hx
            clear hx
            by_cases q1 : x < -100
            · go_wp2_with fail
              go_ret
              exact ⟨rfl, HF.out.2.below⟩
            · by_cases q2 : 100 < x
              · go_wp2_with fail
                go_ret
                exact ⟨rfl, HF.out.2.below⟩
              · go_wp2_with fail
                go_roundg m
                case measure => omega
                case rel =>
                  refine ⟨j + 1, by omega, by go_num, Lib.hid ?_, rfl⟩
                  intro z hz
                  rw [List.take_add_one, HX.out, List.mem_append] at hz
                  rcases hz with hz | hz
                  · exact HB2.out z hz
                  · simp at hz; omega
          | zero =>
            have hjl : j = l.length := by omega
            have hz : ¬ (j : Int) < (l.length : Int) := by omega
            have HSL : Hid (SmallL l) := Lib.hid (fun x hx => HB2.out x (by rw [hjl, List.take_length]; exact hx))
            clear hj hjl
            go_wp2_with fail
            refine (lkraft_any _ l w1 (HL.out.st HF.out.2) (by omega)).mono ?_
            rintro e w3 ⟨rfl, rfl⟩
            go_wp2_with fail
            refine (refkraft_any _ l w1 (HL.out.st HF.out.2) (by omega)).mono ?_
            rintro e w3 ⟨rfl, rfl⟩
            generalize kraftP l = K at *
            go_wp2_with fail
            refine (lcost_any _ _ f l w1 (HF.out.1.st HF.out.2) (HL.out.st HF.out.2) HSF.out HSL.out).mono ?_
            rintro e w4 ⟨rfl, hd⟩
            have HS4 := Lib.hid (HF.out.2.Drew hd)
            clear hd
            go_wp2_with fail
            refine (refcost_any _ _ f l w4 (HF.out.1.st HS4.out) (HL.out.st HS4.out) HSF.out HSL.out).mono ?_
            rintro e w5 ⟨rfl, hd⟩
            have HS5 := Lib.hid (HS4.out.Drew hd)
            clear hd
            generalize costI f l = z at *
            go_wp2_with fail
            go_ret
            exact ⟨by simp, HS5.out.below⟩
  · have q0i : ¬ (305 : Int) < (l0.length : Int) := by omega
    go_enter Try.func10, Try.ntmps10
    go_wp2_with fail
    refine (begun6 _).mono ?_
    rintro e w1 ⟨rfl, hb⟩
    have hS := (St.init w).mono hb
    clear hb
    go_wp2_with fail
    refine (cut6_gen v f0 w1 (H1.out.st hS)).mono ?_
    rintro e w2 ⟨v', rfl, hgen, rfl⟩
    have hf : Rd w 1 v' (f0.take 305).length (iv (f0.take 305)) := hgen w H1.out
    have hfl : (f0.take 305).length ≤ 305 := by simp; omega
    generalize f0.take 305 = f at *
    obtain ⟨ao1, cap1, rfl⟩ := hf.shape
    have HF := Lib.hid (And.intro hf hS)
    clear hf hgen hS
    have HL := Lib.hid (show Rd w 1 (.slice ao2 l0.length cap2) l0.length (iv l0) from H2.out)
    have hll : l0.length ≤ 305 := by omega
    have HL2 := HL
    generalize l0 = l at *
    have hfi : (f.length : Int) ≤ 305 := by omega
    have hli : (l.length : Int) ≤ 305 := by omega
    go_wp2_with fail
    go_loopg [6] f.length (fun m s6 wr => ∃ i : Nat, i + m = f.length ∧ s6 = .int .i64 (i : Int) ∧ Hid (∀ x ∈ f.take i, -1073741824 ≤ x ∧ x ≤ 1073741824) ∧ w1 = wr)
    case atStart => exact ⟨0, by omega, rfl, Lib.hid (by simp), rfl⟩
    case round =>
      obtain ⟨i, hi, rfl, HB, rfl⟩ := hrel
      cases gk with
      | succ m =>
        have hif : (i : Int) < (f.length : Int) := by omega
        obtain ⟨x, hx⟩ : ∃ x, f[i]? = some x := ⟨_, List.getElem?_eq_getElem (by omega)⟩
        obtain ⟨ad1, rfl, hc1⟩ := (HF.out.1.st HF.out.2).at (iv_get f i x hx)
        have HX := Lib.hid hx
        clear hx
        by_cases q1 : x < -1073741824
        · go_wp2_with fail
          go_ret
          exact ⟨rfl, HF.out.2.below⟩
        · by_cases q2 : 1073741824 < x
          · go_wp2_with fail
            go_ret
            exact ⟨rfl, HF.out.2.below⟩
          · go_wp2_with fail
            go_roundg m
            case measure => omega
            case rel =>
              refine ⟨i + 1, by omega, by go_num, Lib.hid ?_, rfl⟩
              intro z hz
              rw [List.take_add_one, HX.out, List.mem_append] at hz
              rcases hz with hz | hz
              · exact HB.out z hz
              · simp at hz; omega
      | zero =>
        have hif : i = f.length := by omega
        have hz : ¬ (i : Int) < (f.length : Int) := by omega
        have HSF : Hid (SmallF f) := Lib.hid ⟨by omega, fun x hx => by
          have := HB.out x (by rw [hif, List.take_length]; exact hx)
          omega⟩
        clear hi hif
        go_wp2_with fail
        go_loopg [7] l.length (fun m s7 wr => ∃ j : Nat, j + m = l.length ∧ s7 = .int .i64 (j : Int) ∧ Hid (∀ x ∈ l.take j, -100 ≤ x ∧ x ≤ 100) ∧ w1 = wr)
        case atStart => exact ⟨0, by omega, rfl, Lib.hid (by simp), rfl⟩
        case round =>
          obtain ⟨j, hj, rfl, HB2, rfl⟩ := hrel
          cases gk with
          | succ m =>
            have hjl : (j : Int) < (l.length : Int) := by omega
            obtain ⟨x, hx⟩ : ∃ x, l[j]? = some x := ⟨_, List.getElem?_eq_getElem (by omega)⟩
            obtain ⟨ad2, e2, hc2⟩ := (HL2.out.st HF.out.2).at (iv_get l j x hx)
            cases e2
            have HX := Lib.hid hx
            clear hx
            by_cases q1 : x < -100
            · go_wp2_with fail
              go_ret
              exact ⟨rfl, HF.out.2.below⟩
            · by_cases q2 : 100 < x
              · go_wp2_with fail
                go_ret
                exact ⟨rfl, HF.out.2.below⟩
              · go_wp2_with fail
                go_roundg m
                case measure => omega
                case rel =>
                  refine ⟨j + 1, by omega, by go_num, Lib.hid ?_, rfl⟩
                  intro z hz
                  rw [List.take_add_one, HX.out, List.mem_append] at hz
                  rcases hz with hz | hz
                  · exact HB2.out z hz
                  · simp at hz; omega
          | zero =>
            have hjl : j = l.length := by omega
            have hz : ¬ (j : Int) < (l.length : Int) := by omega
            have HSL : Hid (SmallL l) := Lib.hid (fun x hx => HB2.out x (by rw [hjl, List.take_length]; exact hx))
            clear hj hjl
            go_wp2_with fail
            refine (lkraft_any _ l w1 (HL.out.st HF.out.2) (by omega)).mono ?_
            rintro e w3 ⟨rfl, rfl⟩
            go_wp2_with fail
            refine (refkraft_any _ l w1 (HL.out.st HF.out.2) (by omega)).mono ?_
            rintro e w3 ⟨rfl, rfl⟩
            generalize kraftP l = K at *
            go_wp2_with fail
            refine (lcost_any _ _ f l w1 (HF.out.1.st HF.out.2) (HL.out.st HF.out.2) HSF.out HSL.out).mono ?_
            rintro e w4 ⟨rfl, hd⟩
            have HS4 := Lib.hid (HF.out.2.Drew hd)
            clear hd
            go_wp2_with fail
            refine (refcost_any _ _ f l w4 (HF.out.1.st HS4.out) (HL.out.st HS4.out) HSF.out HSL.out).mono ?_
            rintro e w5 ⟨rfl, hd⟩
            have HS5 := Lib.hid (HS4.out.Drew hd)
            clear hd
            generalize costI f l = z at *
            go_wp2_with fail
            go_ret
            exact ⟨by simp, HS5.out.below⟩
end Go.Proofs.Ytdgpbgdpdmikaab

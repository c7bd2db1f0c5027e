/-
  Contract of codes.Write.
-/
import Derived.Test.YtdgpbgdpdmikaaaCodesB
import Derived.Test.YtdgpbgdpdmikaaaBitsR
set_option linter.unusedVariables false
set_option linter.unusedSimpArgs false
namespace Go.Proofs.Ytdgpbgdpdmikaaa
open Go.RowKit
set_option maxRecDepth 100000
/-- The bits of a symbol. -/
def symBits (l : List Int) (s : Int) : List Bool := bitsOf (codeP l s.toNat) (l.getD s.toNat 0).toNat
def symOk (l : List Int) (s : Int) : Bool := decide (0 ≤ s) && decide (s < (l.length : Int)) && !(l.getD s.toNat 0 == 0)
theorem symBits_le (l : List Int) (hall : ∀ k ∈ l, 0 ≤ k ∧ k ≤ 15) (s : Int) : (symBits l s).length ≤ 15 := by
  unfold symBits
  rw [bitsOf_length, List.getD_eq_getElem?_getD]
  cases h : l[s.toNat]? with
  | none => simp
  | some k => have := hall k (List.mem_of_getElem? h); simp; omega
theorem symsBits_le (l : List Int) (hall : ∀ k ∈ l, 0 ≤ k ∧ k ≤ 15) (xs : List Int) : (xs.flatMap (symBits l)).length ≤ 15 * xs.length := by
  induction xs with
  | nil => simp
  | cons x xs ih =>
    have := symBits_le l hall x
    simp only [List.flatMap_cons, List.length_append, List.length_cons]
    omega
theorem symOk_at (l : List Int) (hall : ∀ k ∈ l, 0 ≤ k ∧ k ≤ 15) (s : Int) (h : symOk l s = true) : ∃ S K : Nat, s = (S : Int) ∧ S < l.length ∧ l[S]? = some (K : Int) ∧ 0 < K ∧ K ≤ 15 := by
  simp only [symOk, Bool.and_eq_true, decide_eq_true_eq, Bool.not_eq_true', beq_eq_false_iff_ne] at h
  obtain ⟨⟨h1, h2⟩, h3⟩ := h
  obtain ⟨S, rfl⟩ := Int.eq_ofNat_of_zero_le h1
  have hS : S < l.length := by omega
  rw [Int.toNat_natCast, List.getD_eq_getElem?_getD, List.getElem?_eq_getElem hS] at h3
  have h4 := hall l[S] (List.getElem_mem _)
  obtain ⟨K, hK⟩ := Int.eq_ofNat_of_zero_le h4.1
  have h5 : l[S] ≠ 0 := h3
  exact ⟨S, K, rfl, hS, by rw [List.getElem?_eq_getElem hS, hK], by omega, by omega⟩
theorem codesV_at (l : List Int) (S K : Nat) (h : l[S]? = some (K : Int)) : (codesV l)[S * 2]? = some (.int .u32 (if 0 < K then (codeP l S : Int) else 0)) ∧ (codesV l)[S * 2 + 1]? = some (.int .i64 (K : Int)) := by
  have hS : S < l.length := (List.getElem?_eq_some_iff.1 h).1
  have h0 := rowsOf_get (codeCell l) l.length 2 (by omega) (codeCell_len l) S 0 hS (by omega)
  have h1 := rowsOf_get (codeCell l) l.length 2 (by omega) (codeCell_len l) S 1 hS (by omega)
  have hd : l.getD S 0 = (K : Int) := by rw [List.getD_eq_getElem?_getD, h]; rfl
  have hcc : codeCell l S = if 0 < (K : Int) then [.int .u32 (codeP l S : Int), .int .i64 (K : Int)] else [.int .u32 0, .int .i64 0] := by unfold codeCell; rw [hd]
  rw [hcc] at h0 h1
  unfold codesV
  rw [show S * 2 = S * 2 + 0 from rfl, h0, show S * 2 + 0 + 1 = S * 2 + 1 from rfl, h1]
  by_cases e : 0 < K
  · have e2 : (0 : Int) < (K : Int) := by omega
    simp [e, e2]
  · have e2 : K = 0 := by omega
    subst e2
    simp
def wrErr (l xs : List Int) : Int := if xs.all (symOk l) then 0 else 7
def wrBits (l xs : List Int) (bits : List Bool) : List Bool := if xs.all (symOk l) then bits ++ xs.flatMap (symBits l) else bits
section
variable {B : Nat} {w0 w : World} {F : List HL} {c : HL}
theorem write_bad (p : Nat) (bits : List Bool) (v vx : Value) (l : List Int) (hS : St B w0 w (c :: F)) (h : Rd w 1 v l.length (iv l)) (hn : l.length ≤ 1000000) (hb : okLens l = false) :
    Calls Try.prog 20 #[.pointer (some ⟨p, 0, none⟩), v, vx] w fun e w' => e = .returned (.int .i64 10) ∧ St B w0 w' (c :: F) := by
  go_enter Try.func20, Try.ntmps20
  go_wp2_with fail
  refine (of_bad v l w h hn hb).mono ?_
  rintro e w1 ⟨rfl, hS1⟩
  go_wp2_with fail
  go_ret
  exact ⟨rfl, hS.mono hS1.below⟩
set_option maxHeartbeats 2000000 in
theorem write_any (p : Nat) (bits : List Bool) (v vx : Value) (l xs : List Int) (hS : St B w0 w (c :: F)) (hc : WrC p bits c) (h : Rd w 1 v l.length (iv l)) (hx : Rd w 1 vx xs.length (iv xs)) (hn : l.length ≤ 300) (hok : okLens l = true) (hxl : xs.length ≤ 1000000) (hbl : bits.length ≤ 1000000) 
    (hapx : ∀ w' c', St B w0 w' (c' :: F) → Rd w' 1 vx xs.length (iv xs)) :
    Calls Try.prog 20 #[.pointer (some ⟨p, 0, none⟩), v, vx] w fun e w' => e = .returned (.int .i64 (wrErr l xs)) ∧ ∃ c', WrC p (wrBits l xs bits) c' ∧ St B w0 w' (c' :: F) := by
  have hok2 := (okLens_iff l).1 hok
  have HALL := Lib.hid hok2.2.2
  obtain ⟨ao, cap, rfl⟩ := hx.shape
  have hxn : (xs.length : Int) ≤ 1000000 := by omega
  have HX := Lib.hid hapx
  have HC := Lib.hid hc
  have hxp := hx.cap
  clear hok2 hapx hc
  go_enter Try.func20, Try.ntmps20
  go_wp2_with fail
  refine (of_ok v l w h hn hok).mono ?_
  rintro e w1 ⟨u, cC, rfl, hrC, hS1⟩
  replace hS := (hS.join hS1).swap
  obtain ⟨aou, capu, rfl⟩ := hrC.shape
  go_wp2_with fail
  clear hS1
  have HR := Lib.hid (And.intro hS hrC)
  have HH := Lib.hid hx
  clear h hx
  go_loopg [23] xs.length (fun m s23 wr => ∃ i : Nat, i + m = xs.length ∧ s23 = .int .i64 (i : Int) ∧ Hid ((xs.take i).all (symOk l) = true) ∧ w1 = wr)
  case atStart => exact ⟨0, by omega, rfl, Lib.hid rfl, rfl⟩
  case round =>
    obtain ⟨i, hi, rfl, HV, rfl⟩ := hrel
    cases gk with
    | zero =>
      obtain rfl : i = xs.length := by omega
      have hv := HV.out
      rw [List.take_length] at hv
      have HV2 := Lib.hid hv
      clear hv hi HV
      go_wp2_with fail
      go_loopg [46] xs.length (fun m s46 wr => ∃ i : Nat, i + m = xs.length ∧ s46 = .int .i64 (i : Int) ∧ ∃ c', WrC p (bits ++ (xs.take i).flatMap (symBits l)) c' ∧ St B w0 wr (c' :: cC :: F))
      case atStart => exact ⟨0, by omega, rfl, c, by simpa using HC.out, HR.out.1⟩
      case round =>
        obtain ⟨i, hi, rfl, c2, hc2, hS2⟩ := hrel
        cases gk with
        | zero =>
          obtain rfl : i = xs.length := by omega
          rw [List.take_length] at hc2
          go_wp2_with fail
          go_ret
          exact ⟨by unfold wrErr; rw [HV2.out]; rfl, c2, by unfold wrBits; rw [HV2.out]; exact hc2, hS2.swap.tl⟩
        | succ m =>
          have hlt : i < xs.length := by omega
          obtain ⟨x, hk⟩ : ∃ x, xs[i]? = some x := ⟨_, List.getElem?_eq_getElem hlt⟩
          obtain ⟨ad, rfl, hcell⟩ := (HX.out _ _ hS2.swap.tl).at (iv_get xs i x hk)
          have hso : symOk l x = true := List.all_eq_true.1 HV2.out x (List.mem_of_getElem? hk)
          obtain ⟨S, K, rfl, hS1, hSK, hK0, hK15⟩ := symOk_at l HALL.out x hso
          have hcv := codesV_at l S K hSK
          obtain ⟨g, capg, cur, e, _⟩ := HR.out.2.form (by omega)
          simp only [Value.slice.injEq, true_and] at e
          obtain ⟨rfl, rfl⟩ := e
          have hl1 := HR.out.2.cellAt hS2 1 rfl hcv.1
          have hl2 := HR.out.2.cellAt hS2 1 rfl hcv.2
          rw [if_pos hK0] at hl1
          have htk : (xs.take (i + 1)).flatMap (symBits l) = (xs.take i).flatMap (symBits l) ++ bitsOf (codeP l S) K := by
            rw [List.take_add_one, hk, List.flatMap_append]
            congr 1
            simp only [Option.toList_some, List.flatMap_cons, List.flatMap_nil, List.append_nil, symBits, Int.toNat_natCast]
            rw [List.getD_eq_getElem?_getD, hSK]
            simp
          have hbits : (bits ++ (xs.take i).flatMap (symBits l)).length ≤ 16000000 := by
            have h1 := symsBits_le l HALL.out (xs.take i)
            have h2 : (xs.take i).length ≤ xs.length := List.length_take_le' _ _
            rw [List.length_append]
            omega
          have hcr := codeP_range l S K hSK (by omega)
          have hcs := fstP_small l ((okLens_iff l).1 hok).2.1 K hK15
          have hc32 : (codeP l S : Int) ≤ 32768 := by omega
          have HT := Lib.hid (And.intro htk hbits)
          clear hcv hso hk hSK htk hcr hcs hbits
          go_wp2_with (first | ((with_reducible refine wpStill_plain ?_ ?_ (fun _ _ => ?_)); rfl; rfl) | (with_reducible refine wpStill_nil ?_) | ((with_reducible refine wp_draw_tail (id := 13) 12 mixed ?_ (fun _ hK => ?_)); kernel_rfl; simp only [List.take_succ_cons, List.take_zero, List.drop_succ_cons, List.drop_zero] at hK ⊢))
          refine (put_any p _ (codeP l S : Int) (K : Int) hS2.drew hc2 (by omega) (by omega) (by omega) (by omega) (by have := HT.out.2; omega)).mono ?_
          rintro e w5 ⟨rfl, c5, hc5, hS5⟩
          rw [Int.toNat_natCast, Int.toNat_natCast, List.append_assoc, ← HT.out.1] at hc5
          go_wp2_with fail
          go_roundg m
          case measure => omega
          case rel => exact ⟨i + 1, by omega, by go_num, c5, hc5, hS5⟩
    | succ m =>
      have hlt : i < xs.length := by omega
      obtain ⟨x, hk⟩ : ∃ x, xs[i]? = some x := ⟨_, List.getElem?_eq_getElem hlt⟩
      obtain ⟨ad, rfl, hcell⟩ := (HX.out _ _ HR.out.1.swap.tl).at (iv_get xs i x hk)
      have htk : xs.take (i + 1) = xs.take i ++ [x] := by rw [List.take_add_one, hk]; rfl
      cases hso : symOk l x with
      | false =>
        have hall : xs.all (symOk l) = false := by
          rw [List.all_eq_false]
          exact ⟨x, List.mem_of_getElem? hk, by simp [hso]⟩
        have HA := Lib.hid hall
        clear hk htk hall
        by_cases q1 : x < 0
        · clear hso
          go_wp2_with fail
          go_ret
          exact ⟨by unfold wrErr; rw [HA.out]; rfl, c, by unfold wrBits; rw [HA.out]; exact HC.out, HR.out.1.swap.tl⟩
        by_cases q2 : (l.length : Int) ≤ x
        · clear hso
          go_wp2_with fail
          go_ret
          exact ⟨by unfold wrErr; rw [HA.out]; rfl, c, by unfold wrBits; rw [HA.out]; exact HC.out, HR.out.1.swap.tl⟩
        obtain ⟨S, rfl⟩ := Int.eq_ofNat_of_zero_le (show 0 ≤ x by omega)
        have hSl : S < l.length := by omega
        have hS0 : l[S]? = some ((0 : Nat) : Int) := by
          have h1 : l[S]? = some l[S] := List.getElem?_eq_getElem hSl
          simp only [symOk, Int.toNat_natCast, List.getD_eq_getElem?_getD, h1, Option.getD_some] at hso
          have h2 : l[S] = 0 := by
            refine Classical.byContradiction fun hne => ?_
            have h3 : (l[S] == 0) = false := by simpa using hne
            rw [h3] at hso
            simp at hso
            omega
          rw [h1, h2]
          rfl
        have hcv := codesV_at l S 0 hS0
        obtain ⟨g, capg, cur, e, _⟩ := HR.out.2.form (by omega)
        simp only [Value.slice.injEq, true_and] at e
        obtain ⟨rfl, rfl⟩ := e
        have hl2 := HR.out.2.cellAt HR.out.1 1 rfl hcv.2
        clear hso hcv hS0
        go_wp2_with fail
        go_ret
        exact ⟨by unfold wrErr; rw [HA.out]; rfl, c, by unfold wrBits; rw [HA.out]; exact HC.out, HR.out.1.swap.tl⟩
      | true =>
        have HV3 : Hid ((xs.take (i + 1)).all (symOk l) = true) := Lib.hid (by rw [htk, List.all_append, HV.out]; simp [hso])
        obtain ⟨S, K, rfl, hS1, hSK, hK0, hK15⟩ := symOk_at l HALL.out x hso
        have hcv := codesV_at l S K hSK
        obtain ⟨g, capg, cur, e, _⟩ := HR.out.2.form (by omega)
        simp only [Value.slice.injEq, true_and] at e
        obtain ⟨rfl, rfl⟩ := e
        have hl2 := HR.out.2.cellAt HR.out.1 1 rfl hcv.2
        have q1 : decide ((S : Int) < 0) = false := by simp <;> omega
        have q2 : decide (l.length ≤ S) = false := by simp <;> omega
        have q3 : ((K : Int) == 0) = false := by simp <;> omega
        clear hso hcv hSK hk htk
        go_wp2_with fail
        go_roundg m
        case measure => omega
        case rel => exact ⟨i + 1, by omega, by go_num, HV3, rfl⟩
end
end Go.Proofs.Ytdgpbgdpdmikaaa

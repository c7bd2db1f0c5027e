/-
  Texts joined: CodesW, EntEnc, BytesStr, BytesEq, EntDec, PureRead, PureEntB, PureEntC, PureEntD, Ban, EntLaw, FillB, EntXor, Short, OpenB.
-/
import Derived.Test.YtdhnmcdgiddhdaaEg9
import Derived.Test.YtdhnmcdgiddhdaaEg10
import Derived.Test.YtdhnmcdgiddhdaaEg5
import Derived.Test.YtdhnmcdgiddhdaaEg8
import Derived.Laws.Strings
import Derived.Lib.SlBytesConst
import Derived.Deep.RegionWith
import Derived.Test.YtdhnmcdgiddhdaaEg1
import Derived.WalkKit
import Derived.ProofKit
import Derived.OpenShut
import Derived.SizedLaws
import Derived.ChangeSlices
/-
  Contract of codes.Write.
-/
set_option linter.unusedVariables false
set_option linter.unusedSimpArgs false
namespace Go.Proofs.Ytdhnmcdgiddhdaa
open Go.RowKit
set_option maxRecDepth 100000
/-- The bits of a symbol. -/
def symBits (l : List Int) (s : Int) : List Bool := bitsOf (codeP l s.toNat) (l.getD s.toNat 0).toNat
def symOk (l : List Int) (s : Int) : Bool := decide (0 ≤ s) && decide (s < (l.length : Int)) && !(l.getD s.toNat 0 == 0)
theorem symBits_le (l : List Int) (hall : ∀ k ∈ l, 0 ≤ k ∧ k ≤ 15) (s : Int) : (symBits l s).length ≤ 15 := by
  unfold symBits
  rw [bitsOf_length, List.getD_eq_getElem?_getD]
  cases h : l[s.toNat]? with
  | none => simp
  | some k => have := hall k (List.mem_of_getElem? h); simp; omega
theorem symsBits_le (l : List Int) (hall : ∀ k ∈ l, 0 ≤ k ∧ k ≤ 15) (xs : List Int) : (xs.flatMap (symBits l)).length ≤ 15 * xs.length := by
  induction xs with
  | nil => simp
  | cons x xs ih =>
    have := symBits_le l hall x
    simp only [List.flatMap_cons, List.length_append, List.length_cons]
    omega
theorem symOk_at (l : List Int) (hall : ∀ k ∈ l, 0 ≤ k ∧ k ≤ 15) (s : Int) (h : symOk l s = true) : ∃ S K : Nat, s = (S : Int) ∧ S < l.length ∧ l[S]? = some (K : Int) ∧ 0 < K ∧ K ≤ 15 := by
  simp only [symOk, Bool.and_eq_true, decide_eq_true_eq, Bool.not_eq_true', beq_eq_false_iff_ne] at h
  obtain ⟨⟨h1, h2⟩, h3⟩ := h
  obtain ⟨S, rfl⟩ := Int.eq_ofNat_of_zero_le h1
  have hS : S < l.length := by omega
  rw [Int.toNat_natCast, List.getD_eq_getElem?_getD, List.getElem?_eq_getElem hS] at h3
  have h4 := hall l[S] (List.getElem_mem _)
  obtain ⟨K, hK⟩ := Int.eq_ofNat_of_zero_le h4.1
  have h5 : l[S] ≠ 0 := h3
  exact ⟨S, K, rfl, hS, by rw [List.getElem?_eq_getElem hS, hK], by omega, by omega⟩
theorem codesV_at (l : List Int) (S K : Nat) (h : l[S]? = some (K : Int)) : (codesV l)[S * 2]? = some (.int .u32 (if 0 < K then (codeP l S : Int) else 0)) ∧ (codesV l)[S * 2 + 1]? = some (.int .i64 (K : Int)) := by
  have hS : S < l.length := (List.getElem?_eq_some_iff.1 h).1
  have h0 := rowsOf_get (codeCell l) l.length 2 (by omega) (codeCell_len l) S 0 hS (by omega)
  have h1 := rowsOf_get (codeCell l) l.length 2 (by omega) (codeCell_len l) S 1 hS (by omega)
  have hd : l.getD S 0 = (K : Int) := by rw [List.getD_eq_getElem?_getD, h]; rfl
  have hcc : codeCell l S = if 0 < (K : Int) then [.int .u32 (codeP l S : Int), .int .i64 (K : Int)] else [.int .u32 0, .int .i64 0] := by unfold codeCell; rw [hd]
  rw [hcc] at h0 h1
  unfold codesV
  rw [show S * 2 = S * 2 + 0 from rfl, h0, show S * 2 + 0 + 1 = S * 2 + 1 from rfl, h1]
  by_cases e : 0 < K
  · have e2 : (0 : Int) < (K : Int) := by omega
    simp [e, e2]
  · have e2 : K = 0 := by omega
    subst e2
    simp
def wrErr (l xs : List Int) : Int := if xs.all (symOk l) then 0 else 7
def wrBits (l xs : List Int) (bits : List Bool) : List Bool := if xs.all (symOk l) then bits ++ xs.flatMap (symBits l) else bits
section
variable {B : Nat} {w0 w : World} {F : List HL} {c : HL}
theorem write_bad (p : Nat) (bits : List Bool) (v vx : Value) (l : List Int) (hS : St B w0 w (c :: F)) (h : Rd w 1 v l.length (iv l)) (hn : l.length ≤ 1000000) (hb : okLens l = false) :
    Calls Try.prog 28 #[.pointer (some ⟨p, 0, none⟩), v, vx] w fun e w' => e = .returned (.int .i64 10) ∧ St B w0 w' (c :: F) := by
  go_enter Try.func28, Try.ntmps28
  go_wp2_with fail
  refine (of_bad v l w h hn hb).mono ?_
  rintro e w1 ⟨rfl, hS1⟩
  go_wp2_with fail
  go_ret
  exact ⟨rfl, hS.mono hS1.below⟩
set_option maxHeartbeats 2000000 in
theorem write_any (p : Nat) (bits : List Bool) (v vx : Value) (l xs : List Int) (hS : St B w0 w (c :: F)) (hc : WrC p bits c) (h : Rd w 1 v l.length (iv l)) (hx : Rd w 1 vx xs.length (iv xs)) (hn : l.length ≤ 300) (hok : okLens l = true) (hxl : xs.length ≤ 1000000) (hbl : bits.length ≤ 1000000) 
    (hapx : ∀ w' c', St B w0 w' (c' :: F) → Rd w' 1 vx xs.length (iv xs)) :
    Calls Try.prog 28 #[.pointer (some ⟨p, 0, none⟩), v, vx] w fun e w' => e = .returned (.int .i64 (wrErr l xs)) ∧ ∃ c', WrC p (wrBits l xs bits) c' ∧ St B w0 w' (c' :: F) := by
  have hok2 := (okLens_iff l).1 hok
  have HALL := Lib.hid hok2.2.2
  obtain ⟨ao, cap, rfl⟩ := hx.shape
  have hxn : (xs.length : Int) ≤ 1000000 := by omega
  have HX := Lib.hid hapx
  have HC := Lib.hid hc
  have hxp := hx.cap
  clear hok2 hapx hc
  go_enter Try.func28, Try.ntmps28
  go_wp2_with fail
  refine (of_ok v l w h hn hok).mono ?_
  rintro e w1 ⟨u, cC, rfl, hrC, hS1⟩
  replace hS := (hS.join hS1).swap
  obtain ⟨aou, capu, rfl⟩ := hrC.shape
  go_wp2_with fail
  clear hS1
  have HR := Lib.hid (And.intro hS hrC)
  have HH := Lib.hid hx
  clear h hx
  go_loopg [23] xs.length (fun m s23 wr => ∃ i : Nat, i + m = xs.length ∧ s23 = .int .i64 (i : Int) ∧ Hid ((xs.take i).all (symOk l) = true) ∧ w1 = wr)
  case atStart => exact ⟨0, by omega, rfl, Lib.hid rfl, rfl⟩
  case round =>
    obtain ⟨i, hi, rfl, HV, rfl⟩ := hrel
    cases gk with
    | zero =>
      obtain rfl : i = xs.length := by omega
      have hv := HV.out
      rw [List.take_length] at hv
      have HV2 := Lib.hid hv
      clear hv hi HV
      go_wp2_with fail
      go_loopg [46] xs.length (fun m s46 wr => ∃ i : Nat, i + m = xs.length ∧ s46 = .int .i64 (i : Int) ∧ ∃ c', WrC p (bits ++ (xs.take i).flatMap (symBits l)) c' ∧ St B w0 wr (c' :: cC :: F))
      case atStart => exact ⟨0, by omega, rfl, c, by simpa using HC.out, HR.out.1⟩
      case round =>
        obtain ⟨i, hi, rfl, c2, hc2, hS2⟩ := hrel
        cases gk with
        | zero =>
          obtain rfl : i = xs.length := by omega
          rw [List.take_length] at hc2
          go_wp2_with fail
          go_ret
          exact ⟨by unfold wrErr; rw [HV2.out]; rfl, c2, by unfold wrBits; rw [HV2.out]; exact hc2, hS2.swap.tl⟩
        | succ m =>
          have hlt : i < xs.length := by omega
          obtain ⟨x, hk⟩ : ∃ x, xs[i]? = some x := ⟨_, List.getElem?_eq_getElem hlt⟩
          obtain ⟨ad, rfl, hcell⟩ := (HX.out _ _ hS2.swap.tl).at (iv_get xs i x hk)
          have hso : symOk l x = true := List.all_eq_true.1 HV2.out x (List.mem_of_getElem? hk)
          obtain ⟨S, K, rfl, hS1, hSK, hK0, hK15⟩ := symOk_at l HALL.out x hso
          have hcv := codesV_at l S K hSK
          obtain ⟨g, capg, cur, e, _⟩ := HR.out.2.form (by omega)
          simp only [Value.slice.injEq, true_and] at e
          obtain ⟨rfl, rfl⟩ := e
          have hl1 := HR.out.2.cellAt hS2 1 rfl hcv.1
          have hl2 := HR.out.2.cellAt hS2 1 rfl hcv.2
          rw [if_pos hK0] at hl1
          have htk : (xs.take (i + 1)).flatMap (symBits l) = (xs.take i).flatMap (symBits l) ++ bitsOf (codeP l S) K := by
            rw [List.take_add_one, hk, List.flatMap_append]
            congr 1
            simp only [Option.toList_some, List.flatMap_cons, List.flatMap_nil, List.append_nil, symBits, Int.toNat_natCast]
            rw [List.getD_eq_getElem?_getD, hSK]
            simp
          have hbits : (bits ++ (xs.take i).flatMap (symBits l)).length ≤ 16000000 := by
            have h1 := symsBits_le l HALL.out (xs.take i)
            have h2 : (xs.take i).length ≤ xs.length := List.length_take_le' _ _
            rw [List.length_append]
            omega
          have hcr := codeP_range l S K hSK (by omega)
          have hcs := fstP_small l ((okLens_iff l).1 hok).2.1 K hK15
          have hc32 : (codeP l S : Int) ≤ 32768 := by omega
          have HT := Lib.hid (And.intro htk hbits)
          clear hcv hso hk hSK htk hcr hcs hbits
          go_wp2_with (first | ((with_reducible refine wpStill_plain ?_ ?_ (fun _ _ => ?_)); rfl; rfl) | (with_reducible refine wpStill_nil ?_) | ((with_reducible refine wp_draw_tail (id := 13) 12 mixed ?_ (fun _ hK => ?_)); kernel_rfl; simp only [List.take_succ_cons, List.take_zero, List.drop_succ_cons, List.drop_zero] at hK ⊢))
          refine (put_any p _ (codeP l S : Int) (K : Int) hS2.drew hc2 (by omega) (by omega) (by omega) (by omega) (by have := HT.out.2; omega)).mono ?_
          rintro e w5 ⟨rfl, c5, hc5, hS5⟩
          rw [Int.toNat_natCast, Int.toNat_natCast, List.append_assoc, ← HT.out.1] at hc5
          go_wp2_with fail
          go_roundg m
          case measure => omega
          case rel => exact ⟨i + 1, by omega, by go_num, c5, hc5, hS5⟩
    | succ m =>
      have hlt : i < xs.length := by omega
      obtain ⟨x, hk⟩ : ∃ x, xs[i]? = some x := ⟨_, List.getElem?_eq_getElem hlt⟩
      obtain ⟨ad, rfl, hcell⟩ := (HX.out _ _ HR.out.1.swap.tl).at (iv_get xs i x hk)
      have htk : xs.take (i + 1) = xs.take i ++ [x] := by rw [List.take_add_one, hk]; rfl
      cases hso : symOk l x with
      | false =>
        have hall : xs.all (symOk l) = false := by
          rw [List.all_eq_false]
          exact ⟨x, List.mem_of_getElem? hk, by simp [hso]⟩
        have HA := Lib.hid hall
        clear hk htk hall
        by_cases q1 : x < 0
        · clear hso
          go_wp2_with fail
          go_ret
          exact ⟨by unfold wrErr; rw [HA.out]; rfl, c, by unfold wrBits; rw [HA.out]; exact HC.out, HR.out.1.swap.tl⟩
        by_cases q2 : (l.length : Int) ≤ x
        · clear hso
          go_wp2_with fail
          go_ret
          exact ⟨by unfold wrErr; rw [HA.out]; rfl, c, by unfold wrBits; rw [HA.out]; exact HC.out, HR.out.1.swap.tl⟩
        obtain ⟨S, rfl⟩ := Int.eq_ofNat_of_zero_le (show 0 ≤ x by omega)
        have hSl : S < l.length := by omega
        have hS0 : l[S]? = some ((0 : Nat) : Int) := by
          have h1 : l[S]? = some l[S] := List.getElem?_eq_getElem hSl
          simp only [symOk, Int.toNat_natCast, List.getD_eq_getElem?_getD, h1, Option.getD_some] at hso
          have h2 : l[S] = 0 := by
            refine Classical.byContradiction fun hne => ?_
            have h3 : (l[S] == 0) = false := by simpa using hne
            rw [h3] at hso
            simp at hso
            omega
          rw [h1, h2]
          rfl
        have hcv := codesV_at l S 0 hS0
        obtain ⟨g, capg, cur, e, _⟩ := HR.out.2.form (by omega)
        simp only [Value.slice.injEq, true_and] at e
        obtain ⟨rfl, rfl⟩ := e
        have hl2 := HR.out.2.cellAt HR.out.1 1 rfl hcv.2
        clear hso hcv hS0
        go_wp2_with fail
        go_ret
        exact ⟨by unfold wrErr; rw [HA.out]; rfl, c, by unfold wrBits; rw [HA.out]; exact HC.out, HR.out.1.swap.tl⟩
      | true =>
        have HV3 : Hid ((xs.take (i + 1)).all (symOk l) = true) := Lib.hid (by rw [htk, List.all_append, HV.out]; simp [hso])
        obtain ⟨S, K, rfl, hS1, hSK, hK0, hK15⟩ := symOk_at l HALL.out x hso
        have hcv := codesV_at l S K hSK
        obtain ⟨g, capg, cur, e, _⟩ := HR.out.2.form (by omega)
        simp only [Value.slice.injEq, true_and] at e
        obtain ⟨rfl, rfl⟩ := e
        have hl2 := HR.out.2.cellAt HR.out.1 1 rfl hcv.2
        have q1 : decide ((S : Int) < 0) = false := by simp <;> omega
        have q2 : decide (l.length ≤ S) = false := by simp <;> omega
        have q3 : ((K : Int) == 0) = false := by simp <;> omega
        clear hso hcv hSK hk htk
        go_wp2_with fail
        go_roundg m
        case measure => omega
        case rel => exact ⟨i + 1, by omega, by go_num, HV3, rfl⟩
end
end Go.Proofs.Ytdhnmcdgiddhdaa
/-
  Contract of entropy.Encode.
-/
set_option linter.unusedVariables false
set_option linter.unusedSimpArgs false
namespace Go.Proofs.Ytdhnmcdgiddhdaa
open Go.RowKit
set_option maxRecDepth 100000
/-- Lengths, four bits each. -/
def nibE (l : List Int) : List Bool := l.flatMap fun x => bitsOf x.toNat 4
theorem nibE_snoc (l : List Int) (x : Int) : nibE (l ++ [x]) = nibE l ++ bitsOf x.toNat 4 := by simp [nibE]
theorem nibE_length (l : List Int) : (nibE l).length = 4 * l.length := by
  induction l with
  | nil => rfl
  | cons x l ih =>
    have e : nibE (x :: l) = bitsOf x.toNat 4 ++ nibE l := rfl
    rw [e, List.length_append, bitsOf_length, ih, List.length_cons]
    omega
def symE (L : List UInt8) : List Int := enc (mtfE mtf0 L) 0
def bitE (L : List UInt8) : List Bool := wrBits (lensE (symE L)) (symE L) (nibE (lensE (symE L)))
/-- What a text is coded as. -/
def EncR (b out : List UInt8) : Prop :=
  (b = [] ∧ out = putN 0) ∨ (b ≠ [] ∧ ∃ (T : List Nat) (L cs : List UInt8), IsSA (nb b) T ∧ nb L = fwdN (nb b) (b.length :: T) ∧ cs.length = ((bitE L).length + 7) / 8 ∧ Packed (bitE L) cs ∧ out = putN b.length ++ putN (atF b.length T) ++ cs)
def EncOut (b : List UInt8) (w : World) (e : Ending) (w' : World) : Prop := ∃ out v c, e = .returned v ∧ RowC 5 1 v out.length (bv out) c ∧ EncR b out ∧ St w.heap.size w w' [c]
theorem putF_le : ∀ (f n : Nat), (putF f n).length ≤ f + 1
  | 0, n => by simp [putF]
  | f + 1, n => by
    unfold putF
    split
    · have := putF_le f (n / 128)
      simp only [List.length_cons]
      omega
    · simp
theorem putN_le (n : Nat) : (putN n).length ≤ 10 := putF_le 9 n
theorem atF_le (b : List UInt8) (T : List Nat) (h : IsSA (nb b) T) (hb : b ≠ []) : atF b.length T ≤ b.length := by
  have e2 := h.len
  rw [nb_length] at e2
  have hp : 0 < b.length := List.length_pos_iff.2 hb
  have hm : 0 ∈ b.length :: T := List.mem_cons_of_mem _ (h.perm.mem_iff.2 (by rw [nb_length, List.mem_range]; exact hp))
  have := List.idxOf_lt_length_iff.2 hm
  unfold atF
  rw [List.length_cons] at this
  omega
theorem infoI64 : (Try.prog.info? 2).map (fun i => (i.zero, i.size, i.bytes)) = some (some (.int .i64 0), 1, 8) := by kernel_rfl
set_option maxHeartbeats 8000000 in
theorem entenc_any (v : Value) (b : List UInt8) (w : World) (h : Rd w 1 v b.length (bv b)) (hn : b.length ≤ 100000) :
    Calls Try.prog 13 #[v] w (EncOut b w) := by
  obtain ⟨i0, i0a, i0b, i0c, i0d⟩ := info_parts infoI64
  obtain ⟨j0, j0a, j0b, j0c, j0d⟩ := info_parts infoU8
  obtain ⟨ao, cap, rfl⟩ := h.shape
  have H0 := Lib.hid h
  have hni : (b.length : Int) ≤ 100000 := by omega
  have hwl : IntKind.u64.wrap (b.length : Int) = (b.length : Int) := by rw [wrap_u64']; omega
  clear h
  go_enter Try.func13, Try.ntmps13
  go_wp2_with fail
  refine (numput_any b.length w (by omega)).mono ?_
  rintro e w1 ⟨v3, c3, rfl, h3, hS3⟩
  obtain ⟨ao3, cap3, rfl⟩ := h3.shape
  have H3 := Lib.hid (And.intro h3 hS3)
  clear h3 hS3
  by_cases q0 : b.length = 0
  · have q0i : ((b.length : Int) == 0) = true := by rw [q0]; rfl
    have HB : Hid (b = []) := Lib.hid (List.eq_nil_of_length_eq_zero q0)
    clear q0
    go_wp2_with fail
    go_ret
    exact ⟨_, _, c3, rfl, H3.out.1, .inl ⟨HB.out, by rw [HB.out]; rfl⟩, H3.out.2⟩
  have q0i : ((b.length : Int) == 0) = false := by rw [beq_eq_false_iff_ne]; omega
  have HB0 : Hid (b ≠ []) := Lib.hid (fun e => q0 (by rw [e]; rfl))
  clear q0
  go_wp2_with fail
  refine (forward_any b _ w1 (by omega) (H0.out.st H3.out.2)).mono ?_
  rintro e w2 ⟨T, v4, c4, L, hsa, rfl, h4, hL, hS4⟩
  obtain ⟨ao4, cap4, rfl⟩ := h4.shape
  have hLl : L.length ≤ b.length + 1 := by
    have e1 := congrArg List.length hL
    rw [nb_length] at e1
    have e2 := hsa.len
    rw [nb_length] at e2
    rw [e1]
    unfold fwdN
    rw [List.length_map]
    refine Nat.le_trans (List.length_filter_le _ _) ?_
    simp [e2]
  have HT := Lib.hid (And.intro hsa hL)
  have H4 := Lib.hid (And.intro h4 (H3.out.2.join hS4))
  have hat : atF b.length T ≤ b.length := by
    exact atF_le b T hsa HB0.out
  clear hsa hL h4 hS4
  go_wp2_with fail
  refine (mtfenc_any _ L w2 (H4.out.1.rd H4.out.2 0 rfl) (by omega)).mono ?_
  rintro e w3 ⟨v5, c5, rfl, h5, hS5⟩
  obtain ⟨ao5, cap5, rfl⟩ := h5.shape
  have H5 := Lib.hid (And.intro h5 (H4.out.2.join hS5))
  clear h5 hS5
  go_wp2_with fail
  refine (encode_any _ (mtfE mtf0 L) w3 (H5.out.1.rd H5.out.2 0 rfl) (by rw [mtfE_length]; omega)).mono ?_
  rintro e w4 ⟨v6, c6, rfl, h6, hS6⟩
  obtain ⟨ao6, cap6, rfl⟩ := h6.shape
  have hxl : (enc (mtfE mtf0 L) 0).length ≤ 200000 := by
    have := enc_le (mtfE mtf0 L) 0
    rw [mtfE_length] at this
    omega
  have HX := Lib.hid (enc_range (mtfE mtf0 L) 0)
  have HSY : Hid (enc (mtfE mtf0 L) 0 = symE L) := Lib.hid rfl
  obtain ⟨xs, HXS⟩ : ∃ xs, Hid (xs = symE L) := ⟨_, Lib.hid rfl⟩
  rw [HSY.out, ← HXS.out] at h6 hxl HX
  rw [HSY.out, ← HXS.out]
  have hS7 := (H5.out.2.join hS6).pick [0, 3] (by decide) [c6, c3] rfl
  have H6 := Lib.hid h6
  clear h6 hS6
  go_wp2_with (at_make; (refine wpList_mk (n := 258) 47 i0 (.int .i64 0) _ _ rfl rfl _ _ _ _ rfl rfl Try.underlying47 i0a i0b i0c i0d rfl ?_ ?_ ?_ ?_ hS7 ?_); omega; omega; omega; (unfold maxLen; omega); intro g7 c7 w5 r7 s7)
  have HH := Lib.hid (And.intro r7 s7)
  clear r7 s7 hS7
  go_loopg [34] xs.length (fun m s34 wr => ∃ i : Nat, i + m = xs.length ∧ s34 = .int .i64 (i : Int) ∧ ∃ c7, RowC 2 1 (.slice (some ⟨g7, 0, none⟩) 258 258) 258 (iv (frE (xs.take i))) c7 ∧ St w.heap.size w wr [c7, c6, c3])
  case atStart =>
    refine ⟨0, by omega, rfl, c7, ?_, HH.out.2⟩
    rw [List.take_zero, frE_zero, iv_replicate]
    exact HH.out.1
  case round =>
    clear HH c7
    obtain ⟨i, hi, rfl, c7, hr7, hS7⟩ := hrel
    cases gk with
    | zero =>
      obtain rfl : i = xs.length := by omega
      rw [List.take_length] at hr7
      have H7 := Lib.hid (And.intro hr7 hS7)
      clear hi
      go_wp2_with fail
      have hrd7 : Rd wr 1 (.slice (some ⟨g7, 0, none⟩) 258 258) (frE xs).length (iv (frE xs)) := by
        rw [frE_length]
        exact H7.out.1.rd H7.out.2 0 rfl
      clear hr7 hS7
      refine (of_any (frE xs) _ wr (by rw [frE_length]; omega) hrd7).mono ?_
      rintro e w6 (⟨hbad, _⟩ | ⟨_, v8, c8, rfl, hr8, hS8⟩)
      · rw [frE_good xs (by omega)] at hbad
        cases hbad
      have hr8' : RowC 3 1 v8 258 (iv (lensE xs)) c8 := by
        rw [frE_length] at hr8
        exact hr8
      have hSA := ((H7.out.2.join hS8).pick [0, 2, 3] (by decide) [c8, c6, c3] rfl).alloc (Obj.cells #[.slice none 0 0, .int .i64 0] 51 (0, 0))
      obtain ⟨ao8, cap8, rfl⟩ := hr8'.shape
      have H8 := Lib.hid (And.intro hr8' hSA)
      have hc := wr_new w6.heap.size
      have HCW := Lib.hid hc
      clear hr8 hS8 hr8' hSA hrd7 hc H7
      go_wp2_with fail
      have HLB := Lib.hid (lensE_range xs)
      have hll := lensE_length xs
      obtain ⟨ls, HLS⟩ : ∃ ls, Hid (ls = lensE xs) := ⟨_, Lib.hid rfl⟩
      rw [← HLS.out] at H8 HLB hll
      go_loopg [54] 258 (fun m s54 wr => ∃ i : Nat, i + m = 258 ∧ s54 = .int .i64 (i : Int) ∧ ∃ cw, WrC w6.heap.size (nibE (ls.take i)) cw ∧ St w.heap.size w wr [cw, c8, c6, c3])
      case atStart => exact ⟨0, by omega, rfl, _, HCW.out, H8.out.2⟩
      case round =>
        obtain ⟨i, hi, rfl, cw, hcw, hSw⟩ := hrel
        cases gk with
        | zero =>
          obtain rfl : i = 258 := by omega
          rw [List.take_of_length_le (by omega)] at hcw
          have hbl : (nibE ls).length ≤ 1000000 := by rw [nibE_length, hll]; omega
          have hrd8 : Rd wr 1 (Value.slice ao8 258 cap8) ls.length (iv ls) := by rw [hll]; exact H8.out.1.rd hSw 1 rfl
          have HR := Lib.hid hrd8
          have HC := Lib.hid (And.intro hcw hSw)
          have HN := Lib.hid hbl
          clear hcw hSw hrd8 hbl hi
          go_wp2_with fail
          refine (write_any w6.heap.size (nibE ls) _ _ ls xs HC.out.2 HC.out.1 HR.out (H6.out.rd HC.out.2 2 rfl) (by omega) (by rw [HLS.out]; exact lensE_ok xs) (by omega) HN.out (fun w' c' hS' => H6.out.rd hS' 2 rfl)).mono ?_
          rintro e w7 ⟨rfl, c9, hc9, hS9⟩
          have HW := Lib.hid (And.intro hc9 hS9)
          have hwb : (wrBits ls xs (nibE ls)).length ≤ 10000000 := by
            have h1 := symsBits_le ls (fun k hk => HLB.out k hk) xs
            have h2 := HN.out
            unfold wrBits
            split
            · rw [List.length_append]; omega
            · omega
          have HWB := Lib.hid hwb
          clear hc9 hS9 hwb
          have hwat : IntKind.u64.wrap (atF b.length T : Int) = (atF b.length T : Int) := by rw [wrap_u64']; omega
          go_wp2_with fail
          refine (numput_any (atF b.length T) w7 (by omega)).mono ?_
          rintro e w8 ⟨v10, c10, rfl, h10, hS10⟩
          obtain ⟨ao10, cap10, rfl⟩ := h10.shape
          have hSj := HW.out.2.join hS10
          have hrd10 := h10.rd hSj 0 rfl
          have H3r := H3.out.1
          have hp1 := putN_le b.length
          have hp2 := putN_le (atF b.length T)
          clear h10 hS10
          go_wp2_with (at_builtin; (refine wpList_app 4 22 j0 (.int .u8 0) _ _ rfl rfl rfl rfl Try.underlying22 j0a j0b j0c j0d rfl (by decide) hSj rfl H3r hrd10 (bv_one _) ?_ ?_ ?_); (unfold maxLen; omega); omega; intro v11 c11 w9 hr11 hS11)
          have hSk := hS11.pick [1, 4] (by decide) [c9, c11] rfl
          obtain ⟨ao11, cap11, rfl⟩ := hr11.shape
          refine (wbytes_any w6.heap.size _ hSk HW.out.1 (by have := HWB.out; omega)).mono ?_
          rintro e w10 ⟨v12, c12, cs, rfl, hr12, hS12, hcl, hpk⟩
          have hSm := hSk.join hS12
          have hrd12 := hr12.rd hSm 0 rfl
          obtain ⟨ao12, cap12, rfl⟩ := hr12.shape
          have hcn : cs.length ≤ 2000000 := by
            have := HWB.out
            omega
          have HP := Lib.hid (And.intro hcl hpk)
          clear hr12 hS12 hcl hpk hSj hrd10 hS11
          go_wp2_with (at_builtin; (refine wpList_app 2 22 j0 (.int .u8 0) _ _ rfl rfl rfl rfl Try.underlying22 j0a j0b j0c j0d rfl (by decide) hSm rfl hr11 hrd12 (bv_one _) ?_ ?_ ?_); (unfold maxLen; omega); omega; intro v13 c13 w11 hr13 hS13)
          go_ret
          have hSf := hS13.pick [2] (by decide) [c13] rfl
          have e9 : bitE L = wrBits ls xs (nibE ls) := by
            unfold bitE
            rw [← HXS.out, HLS.out]
          refine ⟨putN b.length ++ putN (atF b.length T) ++ cs, v13, c13, rfl, ?_, .inr ⟨HB0.out, T, L, cs, HT.out.1, HT.out.2, ?_, ?_, rfl⟩, hSf⟩
          · rw [bv_append, bv_append, List.length_append, List.length_append]
            exact hr13
          · rw [e9]; exact HP.out.1
          · rw [e9]; exact HP.out.2
        | succ m =>
          have hlt : i < ls.length := by omega
          obtain ⟨x, hk⟩ : ∃ x, ls[i]? = some x := ⟨_, List.getElem?_eq_getElem hlt⟩
          obtain ⟨ad, rfl, hcell⟩ := (H8.out.1.rd hSw 1 rfl).at (iv_get ls i x hk)
          have hxr := HLB.out x (List.mem_of_getElem? hk)
          obtain ⟨X, rfl⟩ := Int.eq_ofNat_of_zero_le hxr.1
          have htk : ls.take (i + 1) = ls.take i ++ [(X : Int)] := by rw [List.take_add_one, hk]; rfl
          have hbl : (nibE (ls.take i)).length ≤ 2000 := by
            rw [nibE_length]
            have := List.length_take_le' i ls
            omega
          have hwX : IntKind.u64.wrap (X : Int) = (X : Int) := by rw [wrap_u64']; omega
          have HT := Lib.hid (And.intro htk hbl)
          clear hk htk hbl
          go_wp2_with fail
          refine (put_any w6.heap.size _ (X : Int) 4 hSw hcw (by omega) (by omega) (by omega) (by omega) (by have := HT.out.2; omega)).mono ?_
          rintro e w7 ⟨rfl, c9, hc9, hS9⟩
          rw [Int.toNat_natCast, show (4 : Int).toNat = 4 from rfl] at hc9
          go_wp2_with fail
          go_roundg m
          case measure => omega
          case rel => exact ⟨i + 1, by omega, by go_num, c9, by rw [HT.out.1, nibE_snoc, Int.toNat_natCast]; exact hc9, hS9⟩
    | succ m =>
      have hlt : i < xs.length := by omega
      obtain ⟨x, hk⟩ : ∃ x, xs[i]? = some x := ⟨_, List.getElem?_eq_getElem hlt⟩
      obtain ⟨ad, rfl, hcell⟩ := (H6.out.rd hS7 1 rfl).at (iv_get xs i x hk)
      have hxr := HX.out x (List.mem_of_getElem? hk)
      obtain ⟨X, rfl⟩ := Int.eq_ofNat_of_zero_le hxr.1
      have hX : X < 258 := by omega
      have htk : xs.take (i + 1) = xs.take i ++ [(X : Int)] := by rw [List.take_add_one, hk]; rfl
      have hcnt : (xs.take i).count (X : Int) ≤ xs.length := Nat.le_trans List.count_le_length (List.length_take_le' _ _)
      have hfr : (frE (xs.take i))[X]? = some (((xs.take i).count (X : Int) : Nat) : Int) := mkI_get _ _ _ hX
      have hl := hr7.cellAt hS7 0 rfl (iv_get _ _ _ hfr)
      have hf := hr7.freeAt hS7 0 rfl X
      have hs := frE_step (xs.take i) X
      rw [← htk] at hs
      have HT := Lib.hid (And.intro hr7 (And.intro hS7 hs))
      generalize (xs.take i).count (X : Int) = C at *
      clear hk htk hxr hfr hs hr7 hS7
      go_wp2_with fail
      go_roundg m
      case measure => omega
      case rel =>
        obtain ⟨c', hr', hS'⟩ := HT.out.1.store HT.out.2.1 0 rfl rfl X (.int .i64 ((C : Int) + 1))
        rw [iv_set, ← HT.out.2.2] at hr'
        exact ⟨i + 1, by omega, by go_num, c', hr', hS'⟩
end Go.Proofs.Ytdhnmcdgiddhdaa
/-
  string(b) of bytes that are read.
-/
set_option linter.unusedVariables false
set_option linter.unusedSimpArgs false
namespace Go.Proofs.Ytdhnmcdgiddhdaa
open Go.RowKit
theorem conv_str {w : World} {v : Value} {n : Nat} {bs : List UInt8} (h : Rd w 1 v n (bv bs)) : (convert 22 9 v).run Try.prog w = .ok (.string ⟨bs.toArray⟩) w := by
  obtain ⟨ao, cap, rfl⟩ := h.shape
  have hl := h.len
  rw [bv_length, Nat.mul_one] at hl
  cases ao with
  | none =>
    obtain ⟨rfl, rfl, h0⟩ := h.none_iff
    have hbs : bs = [] := by simpa [bv] using h0
    subst hbs
    exact run_convert_bytes_nil w _ _ Try.underlying22 Try.underlying5 _ _ _ Try.underlying9
  | some ad =>
    subst hl
    refine run_convert_bytes_back w _ _ _ ad cap bs Try.underlying22 Try.underlying5 Try.underlying9 fun j hj => ?_
    obtain ⟨ad', e, hc⟩ := h.at (bv_get bs j _ (List.getElem?_eq_getElem hj))
    simp only [Option.some.injEq] at e
    subst e
    exact hc
end Go.Proofs.Ytdhnmcdgiddhdaa
/-
  Contract of bytes.Equal.
-/
set_option linter.unusedVariables false
set_option linter.unusedSimpArgs false
namespace Go.Proofs.Ytdhnmcdgiddhdaa
open Go.RowKit
set_option maxRecDepth 100000
set_option maxHeartbeats 800000 in
theorem byteseq_any (va vb : Value) (a b : List UInt8) (w : World) (na nb : Nat) (ha : Rd w 1 va na (bv a)) (hb : Rd w 1 vb nb (bv b)) :
    Calls Try.prog 32 #[va, vb] w fun e w' => w' = w ∧ e = .returned (.bool (a == b)) := by
  have hc1 := conv_str ha
  have hc2 := conv_str hb
  clear ha hb
  go_enter Try.func32, Try.ntmps32
  go_wp2_with fail
  go_ret
  exact ⟨rfl, rfl⟩
end Go.Proofs.Ytdhnmcdgiddhdaa
/-
  Contract of entropy.Decode.
-/
set_option linter.unusedVariables false
set_option linter.unusedSimpArgs false
namespace Go.Proofs.Ytdhnmcdgiddhdaa
open Go.RowKit
set_option maxRecDepth 100000
/-- What is read out of a text's code. -/
def DecR (b x : List UInt8) : Prop :=
  ∃ k, rdN b 1099511627776 = some (x.length, k) ∧ (x = [] ∨ x ≠ [] ∧ ∃ m k2, rdN (b.drop k) x.length = some (m, k2) ∧ 129 ≤ ((b.drop k).drop k2).length ∧
    TxGood ((b.drop k).drop k2) x.length m ∧ nb x = invP (nb (mtfD mtf0 (txD ((b.drop k).drop k2) x.length).1)) m)
def DecOut (b : List UInt8) (M : Nat) (w : World) (e : Ending) (w' : World) : Prop :=
  (∃ x v c, e = .returned (.tuple #[v, .int .i64 0]) ∧ RowC 5 1 v x.length (bv x) c ∧ EncR x b ∧ x.length ≤ M ∧ St w.heap.size w w' [c]) ∨
  (e = .returned (.tuple #[.slice none 0 0, .int .i64 6]) ∧ St w.heap.size w w' [] ∧ (∀ n k, rdN b 1099511627776 = some (n, k) → n ≤ M) ∧ ¬ ∃ x, x.length ≤ M ∧ EncR x b ∧ DecR b x ∧ ∀ eo, EncR x eo → eo = b) ∨
  (e = .returned (.tuple #[.slice none 0 0, .int .i64 2]) ∧ St w.heap.size w w' [] ∧ ∃ n k, rdN b 1099511627776 = some (n, k) ∧ M < n)
theorem nbE_inj {a b : List UInt8} (h : nb a = nb b) : a = b := (List.map_inj_right fun _ _ h => UInt8.toNat_inj.1 h).1 h
theorem rdN_le {b : List UInt8} {most n k : Nat} (h : rdN b most = some (n, k)) : n ≤ most := by
  unfold rdN at h
  split at h
  · cases h
  · injection h with h
    have h1 := congrArg Prod.fst h
    simp only at h1
    omega
theorem sizeLe {b : List UInt8} {n k M : Nat} (h : rdN b 1099511627776 = some (n, k)) (hq : ¬ M < n) : ∀ n' k', rdN b 1099511627776 = some (n', k') → n' ≤ M := fun n' k' h' => by
  rw [h] at h'
  injection h' with h'
  injection h' with h' _
  omega
theorem DecR.at {b x : List UInt8} {n k : Nat} (hk : rdN b 1099511627776 = some (n, k)) (hn : n ≠ 0) (h : DecR b x) : ∃ m k2, rdN (b.drop k) n = some (m, k2) ∧ 129 ≤ ((b.drop k).drop k2).length ∧
    TxGood ((b.drop k).drop k2) n m ∧ nb x = invP (nb (mtfD mtf0 (txD ((b.drop k).drop k2) n).1)) m := by
  obtain ⟨k', h1, h2⟩ := h
  rw [hk] at h1
  injection h1 with h1
  injection h1 with h1 h1'
  subst h1 h1'
  rcases h2 with rfl | ⟨_, h2⟩
  · exact absurd rfl hn
  · exact h2
section
attribute [local go_sem] max2_ints max_of_two
set_option maxHeartbeats 800000 in
theorem entdec_any (v : Value) (b : List UInt8) (most : Int) (w : World) (h : Rd w 1 v b.length (bv b)) (hn : b.length ≤ 1000000) (hm : most ≤ 100000) :
    Calls Try.prog 14 #[v, .int .i64 most] w (DecOut b most.toNat w) := by
  obtain ⟨ao, cap, rfl⟩ := h.shape
  have H0 := Lib.hid h
  obtain ⟨M, hM⟩ : ∃ M : Nat, M = most.toNat := ⟨_, rfl⟩
  have hmax : (if most < 0 then 0 else most) = (M : Int) := by split <;> omega
  have hM1 : M ≤ 100000 := by omega
  rw [← hM]
  have hS1 : St w.heap.size w (w.alloc (Obj.cells #[.slice ao b.length cap, .bool false] 57 (0, 0))) (rdrC w.heap.size (.slice ao b.length cap) false :: []) := (St.init w).alloc _
  have HS1 := Lib.hid hS1
  clear h hS1 hM
  go_enter Try.func14, Try.ntmps14
  go_wp2_with fail
  refine (rnum_any w.heap.size _ false b 1099511627776 (by decide) (fun h => by cases h) H0.out HS1.out hn).mono ?_
  rintro e w2 (⟨hnone, rfl, hS2⟩ | ⟨n, k, sv, hsome, rfl, hrd2, hS2⟩)
  · obtain ⟨d0, d1, _, _⟩ := rdr_cells hS2
    have HS2 := Lib.hid (And.intro hnone hS2)
    clear hnone hS2
    go_wp2_with fail
    go_ret2
    exact .inr (.inl ⟨rfl, HS2.out.2.pick [] (by decide) [] rfl, fun n k h => (by rw [HS2.out.1] at h; cases h), fun ⟨x, _, _, ⟨k, h, _⟩, _⟩ => by rw [HS2.out.1] at h; cases h⟩)
  · obtain ⟨d0, d1, _, _⟩ := rdr_cells hS2
    have HS2 := Lib.hid (And.intro hsome (And.intro hrd2 hS2))
    clear hsome hS2 hrd2
    by_cases qn : M < n
    · have qi : (M : Int) < (n : Int) := by omega
      have HQ := Lib.hid qn
      clear qn
      go_wp2_with fail
      go_ret2
      exact .inr (.inr ⟨rfl, HS2.out.2.2.pick [] (by decide) [] rfl, n, k, HS2.out.1, HQ.out⟩)
    · have qi : ¬ (M : Int) < (n : Int) := by omega
      have HQ := Lib.hid qn
      clear qn
      by_cases q0 : n = 0
      · subst q0
        go_wp2_with fail
        refine (entenc_any (.slice none 0 0) [] w2 (Rd.nil _ _) (by decide)).mono ?_
        rintro e w3 ⟨out, v3, c3, rfl, hr3, henc, hS3⟩
        have H3 := Lib.hid (And.intro hr3 (And.intro henc (HS2.out.2.2.join hS3)))
        clear hr3 henc hS3
        go_wp2_with fail
        refine (byteseq_any v3 (.slice ao b.length cap) out b w3 _ _ (H3.out.1.rd H3.out.2.2 0 rfl) (H0.out.st H3.out.2.2)).mono ?_
        rintro e w4 ⟨rfl, rfl⟩
        by_cases qe : out = b
        · have HE := Lib.hid qe
          have qb : (out == b) = true := by rw [qe]; exact beq_self_eq_true b
          clear qe
          go_wp2_with fail
          go_ret2
          exact .inl ⟨[], _, [], rfl, RowC.nil _ _, HE.out ▸ H3.out.2.1, Nat.zero_le _, H3.out.2.2.pick [] (by decide) [] rfl |>.one_nil⟩
        · have HE := Lib.hid qe
          have qb : (out == b) = false := by rw [beq_eq_false_iff_ne]; exact qe
          clear qe
          go_wp2_with fail
          go_ret2
          refine .inr (.inl ⟨rfl, H3.out.2.2.pick [] (by decide) [] rfl, sizeLe HS2.out.1 HQ.out, fun ⟨x, _, _, ⟨k', h1, h2⟩, h3⟩ => ?_⟩)
          rw [HS2.out.1] at h1
          obtain rfl : x = [] := List.eq_nil_of_length_eq_zero (by injection h1 with h1; injection h1 with h1 _; exact h1.symm)
          exact HE.out (h3 out H3.out.2.1)
      · have q0i : (0 : Int) < (n : Int) := by omega
        have HQ0 := Lib.hid q0
        clear q0
        have hn1 : n ≤ 100000 := by have := HQ.out; omega
        go_wp2_with fail
        clear d0 d1
        refine (rnum_any w.heap.size sv false (b.drop k) n (by omega) (fun h => by cases h) HS2.out.2.1 HS2.out.2.2 (by rw [List.length_drop]; omega)).mono ?_
        rintro e w3 (⟨hnone, rfl, hS3⟩ | ⟨m, k2, sv2, hsome, rfl, hrd3, hS3⟩)
        · obtain ⟨d0, d1, _, _⟩ := rdr_cells hS3
          have HS3 := Lib.hid (And.intro hnone hS3)
          clear hnone hS3
          go_wp2_with fail
          go_ret2
          refine .inr (.inl ⟨rfl, HS3.out.2.pick [] (by decide) [] rfl, sizeLe HS2.out.1 HQ.out, fun ⟨x, _, _, h2, _⟩ => ?_⟩)
          obtain ⟨m, k2, h3, _⟩ := DecR.at HS2.out.1 HQ0.out h2
          rw [HS3.out.1] at h3
          cases h3
        · obtain ⟨d0, d1, _, _⟩ := rdr_cells hS3
          have HS3 := Lib.hid (And.intro hsome (And.intro hrd3 hS3))
          have hm1 : m ≤ n := rdN_le hsome
          obtain ⟨ao3, cap3, rfl⟩ := hrd3.shape
          clear hsome hrd3 hS3
          obtain ⟨rs, HRS⟩ : ∃ rs, Hid (rs = (b.drop k).drop k2) := ⟨_, Lib.hid rfl⟩
          rw [← HRS.out] at HS3 d0
          by_cases ql : 129 ≤ rs.length
          · have qli : (129 : Int) ≤ (rs.length : Int) := by omega
            have HQL := Lib.hid ql
            clear ql
            have hrl : rs.length ≤ 1000000 := by rw [HRS.out, List.length_drop, List.length_drop]; omega
            go_wp2_with fail
            refine (text_any (.slice ao3 rs.length cap3) rs n m w3 (HS3.out.2.1.st HS3.out.2.2) hrl HQL.out (by omega) (by omega)).mono ?_
            rintro e w4 (⟨hg, v4, c4, x, rfl, hr4, hx, hS4⟩ | ⟨hg, rfl, hS4⟩)
            · have H4 := Lib.hid (And.intro hg (And.intro hr4 (And.intro hx (HS3.out.2.2.join hS4))))
              have hxl : x.length = n := by
                have e1 := congrArg List.length hx
                rw [nb_length, invP_length, nb_length, mtfD_length, hg.2.2.2.1] at e1
                exact e1
              obtain ⟨ao4, cap4, rfl⟩ := hr4.shape
              have hxn : x.length ≤ 100000 := by omega
              have HXL := Lib.hid hxl
              clear hg hr4 hx hS4 hxl
              go_wp2_with fail
              refine (entenc_any (.slice ao4 x.length cap4) x w4 (H4.out.2.1.rd H4.out.2.2.2 0 rfl) hxn).mono ?_
              rintro e w5 ⟨out, v5, c5, rfl, hr5, henc, hS5⟩
              have H5 := Lib.hid (And.intro hr5 (And.intro henc (H4.out.2.2.2.join hS5)))
              clear hr5 henc hS5
              go_wp2_with fail
              refine (byteseq_any v5 (.slice ao b.length cap) out b w5 _ _ (H5.out.1.rd H5.out.2.2 0 rfl) (H0.out.st H5.out.2.2)).mono ?_
              rintro e w6 ⟨rfl, rfl⟩
              by_cases qe : out = b
              · have HE := Lib.hid qe
                have qb : (out == b) = true := by rw [qe]; exact beq_self_eq_true b
                clear qe
                go_wp2_with fail
                go_ret2
                exact .inl ⟨x, _, c4, rfl, H4.out.2.1, HE.out ▸ H5.out.2.1, by have := HQ.out; have := HXL.out; omega, H5.out.2.2.pick [1] (by decide) _ rfl⟩
              · have HE := Lib.hid qe
                have qb : (out == b) = false := by rw [beq_eq_false_iff_ne]; exact qe
                clear qe
                go_wp2_with fail
                go_ret2
                refine .inr (.inl ⟨rfl, H5.out.2.2.pick [] (by decide) [] rfl, sizeLe HS2.out.1 HQ.out, fun ⟨y, _, _, h2, h3⟩ => ?_⟩)
                obtain ⟨m', k2', g1, g2, g3, g4⟩ := DecR.at HS2.out.1 HQ0.out h2
                rw [HS3.out.1] at g1
                injection g1 with g1
                injection g1 with g1 g1'
                subst g1 g1'
                rw [← HRS.out] at g4
                obtain rfl : y = x := nbE_inj (g4.trans H4.out.2.2.1.symm)
                exact HE.out (h3 out H5.out.2.1)
            · have H4 := Lib.hid (And.intro hg (HS3.out.2.2.join hS4))
              clear hg hS4
              go_wp2_with fail
              go_ret2
              refine .inr (.inl ⟨rfl, H4.out.2.pick [] (by decide) [] rfl, sizeLe HS2.out.1 HQ.out, fun ⟨y, _, _, h2, h3⟩ => ?_⟩)
              obtain ⟨m', k2', g1, g2, g3, g4⟩ := DecR.at HS2.out.1 HQ0.out h2
              rw [HS3.out.1] at g1
              injection g1 with g1
              injection g1 with g1 g1'
              subst g1 g1'
              rw [← HRS.out] at g3
              exact H4.out.1 g3
          · have qli : (rs.length : Int) < 129 := by omega
            have HQL := Lib.hid ql
            clear ql
            go_wp2_with fail
            go_ret2
            refine .inr (.inl ⟨rfl, HS3.out.2.2.pick [] (by decide) [] rfl, sizeLe HS2.out.1 HQ.out, fun ⟨x, _, _, h2, _⟩ => ?_⟩)
            obtain ⟨m', k2', g1, g2, g3, g4⟩ := DecR.at HS2.out.1 HQ0.out h2
            rw [HS3.out.1] at g1
            injection g1 with g1
            injection g1 with g1 g1'
            subst g1 g1'
            rw [← HRS.out] at g2
            exact HQL.out g2
end
end Go.Proofs.Ytdhnmcdgiddhdaa
/-
  Codes, plain: what was written is read again.
-/
set_option linter.unusedVariables false
set_option linter.unusedSimpArgs false
namespace Go.Proofs.Ytdhnmcdgiddhdaa
open Go.RowKit
set_option maxRecDepth 100000
/-! What was written is read again. -/
theorem symP_own (l : List Int) (s K : Nat) (h : l[s]? = some (K : Int)) (rest : List Bool) : ∀ d j m, j + (d + 1) = K → m + j = 15 → K ≤ 15 → symP l m j (codeP l s / 2 ^ (d + 1)) (bitsOf (codeP l s) (d + 1) ++ rest) = some (s, K)
  | d, j, m, hj, hm, hK => by
    obtain ⟨m, rfl⟩ : ∃ k, m = k + 1 := ⟨m - 1, by omega⟩
    rw [bitsOf_succ, List.cons_append, symP]
    have hv : 2 * (codeP l s / 2 ^ (d + 1)) + ((codeP l s).testBit d).toNat = codeP l s / 2 ^ d := by
      rw [Nat.pow_succ, ← Nat.div_div_eq_div_mul, Nat.testBit_eq_decide_div_mod_eq]
      generalize codeP l s / 2 ^ d = q
      have : q % 2 < 2 := Nat.mod_lt _ (by omega)
      by_cases h1 : q % 2 = 1
      · simp [h1]; omega
      · have : q % 2 = 0 := by omega
        simp [this]; omega
    rw [hv]
    cases d with
    | zero =>
      rw [Nat.pow_zero, Nat.div_one, show j + 1 = K from by omega, lookP_of l K _ s h rfl]
    | succ d =>
      have hnone : lookP l (j + 1) (codeP l s / 2 ^ (d + 1)) = none := by
        cases hl : lookP l (j + 1) (codeP l s / 2 ^ (d + 1)) with
        | none => rfl
        | some t =>
          exfalso
          have h1 := lookP_some _ _ _ _ hl
          have h2 := (codeP_far l t s (j + 1) K h1.1 h (by omega) (by omega)).1
          rw [h1.2, show K - (j + 1) = d + 1 from by omega] at h2
          omega
      rw [hnone]
      exact symP_own l s K h rest d (j + 1) m (by omega) (by omega) hK
theorem symP_bits (l : List Int) (s K : Nat) (h : l[s]? = some (K : Int)) (h1 : 1 ≤ K) (h2 : K ≤ 15) (hc : codeP l s < 2 ^ K) (rest : List Bool) : symP l 15 0 0 (bitsOf (codeP l s) K ++ rest) = some (s, K) := by
  obtain ⟨d, rfl⟩ : ∃ d, K = d + 1 := ⟨K - 1, by omega⟩
  have := symP_own l s (d + 1) h rest d 0 15 (by omega) (by omega) h2
  rwa [Nat.div_eq_of_lt hc] at this
/-- The place of a number among others, from one on; their number and one, if it is none of them. -/
def fi (e : Int) : List Int → Nat
  | [] => 1
  | x :: xs => if x = e then 1 else fi e xs + 1
theorem fi_pos (e : Int) (xs : List Int) : 1 ≤ fi e xs := by cases xs <;> simp [fi]; split <;> omega
theorem fi_spec (e : Int) : ∀ (xs : List Int) (k : Nat), (∀ j x, j < k → xs[j]? = some x → x ≠ e) → xs[k]? = some e → fi e xs = k + 1
  | [], k, _, h => by simp at h
  | x :: xs, 0, _, h => by simp at h; simp [fi, h]
  | x :: xs, k + 1, hn, h => by
    have h1 : x ≠ e := hn 0 x (by omega) rfl
    rw [fi, if_neg h1, fi_spec e xs k (fun j y hj hy => hn (j + 1) y (by omega) (by simpa using hy)) (by simpa using h)]
theorem read_back (l : List Int) (hk : kraftP l ≤ 32768) (hall : ∀ k ∈ l, 0 ≤ k ∧ k ≤ 15) (e most : Int) (pad : List Bool) : ∀ (xs : List Int) (m at_ : Nat) (out : List Int), xs.all (symOk l) = true → e ∈ xs → xs.length ≤ m →
    (readP l e most m out at_ (xs.flatMap (symBits l) ++ pad)).1 = (if most < ((out.length + fi e xs : Nat) : Int) then 2 else 0) ∧
    (readP l e most m out at_ (xs.flatMap (symBits l) ++ pad)).2.1 = (if most < ((out.length + fi e xs : Nat) : Int) then [] else out ++ xs.take (fi e xs))
  | [], m, at_, out, _, he, _ => by simp at he
  | x :: xs, m, at_, out, ho, he, hm => by
    obtain ⟨m, rfl⟩ : ∃ k, m = k + 1 := ⟨m - 1, by simp at hm; omega⟩
    rw [List.all_cons, Bool.and_eq_true] at ho
    obtain ⟨S, K, rfl, hS, hSK, hK0, hK15⟩ := symOk_at l hall x ho.1
    have hp := fi_pos e ((S : Int) :: xs)
    rw [readP]
    by_cases q : most ≤ (out.length : Int)
    · rw [if_pos q, if_pos (by omega), if_pos (by omega)]
      exact ⟨rfl, rfl⟩
    · rw [if_neg q, List.flatMap_cons, List.append_assoc]
      have hb : symBits l (S : Int) = bitsOf (codeP l S) K := by
        unfold symBits
        rw [Int.toNat_natCast, List.getD_eq_getElem?_getD, hSK]
        simp
      have hcl : codeP l S < 2 ^ K := Nat.lt_of_lt_of_le (codeP_range l S K hSK hK0).2 (endP_le l hk K hK15)
      rw [hb, symP_bits l S K hSK hK0 hK15 hcl]
      simp only
      by_cases q2 : (S : Int) = e
      · rw [if_pos q2, fi, if_pos q2, if_neg (by omega), if_neg (by omega)]
        exact ⟨rfl, by simp⟩
      · rw [if_neg q2]
        have hmem : e ∈ xs := by
          rcases List.mem_cons.1 he with h | h
          · exact absurd h.symm q2
          · exact h
        have ih := read_back l hk hall e most pad xs m (at_ + K) (out ++ [(S : Int)]) ho.2 hmem (by simp at hm; omega)
        have hd : (bitsOf (codeP l S) K ++ (xs.flatMap (symBits l) ++ pad)).drop K = xs.flatMap (symBits l) ++ pad := by
          rw [List.drop_append_of_le_length (by rw [bitsOf_length]; exact Nat.le_refl _), List.drop_of_length_le (by rw [bitsOf_length]; exact Nat.le_refl _), List.nil_append]
        rw [hd, ih.1, ih.2, fi, if_neg q2]
        have e1 : (out ++ [(S : Int)]).length + fi e xs = out.length + (fi e xs + 1) := by simp; omega
        rw [e1]
        refine ⟨rfl, ?_⟩
        congr 1
        simp
theorem symBits_pos (l : List Int) (hall : ∀ k ∈ l, 0 ≤ k ∧ k ≤ 15) : ∀ xs : List Int, xs.all (symOk l) = true → xs.length ≤ (xs.flatMap (symBits l)).length
  | [], _ => by simp
  | x :: xs, h => by
    rw [List.all_cons, Bool.and_eq_true] at h
    have ih := symBits_pos l hall xs h.2
    obtain ⟨S, K, rfl, hS, hSK, hK0, hK15⟩ := symOk_at l hall x h.1
    have hb : symBits l (S : Int) = bitsOf (codeP l S) K := by
      unfold symBits
      rw [Int.toNat_natCast, List.getD_eq_getElem?_getD, hSK]
      simp
    rw [List.flatMap_cons, List.length_append, hb, bitsOf_length, List.length_cons]
    omega
end Go.Proofs.Ytdhnmcdgiddhdaa
/-
  entropy, plain: what Encode wrote is read again.
-/
set_option linter.unusedVariables false
set_option linter.unusedSimpArgs false
namespace Go.Proofs.Ytdhnmcdgiddhdaa
open Go.RowKit
set_option maxRecDepth 100000
theorem updN_add {n x i : Nat} (h : n < 2 ^ (7 * i)) (hs : x % 128 * 2 ^ (7 * i) < 18446744073709551616) : updN n x i = n + x % 128 * 2 ^ (7 * i) := by
  unfold updN
  rw [Nat.mod_eq_of_lt hs, Nat.or_comm, Nat.mul_comm, ← Nat.two_pow_add_eq_or_of_lt h]
  omega
theorem toNat_small {q : Nat} (h : q < 256) : (UInt8.ofNat q).toNat = q := by
  rw [UInt8.toNat_ofNat']
  exact Nat.mod_eq_of_lt h
theorem getL_putF (r : List UInt8) : ∀ (f q i acc : Nat), f + i = 9 → acc < 2 ^ (7 * i) → acc + q * 2 ^ (7 * i) < 18446744073709551616 → (0 < i → q ≠ 0) →
    getL ((putF f q ++ r).take (10 - i)) i acc = (acc + q * 2 ^ (7 * i), i + (putF f q).length)
  | 0, q, i, acc, hi, ha, hN, hq => by
    obtain rfl : i = 9 := by omega
    have hq2 : q < 2 := by
      have e : (2 : Nat) ^ (7 * 9) = 9223372036854775808 := by decide
      rw [e] at hN
      omega
    have hq0 := hq (by omega)
    have hq1 : q = 1 := by omega
    subst hq1
    unfold putF
    rw [show 10 - 9 = 1 from rfl, List.singleton_append, List.take_succ_cons, List.take_zero, getL, toNat_small (by omega), if_neg (by omega), if_neg (by omega), updN_add ha (by decide)]
    rfl
  | f + 1, q, i, acc, hi, ha, hN, hq => by
    unfold putF
    split
    · rename_i h1
      have e10 : 10 - i = (10 - (i + 1)) + 1 := by omega
      have hp : (2 : Nat) ^ (7 * (i + 1)) = 128 * 2 ^ (7 * i) := by rw [show 7 * (i + 1) = 7 * i + 7 from by omega, Nat.pow_add]; omega
      have hm : (q % 128 + 128) % 128 = q % 128 := by omega
      have hq128 : q % 128 < 128 := Nat.mod_lt _ (by omega)
      have hdm : q = q / 128 * 128 + q % 128 := by omega
      generalize hP : (2 : Nat) ^ (7 * i) = P at *
      have hle : q % 128 * P ≤ q * P := Nat.mul_le_mul_right _ (Nat.mod_le _ _)
      have hlt : q % 128 * P + P ≤ 128 * P := by rw [← Nat.succ_mul]; exact Nat.mul_le_mul_right _ hq128
      have hsum : q * P = q / 128 * (128 * P) + q % 128 * P := by
        rw [← Nat.mul_assoc, ← Nat.add_mul, ← hdm]
      rw [List.cons_append, e10, List.take_succ_cons, getL, toNat_small (by omega), if_pos (by omega), updN_add (by rw [hP]; exact ha) (by rw [hm, hP]; omega), hm, hP]
      rw [getL_putF r f (q / 128) (i + 1) (acc + q % 128 * P) (by omega) (by rw [hp]; omega) (by rw [hp]; omega) (by intro; omega)]
      rw [hp, List.length_cons]
      congr 1
      · omega
      · omega
    · rename_i h1
      have e10 : 10 - i = (10 - (i + 1)) + 1 := by omega
      rw [List.singleton_append, e10, List.take_succ_cons, getL, toNat_small (by omega), if_neg (by omega), if_neg (by rintro (⟨h2, h3⟩ | ⟨h2, _⟩); exact hq h2 h3; omega), updN_add ha (by rw [Nat.mod_eq_of_lt (by omega)]; omega), Nat.mod_eq_of_lt (by omega)]
      rfl
theorem getN_putN (n : Nat) (r : List UInt8) (h : n < 18446744073709551616) : getN (putN n ++ r) = (n, (putN n).length) := by
  have := getL_putF r 9 n 0 0 rfl (by decide) (by simpa using h) (by intro h; omega)
  unfold getN putN
  rw [show 10 = 10 - 0 from rfl, this]
  simp
theorem putN_pos (n : Nat) : 0 < (putN n).length := by
  unfold putN putF
  split <;> simp
theorem rdN_putN (n most : Nat) (r : List UInt8) (h : n < 18446744073709551616) (hm : n ≤ most) : rdN (putN n ++ r) most = some (n, (putN n).length) := by
  unfold rdN
  rw [getN_putN n r h]
  have := putN_pos n
  rw [if_neg (by simp only; omega)]
theorem enc_end : ∀ (bs : List UInt8) (n : Nat), ∃ ys, enc bs n = ys ++ [257] ∧ ∀ y ∈ ys, y ≠ 257
  | [], n => ⟨runL n, rfl, fun y hy => by have := runL_range n y hy; omega⟩
  | b :: bs, n => by
    unfold enc
    split
    · exact enc_end bs (n + 1)
    · obtain ⟨ys, h1, h2⟩ := enc_end bs 0
      refine ⟨runL n ++ ((b.toNat : Int) + 1) :: ys, by rw [h1]; simp, fun y hy => ?_⟩
      rcases List.mem_append.1 hy with hy | hy
      · have := runL_range n y hy; omega
      · rcases List.mem_cons.1 hy with rfl | hy
        · have := b.toNat_lt; omega
        · exact h2 y hy
theorem dec_enc (most : Nat) : ∀ (bs : List UInt8) (n : Nat) (b : List UInt8), b.length + n + bs.length ≤ most → dec most (enc bs n) b 1 = (b ++ List.replicate n 0 ++ bs, 0)
  | [], n, b, h => by
    simp only [List.length_nil, Nat.add_zero] at h
    obtain ⟨w', h1, h2⟩ := dec_runL most [257] n b 1 (by omega) (by omega)
    rw [enc, h2, dec_end]
    simp
  | c :: bs, n, b, h => by
    rw [List.length_cons] at h
    unfold enc
    split
    · rename_i hc
      subst hc
      rw [dec_enc most bs (n + 1) b (by omega), List.replicate_succ']
      simp
    · rename_i hc
      have hc0 : 0 < c.toNat := by
        rcases Nat.eq_zero_or_pos c.toNat with h0 | h0
        · exact absurd (UInt8.toNat_inj.1 h0) hc
        · exact h0
      have hc1 := c.toNat_lt
      obtain ⟨w', h1, h2⟩ := dec_runL most (((c.toNat : Int) + 1) :: enc bs 0) n b 1 (by omega) (by omega)
      rw [h2, dec_byte (by omega) (by omega) (by rw [List.length_append, List.length_replicate]; omega)]
      rw [dec_enc most bs 0 _ (by simp; omega)]
      have e : (((c.toNat : Int) + 1) - 1).toNat = c.toNat := by omega
      rw [e]
      simp
end Go.Proofs.Ytdhnmcdgiddhdaa
/-
  entropy, plain: a code's text is one, and Decode reads it.
-/
set_option linter.unusedVariables false
set_option linter.unusedSimpArgs false
namespace Go.Proofs.Ytdhnmcdgiddhdaa
open Go.RowKit
set_option maxRecDepth 100000
theorem nibE_get (X : List Bool) : ∀ (ls : List Int) (i : Nat) (x : Int), ls[i]? = some x → 0 ≤ x → x < 16 → (valOf (((nibE ls ++ X).drop (4 * i)).take 4) : Int) = x
  | [], i, x, h, _, _ => by simp at h
  | y :: ls, 0, x, h, h0, h1 => by
    simp at h
    subst h
    have e : nibE (y :: ls) = bitsOf y.toNat 4 ++ nibE ls := rfl
    rw [e, List.append_assoc, Nat.mul_zero, List.drop_zero, List.take_append_of_le_length (by rw [bitsOf_length]; exact Nat.le_refl _), List.take_of_length_le (by rw [bitsOf_length]; exact Nat.le_refl _), valOf_bitsOf]
    omega
  | y :: ls, i + 1, x, h, h0, h1 => by
    have e : nibE (y :: ls) = bitsOf y.toNat 4 ++ nibE ls := rfl
    have ih := nibE_get X ls i x (by simpa using h) h0 h1
    rw [e, List.append_assoc, show 4 * (i + 1) = (bitsOf y.toNat 4).length + 4 * i from by rw [bitsOf_length]; omega, List.drop_append]
    rw [List.drop_of_length_le (by omega), List.nil_append, Nat.add_sub_cancel_left]
    exact ih
theorem mkI_of (f : Nat → Int) (ls : List Int) (n : Nat) (hl : ls.length = n) (h : ∀ i x, ls[i]? = some x → f i = x) : mkI f n = ls := by
  apply List.ext_getElem?
  intro i
  by_cases hi : i < n
  · rw [mkI_get f n i hi, List.getElem?_eq_getElem (by omega)]
    rw [h i _ (List.getElem?_eq_getElem (by omega))]
  · rw [List.getElem?_eq_none (by rw [mkI_length]; omega), List.getElem?_eq_none (by omega)]
theorem frE_pos {xs : List Int} {s : Nat} (hs : s < 258) (h : (s : Int) ∈ xs) : 0 < (fN (frE xs)).getD s 0 := by
  rw [fN_get (frE xs) s _ (mkI_get _ _ _ hs), Int.toNat_natCast]
  exact List.count_pos_iff.2 h
theorem lensE_get (xs : List Int) (s : Nat) (hs : s < 258) : (lensE xs)[s]? = some (lenP (fN (frE xs)) s : Int) := mkI_get _ _ _ hs
theorem lensE_sym (xs : List Int) (hx : ∀ x ∈ xs, 0 ≤ x ∧ x ≤ 257) : xs.all (symOk (lensE xs)) = true := by
  rw [List.all_eq_true]
  intro x hxm
  obtain ⟨S, rfl⟩ : ∃ S : Nat, x = (S : Int) := ⟨x.toNat, by have := hx x hxm; omega⟩
  have hS : S < 258 := by have := hx _ hxm; omega
  have hF : (fN (frE xs)).length ≤ 300 := by rw [fN_length, frE_length]; omega
  have hb := lenP_bounds hF (frE_pos hS hxm)
  unfold symOk
  rw [lensE_length, Int.toNat_natCast, List.getD_eq_getElem?_getD, lensE_get xs S hS, Option.getD_some]
  simp
  omega
theorem symE_range (L : List UInt8) : ∀ x ∈ symE L, 0 ≤ x ∧ x ≤ 257 := enc_range _ _
theorem symE_len (L : List UInt8) : (symE L).length ≤ L.length + 1 := by
  have := enc_le (mtfE mtf0 L) 0
  rw [mtfE_length] at this
  unfold symE
  omega
theorem fi_last (ys : List Int) (e : Int) (h : ∀ y ∈ ys, y ≠ e) : fi e (ys ++ [e]) = (ys ++ [e]).length := by
  rw [fi_spec e (ys ++ [e]) ys.length (fun j x hj hx => h x ?_) (by simp), List.length_append]
  · rfl
  · rw [List.getElem?_append_left hj] at hx
    exact List.mem_of_getElem? hx
theorem bitE_eq (L : List UInt8) : bitE L = nibE (lensE (symE L)) ++ (symE L).flatMap (symBits (lensE (symE L))) := by
  unfold bitE wrBits
  rw [if_pos (lensE_sym _ (symE_range L))]
section
variable {L cs : List UInt8} (hp : Packed (bitE L) cs) (hl : cs.length = ((bitE L).length + 7) / 8)
theorem bitE_len (L : List UInt8) : 1032 ≤ (bitE L).length := by
  rw [bitE_eq, List.length_append, nibE_length, lensE_length]
  omega
include hp in
theorem nibR_enc : nibR cs = lensE (symE L) := by
  refine mkI_of _ _ _ (lensE_length _) (fun i x hx => ?_)
  have hr := lensE_range (symE L) x (List.mem_of_getElem? hx)
  unfold nibV
  unfold Packed at hp
  rw [hp, bitE_eq, List.append_assoc]
  exact nibE_get _ _ i x hx hr.1 (by omega)
include hp hl in
theorem txR_enc (n : Nat) (hn : L.length ≤ n) : (txR cs n).1 = 0 ∧ (txR cs n).2.1 = symE L := by
  have hok := (okLens_iff _).1 (lensE_ok (symE L))
  obtain ⟨ys, h1, h2⟩ := enc_end (mtfE mtf0 L) 0
  have h1' : symE L = ys ++ [257] := h1
  have hfi : fi 257 (symE L) = (symE L).length := by rw [h1']; exact fi_last ys 257 h2
  have hsl := symE_len L
  have hpos := symBits_pos (lensE (symE L)) hok.2.2 (symE L) (lensE_sym _ (symE_range L))
  have hbl : (bitE L).length = 1032 + ((symE L).flatMap (symBits (lensE (symE L)))).length := by rw [bitE_eq, List.length_append, nibE_length, lensE_length]
  have hdrop : (bitsB cs).drop 1032 = (symE L).flatMap (symBits (lensE (symE L))) ++ List.replicate (8 * cs.length - (bitE L).length) false := by
    unfold Packed at hp
    rw [hp, bitE_eq, List.append_assoc, show 1032 = (nibE (lensE (symE L))).length from by rw [nibE_length, lensE_length], List.drop_left]
  have hrb := read_back (lensE (symE L)) hok.2.1 hok.2.2 257 ((n : Int) + 1) (List.replicate (8 * cs.length - (bitE L).length) false) (symE L) (8 * cs.length + 1) 1032 []
    (lensE_sym _ (symE_range L)) (by rw [h1']; simp) (by omega)
  unfold txR
  rw [nibR_enc hp, hdrop, hrb.1, hrb.2, hfi, List.length_nil, Nat.zero_add, if_neg (by omega), if_neg (by omega), List.take_length]
  exact ⟨rfl, rfl⟩
include hp hl in
theorem txD_enc (n : Nat) (hn : L.length ≤ n) : txD cs n = (mtfE mtf0 L, 0) := by
  unfold txD
  rw [(txR_enc hp hl n hn).2]
  unfold symE
  rw [dec_enc n (mtfE mtf0 L) 0 [] (by rw [mtfE_length]; simpa using hn)]
  simp
end
theorem EncGood {b : List UInt8} {T : List Nat} {L : List UInt8} (hT : IsSA (nb b) T) (hL : nb L = fwdN (nb b) (b.length :: T)) : goodI (nb L) ((atF b.length T : Nat) : Int) ∧ invP (nb L) (atF b.length T) = nb b := by
  have h1 := hT.one
  rw [nb_length] at h1
  rw [hL]
  exact ⟨⟨by omega, fwd_good h1⟩, fwd_back h1⟩
theorem EncR.dec {x b : List UInt8} (h : EncR x b) (hx : x.length ≤ 1000000) : DecR b x := by
  rcases h with ⟨rfl, rfl⟩ | ⟨hne, T, L, cs, hT, hL, hl, hp, rfl⟩
  · exact ⟨(putN 0).length, by have := rdN_putN 0 1099511627776 [] (by omega) (by omega); simpa using this, .inl rfl⟩
  · have hLl : L.length = x.length := by
      have e1 := congrArg List.length hL
      have h1 := hT.one
      rw [nb_length] at h1
      rw [nb_length, fwdN_length h1, nb_length] at e1
      exact e1
    have hat := atF_le x T hT hne
    have hg := EncGood hT hL
    refine ⟨(putN x.length).length, ?_, .inr ⟨hne, atF x.length T, (putN (atF x.length T)).length, ?_, ?_⟩⟩
    · rw [List.append_assoc]
      exact rdN_putN _ _ _ (by omega) (by omega)
    · rw [List.append_assoc, List.drop_left]
      exact rdN_putN _ _ _ (by omega) hat
    · rw [List.append_assoc, List.drop_left, List.drop_left]
      have hbl := bitE_len L
      refine ⟨by omega, ⟨?_, (txR_enc hp hl _ (by omega)).1, by rw [txD_enc hp hl _ (by omega)], by rw [txD_enc hp hl _ (by omega), mtfE_length]; exact hLl, ?_⟩, ?_⟩
      · rw [nibR_enc hp]
        exact lensE_ok _
      · rw [txD_enc hp hl _ (by omega)]
        dsimp only
        rw [mtf_back L mtf0 mtf0_full]
        exact hg.1
      · rw [txD_enc hp hl _ (by omega)]
        dsimp only
        rw [mtf_back L mtf0 mtf0_full]
        exact hg.2.symm
theorem EncR.one {x a b : List UInt8} (ha : EncR x a) (hb : EncR x b) : a = b := by
  rcases ha with ⟨hx, rfl⟩ | ⟨hne, T, L, cs, hT, hL, hl, hp, rfl⟩
  · rcases hb with ⟨_, rfl⟩ | ⟨hne, _⟩
    · rfl
    · exact absurd hx hne
  · rcases hb with ⟨hx, _⟩ | ⟨_, T', L', cs', hT', hL', hl', hp', rfl⟩
    · exact absurd hx hne
    · obtain rfl := hT.unique hT'
      obtain rfl : L = L' := nbE_inj (hL.trans hL'.symm)
      obtain rfl := packed_unique hp hp' (hl.trans hl'.symm)
      rfl
theorem DecR.one {b x y : List UInt8} (hx : DecR b x) (hy : DecR b y) : x = y := by
  obtain ⟨k, h1, h2⟩ := hx
  obtain ⟨k', h1', h2'⟩ := hy
  rw [h1] at h1'
  injection h1' with h1'
  injection h1' with e1 e2
  subst e2
  rcases h2 with rfl | ⟨hne, m, k2, h3, _, _, h4⟩
  · exact (List.eq_nil_of_length_eq_zero (by simpa using e1.symm)).symm
  · rcases h2' with rfl | ⟨_, m', k2', h3', _, _, h4'⟩
    · exact List.eq_nil_of_length_eq_zero (by simpa using e1)
    · rw [← e1, h3] at h3'
      injection h3' with h3'
      injection h3' with e3 e4
      subst e3 e4
      rw [← e1] at h4'
      exact nbE_inj (h4.trans h4'.symm)
/-- Two texts with one code are one text. -/
theorem EncR.text {x y b : List UInt8} (hx : EncR x b) (hy : EncR y b) (h1 : x.length ≤ 1000000) (h2 : y.length ≤ 1000000) : x = y := (hx.dec h1).one (hy.dec h2)
end Go.Proofs.Ytdhnmcdgiddhdaa
/-
  entropy, plain: how long a code is.
-/
set_option linter.unusedVariables false
set_option linter.unusedSimpArgs false
namespace Go.Proofs.Ytdhnmcdgiddhdaa
open Go.RowKit
set_option maxRecDepth 100000
theorem sumM_add {α : Type} (f g : α → Nat) : ∀ l : List α, (l.map fun s => f s + g s).sum = (l.map f).sum + (l.map g).sum
  | [] => rfl
  | x :: l => by simp only [List.map_cons, List.sum_cons, sumM_add f g l]; omega
theorem sumM_le {α : Type} (f : α → Nat) (c : Nat) : ∀ l : List α, (∀ s ∈ l, f s ≤ c) → (l.map f).sum ≤ l.length * c
  | [], _ => by simp
  | x :: l, h => by
    have := sumM_le f c l fun s hs => h s (List.mem_cons_of_mem _ hs)
    have h1 := h x List.mem_cons_self
    rw [List.map_cons, List.sum_cons, List.length_cons, Nat.succ_mul]
    omega
theorem sumM_one (g : Nat → Nat) (k : Nat) : ∀ n, k < n → ((List.range n).map fun s => (if s = k then 1 else 0) * g s).sum = g k
  | 0, h => by omega
  | n + 1, h => by
    rw [List.range_succ, List.map_append, List.sum_append]
    simp only [List.map_cons, List.map_nil, List.sum_cons, List.sum_nil, Nat.add_zero]
    by_cases q : k = n
    · subst q
      have : ((List.range k).map fun s => (if s = k then 1 else 0) * g s).sum ≤ (List.range k).length * 0 := sumM_le _ 0 _ fun s hs => by
        rw [List.mem_range] at hs
        rw [if_neg (by omega)]
        omega
      rw [if_pos rfl]
      omega
    · rw [sumM_one g k n (by omega), if_neg (by omega)]
      omega
theorem sumM_count (g : Nat → Nat) (N : Nat) : ∀ xs : List Int, (∀ x ∈ xs, 0 ≤ x ∧ x < (N : Int)) → ((List.range N).map fun s : Nat => xs.count (s : Int) * g s).sum = (xs.map fun x => g x.toNat).sum
  | [], _ => by
    have := sumM_le (fun s : Nat => ([] : List Int).count (s : Int) * g s) 0 (List.range N) fun s _ => by simp
    simp only [List.map_nil, List.sum_nil]
    omega
  | x :: xs, h => by
    have ih := sumM_count g N xs fun y hy => h y (List.mem_cons_of_mem _ hy)
    have hx := h x List.mem_cons_self
    obtain ⟨k, rfl⟩ : ∃ k : Nat, x = (k : Int) := ⟨x.toNat, by omega⟩
    have e1 := sumM_one g k N (by omega)
    have e2 := sumM_add (fun s : Nat => xs.count (s : Int) * g s) (fun s => (if s = k then 1 else 0) * g s) (List.range N)
    rw [List.map_cons, List.sum_cons, Int.toNat_natCast, ← ih, Nat.add_comm, ← e1, ← e2]
    refine congrArg List.sum (List.map_congr_left fun s _ => ?_)
    rw [List.count_cons, ← Nat.add_mul]
    congr 2
    by_cases q : s = k
    · subst q; simp
    · rw [if_neg q, if_neg (by simp; omega)]
theorem symBits_sum (l : List Int) : ∀ xs : List Int, (xs.flatMap (symBits l)).length = (xs.map fun x => (l.getD x.toNat 0).toNat).sum
  | [] => rfl
  | x :: xs => by
    rw [List.flatMap_cons, List.length_append, symBits_sum l xs, List.map_cons, List.sum_cons]
    unfold symBits
    rw [bitsOf_length]
theorem frE_count (xs : List Int) (s : Nat) (hs : s < 258) : (fN (frE xs)).getD s 0 = xs.count (s : Int) := by
  rw [fN_get (frE xs) s _ (mkI_get _ _ _ hs), Int.toNat_natCast]
theorem costP_sum (xs : List Int) (hx : ∀ x ∈ xs, 0 ≤ x ∧ x ≤ 257) (g : Nat → Nat) : costP (fN (frE xs)) g = (xs.map fun x => g x.toNat).sum := by
  rw [← sumM_count g 258 xs (fun x h => by have := hx x h; omega)]
  unfold costP
  rw [fN_length, frE_length]
  refine congrArg List.sum (List.map_congr_left fun s hs => ?_)
  rw [frE_count xs s (List.mem_range.1 hs)]
/-- No more than nine bits a symbol. -/
theorem bits_nine (xs : List Int) (hx : ∀ x ∈ xs, 0 ≤ x ∧ x ≤ 257) : (xs.flatMap (symBits (lensE xs))).length ≤ 9 * xs.length := by
  have hF : (fN (frE xs)).length ≤ 300 := by rw [fN_length, frE_length]; omega
  have e1 : (xs.flatMap (symBits (lensE xs))).length = (xs.map fun x => lenP (fN (frE xs)) x.toNat).sum := by
    rw [symBits_sum]
    refine congrArg List.sum (List.map_congr_left fun x hxm => ?_)
    have := hx x hxm
    rw [List.getD_eq_getElem?_getD, lensE_get xs x.toNat (by omega), Option.getD_some, Int.toNat_natCast]
  rw [e1, Nat.mul_comm]
  by_cases q : 2 ≤ (srt (fN (frE xs))).length
  · have h1 := lenP_least hF q (fun _ => 9) (fun _ _ => by omega) (by
      refine Nat.le_trans (sumM_le _ 64 _ fun s _ => by split <;> omega) ?_
      rw [List.length_range, fN_length, frE_length]
      omega)
    rw [costP_sum xs hx, costP_sum xs hx] at h1
    refine Nat.le_trans h1 (sumM_le _ 9 _ fun _ _ => Nat.le_refl _)
  · refine sumM_le _ 9 _ fun x _ => ?_
    unfold lenP
    rw [if_pos (by omega)]
    split <;> omega
theorem EncR.size {x b : List UInt8} (h : EncR x b) (hx : x.length ≤ 100000) : b.length ≤ x.length + x.length / 8 + 400 := by
  rcases h with ⟨rfl, rfl⟩ | ⟨hne, T, L, cs, hT, hL, hl, hp, rfl⟩
  · have := putN_le 0
    omega
  · have hLl : L.length = x.length := by
      have e1 := congrArg List.length hL
      have h1 := hT.one
      rw [nb_length] at h1
      rw [nb_length, fwdN_length h1, nb_length] at e1
      exact e1
    have h1 := putN_le x.length
    have h2 := putN_le (atF x.length T)
    have h3 := bits_nine _ (symE_range L)
    have h4 := symE_len L
    rw [bitE_eq, List.length_append, nibE_length, lensE_length] at hl
    rw [List.length_append, List.length_append]
    omega
theorem enc_equal (c : UInt8) (n : Nat) : (symE (List.replicate (n + 1) c)).length ≤ (runL (n + 1)).length + (runL n).length + 2 := by
  obtain ⟨h1, h2, _⟩ := mtf0_full.idx c
  have e : mtfE mtf0 (List.replicate (n + 1) c) = UInt8.ofNat (mtf0.idxOf c) :: List.replicate n 0 := by
    rw [List.replicate_succ]
    show UInt8.ofNat (mtf0.idxOf c) :: mtfE (frontL mtf0 (mtf0.idxOf c)) (List.replicate n c) = _
    have e2 : frontL mtf0 (mtf0.idxOf c) = c :: (mtf0.take (mtf0.idxOf c) ++ mtf0.drop (mtf0.idxOf c + 1)) := by
      unfold frontL
      rw [List.getD_eq_getElem?_getD, h2]
      rfl
    rw [e2, mtf_equal]
  unfold symE
  rw [e, enc]
  split
  · rw [enc_zeros, List.length_append, Nat.zero_add, Nat.add_comm 1 n]
    simp only [List.length_cons, List.length_nil]
    first | done | omega
  · rw [enc_zeros, runL_zero]
    simp only [List.nil_append, List.length_cons, List.length_append, List.length_nil, Nat.zero_add]
    omega
theorem runL_short {n : Nat} (h : n ≤ 3000) : (runL n).length ≤ 11 := by
  have h1 := (runL_length n).1
  rcases Nat.lt_or_ge (runL n).length 12 with q | q
  · omega
  · have := Nat.pow_le_pow_right (n := 2) (by omega) q
    omega
theorem EncR.equal {c : UInt8} {n : Nat} {b : List UInt8} (h : EncR (List.replicate n c) b) (hn : n ≤ 3000) : b.length ≤ 300 := by
  rcases h with ⟨_, rfl⟩ | ⟨hne, T, L, cs, hT, hL, hl, hp, rfl⟩
  · have := putN_le 0
    omega
  · have hLe : L = List.replicate n c := by
      have h1 := hT.one
      rw [nb_length] at h1
      have h2 := fwdN_perm h1
      rw [← hL] at h2
      have e : nb (List.replicate n c) = List.replicate n c.toNat := by unfold nb; rw [List.map_replicate]
      rw [e, List.perm_replicate] at h2
      exact nbE_inj (h2.trans e.symm)
    subst hLe
    cases n with
    | zero => exact absurd rfl hne
    | succ n =>
      have h1 := putN_le (List.replicate (n + 1) c).length
      have h2 := putN_le (atF (List.replicate (n + 1) c).length T)
      have h3 := symsBits_le (lensE (symE (List.replicate (n + 1) c))) (lensE_range _) (symE (List.replicate (n + 1) c))
      have h4 := enc_equal c n
      have h5 := runL_short hn
      have h6 := runL_short (n := n) (by omega)
      rw [bitE_eq, List.length_append, nibE_length, lensE_length] at hl
      rw [List.length_append, List.length_append]
      omega
end Go.Proofs.Ytdhnmcdgiddhdaa
/-
  Constant bytes that are read; the word of the first example.
-/
set_option linter.unusedVariables false
set_option linter.unusedSimpArgs false
namespace Go.Proofs.Ytdhnmcdgiddhdaa
open Go.RowKit
theorem Rd.litsF (w : World) (X : Array Value) (T : TypeId) (fr : Nat × Nat) (n : Nat) (hn : X.size = n) (hm : n ≤ maxLen) : Rd (w.alloc (.cells X T fr)) 1 (.slice (some ⟨w.heap.size, 0, none⟩) n n) n X.toList := by
  refine ⟨_, n, rfl, ⟨Nat.le_refl _, hm⟩, by simp [hn], fun e => by simp at e, fun ad e j u hu => ?_⟩
  simp only [Option.some.injEq] at e
  subst e
  rw [add_lit0]
  have h1 : (w.alloc (.cells X T fr)).heap[w.heap.size]? = some (.cells X T fr) := heap_alloc_new w _
  simp only [World.cell?, h1]
  simpa using hu
def ban : List UInt8 := [98, 97, 110, 97, 110, 97]
theorem ban_sa : IsSA (nb ban) [5, 3, 1, 0, 4, 2] := ⟨by decide, by decide⟩
theorem m6 : 6 ≤ maxLen := by decide
theorem nb_inj {a b : List UInt8} (h : nb a = nb b) : a = b := (List.map_inj_right fun _ _ h => UInt8.toNat_inj.1 h).1 h
end Go.Proofs.Ytdhnmcdgiddhdaa
/-
  Decode of what Encode made; foliolaw10.begun, foliolaw10.tells.
-/
set_option linter.unusedVariables false
set_option linter.unusedSimpArgs false
namespace Go.Proofs.Ytdhnmcdgiddhdaa
open Go.RowKit
set_option maxRecDepth 100000
def OkOut (x : List UInt8) (w : World) (e : Ending) (w' : World) : Prop := ∃ v c, e = .returned (.tuple #[v, .int .i64 0]) ∧ RowC 5 1 v x.length (bv x) c ∧ St w.heap.size w w' [c]
def NoOut (n : Int) (w : World) (e : Ending) (w' : World) : Prop := e = .returned (.tuple #[.slice none 0 0, .int .i64 n]) ∧ St w.heap.size w w' []
theorem DecOut.coded {x b : List UInt8} {M : Nat} {w w' : World} {e : Ending} (hM : M ≤ 1000000) (hx : x.length ≤ M) (he : EncR x b) (h : DecOut b M w e w') : OkOut x w e w' := by
  have hd := he.dec (by omega)
  rcases h with ⟨y, v, c, rfl, hr, hy, hl, hS⟩ | ⟨rfl, hS, hsz, hn⟩ | ⟨rfl, hS, n, k, h1, h2⟩
  · obtain rfl : x = y := he.text hy (by omega) (by omega)
    exact ⟨v, c, rfl, hr, hS⟩
  · exact absurd ⟨x, hx, he, hd, fun eo h => h.one he⟩ hn
  · obtain ⟨k', h3, _⟩ := hd
    rw [h1] at h3
    injection h3 with h3
    injection h3 with h3 _
    omega
theorem DecOut.poor {x b : List UInt8} {M : Nat} {w w' : World} {e : Ending} (hM : x.length ≤ 1000000) (hx : M < x.length) (he : EncR x b) (h : DecOut b M w e w') : NoOut 2 w e w' := by
  have hd := he.dec hM
  rcases h with ⟨y, v, c, rfl, hr, hy, hl, hS⟩ | ⟨rfl, hS, hsz, hn⟩ | ⟨rfl, hS, n, k, h1, h2⟩
  · obtain rfl : x = y := he.text hy (by omega) (by omega)
    omega
  · obtain ⟨k, h1, _⟩ := hd
    have := hsz _ _ h1
    omega
  · exact ⟨rfl, hS⟩
set_option maxHeartbeats 1000000 in
theorem begun10 (w : World) : Calls Try.prog 11 #[] w fun e w' => e = .returned (.bool true) ∧ Below w.heap.size w w' := by
  have hb : Rd _ 1 _ ban.length (bv ban) := Rd.litsF w #[.int .u8 98, .int .u8 97, .int .u8 110, .int .u8 97, .int .u8 110, .int .u8 97] 5 (6, 7) 6 rfl m6
  have hS := (St.init w).alloc (.cells #[.int .u8 98, .int .u8 97, .int .u8 110, .int .u8 97, .int .u8 110, .int .u8 97] 5 (6, 7))
  go_enter Try.func11, Try.ntmps11
  go_wp2_with fail
  rw [Lib.run_convert_bytes_const _ 22 5 _ _ _ Try.underlying22 Try.underlying5]
  go_wp2_with fail
  refine (entenc_any _ ban _ hb (by decide)).mono ?_
  rintro e w1 ⟨out, v, c, rfl, hr, he, hS1⟩
  have hS2 := (hS.join hS1).pick [0] (by decide) [c] rfl
  have hol : out.length ≤ 500 := by have := he.size (by decide); have e : ban.length = 6 := rfl; omega
  have HE := Lib.hid he
  clear hS hS1 hb he
  go_wp2_with fail
  refine (entdec_any v out 10 _ (hr.rd hS2 0 rfl) (by omega) (by omega)).mono ?_
  intro e w2 hd
  obtain ⟨v2, c2, rfl, hr2, hS3⟩ := hd.coded (by decide) (by decide) HE.out
  obtain ⟨ao2, cap2, rfl⟩ := hr2.shape
  have hS4 := (hS2.join hS3).pick [0] (by decide) [c2] rfl
  clear hd hS2 hS3 hr hol
  go_wp2_with fail
  refine (entenc_any (.slice none 0 0) [] w2 (Rd.nil _ _) (by decide)).mono ?_
  rintro e w3 ⟨out3, v3, c3, rfl, hr3, he3, hS5⟩
  have hol : out3.length ≤ 500 := by have := he3.size (by decide); have e : ([] : List UInt8).length = 0 := rfl; omega
  have HE3 := Lib.hid he3
  have hS6 := hS4.join hS5
  clear hS4 hS5 he3
  go_wp2_with fail
  refine (entdec_any v3 out3 0 _ (hr3.rd hS6 0 rfl) (by omega) (by omega)).mono ?_
  intro e w4 hd
  obtain ⟨v4, c4, rfl, hr4, hS7⟩ := hd.coded (by decide) (by decide) HE3.out
  obtain ⟨ao4, cap4, rfl⟩ := hr4.shape
  have hS8 := (hS6.join hS7).pick [2] (by decide) [c2] rfl
  have hc1 : (convert 22 9 (.slice ao2 ban.length cap2)).run Try.prog w4 = .ok (.string ⟨#[98, 97, 110, 97, 110, 97]⟩) w4 := conv_str (hr2.rd hS8 0 rfl)
  have HH := Lib.hid hS8.below
  clear hS6 hS7 hS8 hd hr4
  go_wp2_with fail
  go_ret
  exact ⟨rfl, HH.out⟩
set_option maxHeartbeats 1000000 in
theorem tells_any (v : Value) (b : List UInt8) (w : World) (h : Rd w 1 v b.length (bv b)) (hn : b.length ≤ 1000000) :
    Calls Try.prog 15 #[v] w fun e w' => e = .returned (.bool true) ∧ Below w.heap.size w w' := by
  obtain ⟨ao, cap, rfl⟩ := h.shape
  have H0 := Lib.hid h
  clear h
  go_enter Try.func15, Try.ntmps15
  go_wp2_with fail
  refine (entdec_any _ b 500 _ H0.out hn (by decide)).mono ?_
  rintro e w1 (⟨y, v2, c2, rfl, hr, hy, hl, hS⟩ | ⟨rfl, hS, _, _⟩ | ⟨rfl, hS, _⟩)
  · obtain ⟨ao2, cap2, rfl⟩ := hr.shape
    have hli : (y.length : Int) ≤ 500 := by have : (500 : Int).toNat = 500 := rfl; omega
    have hln : y.length ≤ 100000 := by have : (500 : Int).toNat = 500 := rfl; omega
    have HY := Lib.hid hy
    have H1 := Lib.hid (And.intro hr hS)
    have hSd := hS.drew
    have hcv := conv_str (H0.out.st hSd)
    clear hy hr hS hl
    go_upto_region 4 with (fail)
    go_region_with (first
      | (go_at_call 13; (with_reducible refine (entenc_any (.slice ao2 y.length cap2) y _ (H1.out.1.rd hSd 0 rfl) hln).mono ?_); rintro e w3 ⟨out, v3, c3, rfl, hr3, henc, hS3⟩; (obtain rfl : out = b := henc.one HY.out); have hSB := hSd.join hS3; have hcv3 := conv_str (hr3.rd hSB 0 rfl); have hcv4 := conv_str (H0.out.st hSB)))
    all_goals
      go_wp2_with fail
      go_ret
      exact ⟨rfl, hSB.below⟩
  · have HS := Lib.hid hS.below
    clear hS
    go_wp2_with fail
    go_ret
    exact ⟨rfl, HS.out⟩
  · have HS := Lib.hid hS.below
    clear hS
    go_wp2_with fail
    go_ret
    exact ⟨rfl, HS.out⟩
end Go.Proofs.Ytdhnmcdgiddhdaa
/-
  Bytes of which the first ones are one byte.
-/
set_option linter.unusedVariables false
set_option linter.unusedSimpArgs false
namespace Go.Proofs.Ytdhnmcdgiddhdaa
open Go.RowKit
def fillB (y : UInt8) (n i : Nat) : List UInt8 := (List.range n).map fun j => if j < i then y else 0
theorem fillB_length (y : UInt8) (n i : Nat) : (fillB y n i).length = n := by simp [fillB]
theorem fillB_zero (y : UInt8) (n : Nat) : fillB y n 0 = List.replicate n 0 := by
  unfold fillB
  apply List.ext_getElem?
  intro j
  by_cases h : j < n <;> simp [List.getElem?_replicate, h]
theorem fillB_all (y : UInt8) (n : Nat) : fillB y n n = List.replicate n y := by
  unfold fillB
  apply List.ext_getElem?
  intro j
  by_cases h : j < n <;> simp [List.getElem?_replicate, h]
theorem fillB_set (y : UInt8) (n i : Nat) (h : i < n) : (fillB y n i).set i y = fillB y n (i + 1) := by
  unfold fillB
  apply List.ext_getElem?
  intro j
  by_cases hj : j = i
  · subst hj; simp [h]
  · rw [List.getElem?_set_ne (by omega)]
    by_cases h2 : j < n
    · simp [h2]
      by_cases h3 : j < i
      · rw [if_pos h3, if_pos (by omega)]
      · rw [if_neg h3, if_neg (by omega)]
    · simp [h2]
end Go.Proofs.Ytdhnmcdgiddhdaa
/-
  One byte of bytes is changed.
-/
set_option linter.unusedVariables false
set_option linter.unusedSimpArgs false
namespace Go.Proofs.Ytdhnmcdgiddhdaa
open Go.RowKit
theorem xorB (x y : Int) : ∃ z : UInt8, bits .xor .u8 x y = (z.toNat : Int) := by
  unfold bits
  simp only
  rw [IntKind.wrap_u8]
  generalize (BitVec.toNat _) = q
  exact ⟨UInt8.ofNat (q % 256), by rw [UInt8.toNat_ofNat']; omega⟩
theorem EncR.pos {x b : List UInt8} (h : EncR x b) : 0 < b.length := by
  have hp : ∀ n, 0 < (putN n).length := fun n => by unfold putN putF; split <;> simp
  rcases h with ⟨_, rfl⟩ | ⟨_, T, L, cs, _, _, _, _, rfl⟩
  · exact hp 0
  · have := hp x.length
    rw [List.length_append, List.length_append]
    omega
theorem tmodN (A L : Nat) : (A : Int).tmod (L : Int) = ((A % L : Nat) : Int) := (Int.ofNat_tmod A L).symm
end Go.Proofs.Ytdhnmcdgiddhdaa
/-
  foliolaw1.Short, foliolaw1.Ints.
-/
set_option linter.unusedVariables false
set_option linter.unusedSimpArgs false
namespace Go.Proofs.Ytdhnmcdgiddhdaa
open Go.RowKit
set_option maxRecDepth 100000
theorem short_any (v : Value) (bs : List UInt8) (k : Nat) (w : World) (h : Rd w 1 v bs.length (bv bs)) (hk : k ≤ 1000000) :
    Calls Try.prog 12 #[v, .int .i64 (k : Int)] w fun e w' => ∃ v', e = .returned v' ∧ Rd w 1 v' (bs.take k).length (bv (bs.take k)) ∧ w = w' := by
  obtain ⟨ao, cap, rfl⟩ := h.shape
  have hsm := h.small
  have hcp := h.cap.1
  have hcp2 := h.cap.2
  by_cases hlt : k < bs.length
  · have hlt' : (k : Int) < bs.length := by omega
    have hcap : ao ≠ none := by
      rintro rfl
      have := h.none_iff
      omega
    obtain ⟨ad, rfl⟩ : ∃ ad, ao = some ad := by cases ao with | none => exact absurd rfl hcap | some ad => exact ⟨ad, rfl⟩
    clear hcap
    go_enter Try.func12, Try.ntmps12
    go_wp2
    go_ret
    have := h.take k (by omega)
    rw [Nat.mul_one] at this
    refine ⟨_, rfl, ?_, rfl⟩
    rw [show (bs.take k).length = k from by simp; omega]
    simpa [bv] using this
  · have hge : ¬ (k : Int) < bs.length := by omega
    go_enter Try.func12, Try.ntmps12
    go_wp2
    go_ret
    refine ⟨_, rfl, ?_, rfl⟩
    rw [List.take_of_length_le (by omega)]
    simpa [Nat.min_eq_right (show bs.length ≤ k by omega)] using h
theorem short_gen (v : Value) (bs : List UInt8) (k : Nat) (w : World) (h : Rd w 1 v bs.length (bv bs)) (hk : k ≤ 1000000) :
    Calls Try.prog 12 #[v, .int .i64 (k : Int)] w fun e w' => ∃ v', e = .returned v' ∧ (∀ wx, Rd wx 1 v bs.length (bv bs) → Rd wx 1 v' (bs.take k).length (bv (bs.take k))) ∧ w = w' := by
  obtain ⟨ao, cap, rfl⟩ := h.shape
  have hsm := h.small
  have hcp := h.cap.1
  have hcp2 := h.cap.2
  by_cases hlt : k < bs.length
  · have hlt' : (k : Int) < bs.length := by omega
    have hcap : ao ≠ none := by
      rintro rfl
      have := h.none_iff
      omega
    obtain ⟨ad, rfl⟩ : ∃ ad, ao = some ad := by cases ao with | none => exact absurd rfl hcap | some ad => exact ⟨ad, rfl⟩
    clear hcap h
    go_enter Try.func12, Try.ntmps12
    go_wp2
    go_ret
    refine ⟨_, rfl, fun wx hx => ?_, rfl⟩
    have := hx.take k (by omega)
    rw [Nat.mul_one] at this
    rw [show (bs.take k).length = k from by simp; omega]
    simpa [bv] using this
  · have hge : ¬ (k : Int) < bs.length := by omega
    clear h
    go_enter Try.func12, Try.ntmps12
    go_wp2
    go_ret
    refine ⟨_, rfl, fun wx hx => ?_, rfl⟩
    rw [List.take_of_length_le (by omega)]
    simpa [Nat.min_eq_right (show bs.length ≤ k by omega)] using hx
end Go.Proofs.Ytdhnmcdgiddhdaa
/-
  Arguments that are slices: opened into the words of Base.
-/
set_option linter.unusedVariables false
set_option linter.unusedSimpArgs false
namespace Go.Proofs.Ytdhnmcdgiddhdaa
set_option maxRecDepth 100000
open Go.ChangeShapes Go.WideShapes Go.ChangeAt Go.RowKit

theorem bytes_of_ints (zs : List Int) (h : ∀ z ∈ zs, (Lit.int .u8 z).wf = true) : ∃ bs : List UInt8, bv bs = zs.map (Value.int .u8) ∧ bs.length = zs.length := by
  induction zs with
  | nil => exact ⟨[], rfl, rfl⟩
  | cons z zs ih =>
    obtain ⟨bs, h1, h2⟩ := ih fun y hy => h y (by simp [hy])
    have hz := bounds_u8 (h z (by simp))
    refine ⟨UInt8.ofNat z.toNat :: bs, ?_, by simp [h2]⟩
    simp only [bv, List.map_cons] at h1 ⊢
    rw [h1]
    congr 2
    simp only [UInt8.toNat_ofNat']
    omega
theorem open_bytes {H : Type} {enc : TypeId × Value → H} {W : World} {spare : Nat → Bool} {held : Bool} {v : Value} {d : DataW H} {ps : List MemPlace} {ts : List TypeId} {ds : List (DataW H)} {j : Nat} {base : Nat}
    (hsz : (DataW.weightsEach Try.prog ts ds).all (· ≤ reachBytes) = true) (ht : ts[j]? = some 22) (hd : ds[j]? = some d)
    (hv : Value.okWide Try.prog W .any base 22 v) (h : DataW.Trod enc Try.prog W 0 spare held 22 v d ps) :
    ∃ bs : List UInt8, Rd W 1 v bs.length (bv bs) ∧ bs.length ≤ 140737488351232 := by
  obtain ⟨n, zs, h1, h2, h3⟩ := open_nums hsz ht hd Try.underlying22 Try.underlying5 (by kernel_rfl) (B := 1) (by kernel_rfl) hv h
  obtain ⟨bs, e1, e2⟩ := bytes_of_ints zs h2
  have hl := h1.len
  simp at hl
  rw [← e1] at h1
  have : bs.length = n := by omega
  subst this
  exact ⟨bs, h1, by omega⟩
end Go.Proofs.Ytdhnmcdgiddhdaa

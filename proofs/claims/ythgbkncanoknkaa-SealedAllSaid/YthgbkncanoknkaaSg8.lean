/-
  Texts joined: EntEnc, NumT, ZerosDec, CodesR, CodesRd, EntText, BytesEq, EntDec, PureRead, PureEntB, PureEntC, PureEntD, CtBlock.
-/
import Derived.Test.YthgbkncanoknkaaSg4
import Derived.Test.YthgbkncanoknkaaSg2
import Derived.Test.YthgbkncanoknkaaSg7
import Derived.Test.YthgbkncanoknkaaSg1
import Derived.Deep.RegionHeld3
/-
  Contract of entropy.Encode.
-/
set_option linter.unusedVariables false
set_option linter.unusedSimpArgs false
namespace Go.Proofs.Ythgbkncanoknkaa
open Go.RowKit
set_option maxRecDepth 100000
/-- Lengths, four bits each. -/
def nibE (l : List Int) : List Bool := l.flatMap fun x => bitsOf x.toNat 4
theorem nibE_snoc (l : List Int) (x : Int) : nibE (l ++ [x]) = nibE l ++ bitsOf x.toNat 4 := by simp [nibE]
theorem nibE_length (l : List Int) : (nibE l).length = 4 * l.length := by
  induction l with
  | nil => rfl
  | cons x l ih =>
    have e : nibE (x :: l) = bitsOf x.toNat 4 ++ nibE l := rfl
    rw [e, List.length_append, bitsOf_length, ih, List.length_cons]
    omega
def symE (L : List UInt8) : List Int := enc (mtfE mtf0 L) 0
def bitE (L : List UInt8) : List Bool := wrBits (lensE (symE L)) (symE L) (nibE (lensE (symE L)))
/-- What a text is coded as. -/
def EncR (b out : List UInt8) : Prop :=
  (b = [] ∧ out = putN 0) ∨ (b ≠ [] ∧ ∃ (T : List Nat) (L cs : List UInt8), IsSA (nb b) T ∧ nb L = fwdN (nb b) (b.length :: T) ∧ cs.length = ((bitE L).length + 7) / 8 ∧ Packed (bitE L) cs ∧ out = putN b.length ++ putN (atF b.length T) ++ cs)
def EncOut (b : List UInt8) (w : World) (e : Ending) (w' : World) : Prop := ∃ out v c, e = .returned v ∧ RowC 5 1 v out.length (bv out) c ∧ EncR b out ∧ St w.heap.size w w' [c]
theorem putF_le : ∀ (f n : Nat), (putF f n).length ≤ f + 1
  | 0, n => by simp [putF]
  | f + 1, n => by
    unfold putF
    split
    · have := putF_le f (n / 128)
      simp only [List.length_cons]
      omega
    · simp
theorem putN_le (n : Nat) : (putN n).length ≤ 10 := putF_le 9 n
theorem atF_le (b : List UInt8) (T : List Nat) (h : IsSA (nb b) T) (hb : b ≠ []) : atF b.length T ≤ b.length := by
  have e2 := h.len
  rw [nb_length] at e2
  have hp : 0 < b.length := List.length_pos_iff.2 hb
  have hm : 0 ∈ b.length :: T := List.mem_cons_of_mem _ (h.perm.mem_iff.2 (by rw [nb_length, List.mem_range]; exact hp))
  have := List.idxOf_lt_length_iff.2 hm
  unfold atF
  rw [List.length_cons] at this
  omega
theorem infoI64 : (Try.prog.info? 2).map (fun i => (i.zero, i.size, i.bytes)) = some (some (.int .i64 0), 1, 8) := by kernel_rfl
set_option maxHeartbeats 8000000 in
theorem entenc_any (v : Value) (b : List UInt8) (w : World) (h : Rd w 1 v b.length (bv b)) (hn : b.length ≤ 100000) :
    Calls Try.prog 50 #[v] w (EncOut b w) := by
  obtain ⟨i0, i0a, i0b, i0c, i0d⟩ := info_parts infoI64
  obtain ⟨j0, j0a, j0b, j0c, j0d⟩ := info_parts infoU8
  obtain ⟨ao, cap, rfl⟩ := h.shape
  have H0 := Lib.hid h
  have hni : (b.length : Int) ≤ 100000 := by omega
  have hwl : IntKind.u64.wrap (b.length : Int) = (b.length : Int) := by rw [wrap_u64']; omega
  clear h
  go_enter Try.func50, Try.ntmps50
  go_wp2_with fail
  refine (numput_any b.length w (by omega)).mono ?_
  rintro e w1 ⟨v3, c3, rfl, h3, hS3⟩
  obtain ⟨ao3, cap3, rfl⟩ := h3.shape
  have H3 := Lib.hid (And.intro h3 hS3)
  clear h3 hS3
  by_cases q0 : b.length = 0
  · have q0i : ((b.length : Int) == 0) = true := by rw [q0]; rfl
    have HB : Hid (b = []) := Lib.hid (List.eq_nil_of_length_eq_zero q0)
    clear q0
    go_wp2_with fail
    go_ret
    exact ⟨_, _, c3, rfl, H3.out.1, .inl ⟨HB.out, by rw [HB.out]; rfl⟩, H3.out.2⟩
  have q0i : ((b.length : Int) == 0) = false := by rw [beq_eq_false_iff_ne]; omega
  have HB0 : Hid (b ≠ []) := Lib.hid (fun e => q0 (by rw [e]; rfl))
  clear q0
  go_wp2_with fail
  refine (forward_any b _ w1 (by omega) (H0.out.st H3.out.2)).mono ?_
  rintro e w2 ⟨T, v4, c4, L, hsa, rfl, h4, hL, hS4⟩
  obtain ⟨ao4, cap4, rfl⟩ := h4.shape
  have hLl : L.length ≤ b.length + 1 := by
    have e1 := congrArg List.length hL
    rw [nb_length] at e1
    have e2 := hsa.len
    rw [nb_length] at e2
    rw [e1]
    unfold fwdN
    rw [List.length_map]
    refine Nat.le_trans (List.length_filter_le _ _) ?_
    simp [e2]
  have HT := Lib.hid (And.intro hsa hL)
  have H4 := Lib.hid (And.intro h4 (H3.out.2.join hS4))
  have hat : atF b.length T ≤ b.length := by
    exact atF_le b T hsa HB0.out
  clear hsa hL h4 hS4
  go_wp2_with fail
  refine (mtfenc_any _ L w2 (H4.out.1.rd H4.out.2 0 rfl) (by omega)).mono ?_
  rintro e w3 ⟨v5, c5, rfl, h5, hS5⟩
  obtain ⟨ao5, cap5, rfl⟩ := h5.shape
  have H5 := Lib.hid (And.intro h5 (H4.out.2.join hS5))
  clear h5 hS5
  go_wp2_with fail
  refine (encode_any _ (mtfE mtf0 L) w3 (H5.out.1.rd H5.out.2 0 rfl) (by rw [mtfE_length]; omega)).mono ?_
  rintro e w4 ⟨v6, c6, rfl, h6, hS6⟩
  obtain ⟨ao6, cap6, rfl⟩ := h6.shape
  have hxl : (enc (mtfE mtf0 L) 0).length ≤ 200000 := by
    have := enc_le (mtfE mtf0 L) 0
    rw [mtfE_length] at this
    omega
  have HX := Lib.hid (enc_range (mtfE mtf0 L) 0)
  have HSY : Hid (enc (mtfE mtf0 L) 0 = symE L) := Lib.hid rfl
  obtain ⟨xs, HXS⟩ : ∃ xs, Hid (xs = symE L) := ⟨_, Lib.hid rfl⟩
  rw [HSY.out, ← HXS.out] at h6 hxl HX
  rw [HSY.out, ← HXS.out]
  have hS7 := (H5.out.2.join hS6).pick [0, 3] (by decide) [c6, c3] rfl
  have H6 := Lib.hid h6
  clear h6 hS6
  go_wp2_with (at_make; (refine wpList_mk (n := 258) 91 i0 (.int .i64 0) _ _ rfl rfl _ _ _ _ rfl rfl Try.underlying91 i0a i0b i0c i0d rfl ?_ ?_ ?_ ?_ hS7 ?_); omega; omega; omega; (unfold maxLen; omega); intro g7 c7 w5 r7 s7)
  have HH := Lib.hid (And.intro r7 s7)
  clear r7 s7 hS7
  go_loopg [34] xs.length (fun m s34 wr => ∃ i : Nat, i + m = xs.length ∧ s34 = .int .i64 (i : Int) ∧ ∃ c7, RowC 2 1 (.slice (some ⟨g7, 0, none⟩) 258 258) 258 (iv (frE (xs.take i))) c7 ∧ St w.heap.size w wr [c7, c6, c3])
  case atStart =>
    refine ⟨0, by omega, rfl, c7, ?_, HH.out.2⟩
    rw [List.take_zero, frE_zero, iv_replicate]
    exact HH.out.1
  case round =>
    clear HH c7
    obtain ⟨i, hi, rfl, c7, hr7, hS7⟩ := hrel
    cases gk with
    | zero =>
      obtain rfl : i = xs.length := by omega
      rw [List.take_length] at hr7
      have H7 := Lib.hid (And.intro hr7 hS7)
      clear hi
      go_wp2_with fail
      have hrd7 : Rd wr 1 (.slice (some ⟨g7, 0, none⟩) 258 258) (frE xs).length (iv (frE xs)) := by
        rw [frE_length]
        exact H7.out.1.rd H7.out.2 0 rfl
      clear hr7 hS7
      refine (of_any (frE xs) _ wr (by rw [frE_length]; omega) hrd7).mono ?_
      rintro e w6 (⟨hbad, _⟩ | ⟨_, v8, c8, rfl, hr8, hS8⟩)
      · rw [frE_good xs (by omega)] at hbad
        cases hbad
      have hr8' : RowC 3 1 v8 258 (iv (lensE xs)) c8 := by
        rw [frE_length] at hr8
        exact hr8
      have hSA := ((H7.out.2.join hS8).pick [0, 2, 3] (by decide) [c8, c6, c3] rfl).alloc (Obj.cells #[.slice none 0 0, .int .i64 0] 96 (0, 0))
      obtain ⟨ao8, cap8, rfl⟩ := hr8'.shape
      have H8 := Lib.hid (And.intro hr8' hSA)
      have hc := wr_new w6.heap.size
      have HCW := Lib.hid hc
      clear hr8 hS8 hr8' hSA hrd7 hc H7
      go_wp2_with fail
      have HLB := Lib.hid (lensE_range xs)
      have hll := lensE_length xs
      obtain ⟨ls, HLS⟩ : ∃ ls, Hid (ls = lensE xs) := ⟨_, Lib.hid rfl⟩
      rw [← HLS.out] at H8 HLB hll
      go_loopg [54] 258 (fun m s54 wr => ∃ i : Nat, i + m = 258 ∧ s54 = .int .i64 (i : Int) ∧ ∃ cw, WrC w6.heap.size (nibE (ls.take i)) cw ∧ St w.heap.size w wr [cw, c8, c6, c3])
      case atStart => exact ⟨0, by omega, rfl, _, HCW.out, H8.out.2⟩
      case round =>
        obtain ⟨i, hi, rfl, cw, hcw, hSw⟩ := hrel
        cases gk with
        | zero =>
          obtain rfl : i = 258 := by omega
          rw [List.take_of_length_le (by omega)] at hcw
          have hbl : (nibE ls).length ≤ 1000000 := by rw [nibE_length, hll]; omega
          have hrd8 : Rd wr 1 (Value.slice ao8 258 cap8) ls.length (iv ls) := by rw [hll]; exact H8.out.1.rd hSw 1 rfl
          have HR := Lib.hid hrd8
          have HC := Lib.hid (And.intro hcw hSw)
          have HN := Lib.hid hbl
          clear hcw hSw hrd8 hbl hi
          go_wp2_with fail
          refine (write_any w6.heap.size (nibE ls) _ _ ls xs HC.out.2 HC.out.1 HR.out (H6.out.rd HC.out.2 2 rfl) (by omega) (by rw [HLS.out]; exact lensE_ok xs) (by omega) HN.out (fun w' c' hS' => H6.out.rd hS' 2 rfl)).mono ?_
          rintro e w7 ⟨rfl, c9, hc9, hS9⟩
          have HW := Lib.hid (And.intro hc9 hS9)
          have hwb : (wrBits ls xs (nibE ls)).length ≤ 10000000 := by
            have h1 := symsBits_le ls (fun k hk => HLB.out k hk) xs
            have h2 := HN.out
            unfold wrBits
            split
            · rw [List.length_append]; omega
            · omega
          have HWB := Lib.hid hwb
          clear hc9 hS9 hwb
          have hwat : IntKind.u64.wrap (atF b.length T : Int) = (atF b.length T : Int) := by rw [wrap_u64']; omega
          go_wp2_with fail
          refine (numput_any (atF b.length T) w7 (by omega)).mono ?_
          rintro e w8 ⟨v10, c10, rfl, h10, hS10⟩
          obtain ⟨ao10, cap10, rfl⟩ := h10.shape
          have hSj := HW.out.2.join hS10
          have hrd10 := h10.rd hSj 0 rfl
          have H3r := H3.out.1
          have hp1 := putN_le b.length
          have hp2 := putN_le (atF b.length T)
          clear h10 hS10
          go_wp2_with (at_builtin; (refine wpList_app 4 29 j0 (.int .u8 0) _ _ rfl rfl rfl rfl Try.underlying29 j0a j0b j0c j0d rfl (by decide) hSj rfl H3r hrd10 (bv_one _) ?_ ?_ ?_); (unfold maxLen; omega); omega; intro v11 c11 w9 hr11 hS11)
          have hSk := hS11.pick [1, 4] (by decide) [c9, c11] rfl
          obtain ⟨ao11, cap11, rfl⟩ := hr11.shape
          refine (wbytes_any w6.heap.size _ hSk HW.out.1 (by have := HWB.out; omega)).mono ?_
          rintro e w10 ⟨v12, c12, cs, rfl, hr12, hS12, hcl, hpk⟩
          have hSm := hSk.join hS12
          have hrd12 := hr12.rd hSm 0 rfl
          obtain ⟨ao12, cap12, rfl⟩ := hr12.shape
          have hcn : cs.length ≤ 2000000 := by
            have := HWB.out
            omega
          have HP := Lib.hid (And.intro hcl hpk)
          clear hr12 hS12 hcl hpk hSj hrd10 hS11
          go_wp2_with (at_builtin; (refine wpList_app 2 29 j0 (.int .u8 0) _ _ rfl rfl rfl rfl Try.underlying29 j0a j0b j0c j0d rfl (by decide) hSm rfl hr11 hrd12 (bv_one _) ?_ ?_ ?_); (unfold maxLen; omega); omega; intro v13 c13 w11 hr13 hS13)
          go_ret
          have hSf := hS13.pick [2] (by decide) [c13] rfl
          have e9 : bitE L = wrBits ls xs (nibE ls) := by
            unfold bitE
            rw [← HXS.out, HLS.out]
          refine ⟨putN b.length ++ putN (atF b.length T) ++ cs, v13, c13, rfl, ?_, .inr ⟨HB0.out, T, L, cs, HT.out.1, HT.out.2, ?_, ?_, rfl⟩, hSf⟩
          · rw [bv_append, bv_append, List.length_append, List.length_append]
            exact hr13
          · rw [e9]; exact HP.out.1
          · rw [e9]; exact HP.out.2
        | succ m =>
          have hlt : i < ls.length := by omega
          obtain ⟨x, hk⟩ : ∃ x, ls[i]? = some x := ⟨_, List.getElem?_eq_getElem hlt⟩
          obtain ⟨ad, rfl, hcell⟩ := (H8.out.1.rd hSw 1 rfl).at (iv_get ls i x hk)
          have hxr := HLB.out x (List.mem_of_getElem? hk)
          obtain ⟨X, rfl⟩ := Int.eq_ofNat_of_zero_le hxr.1
          have htk : ls.take (i + 1) = ls.take i ++ [(X : Int)] := by rw [List.take_add_one, hk]; rfl
          have hbl : (nibE (ls.take i)).length ≤ 2000 := by
            rw [nibE_length]
            have := List.length_take_le' i ls
            omega
          have hwX : IntKind.u64.wrap (X : Int) = (X : Int) := by rw [wrap_u64']; omega
          have HT := Lib.hid (And.intro htk hbl)
          clear hk htk hbl
          go_wp2_with fail
          refine (put_any w6.heap.size _ (X : Int) 4 hSw hcw (by omega) (by omega) (by omega) (by omega) (by have := HT.out.2; omega)).mono ?_
          rintro e w7 ⟨rfl, c9, hc9, hS9⟩
          rw [Int.toNat_natCast, show (4 : Int).toNat = 4 from rfl] at hc9
          go_wp2_with fail
          go_roundg m
          case measure => omega
          case rel => exact ⟨i + 1, by omega, by go_num, c9, by rw [HT.out.1, nibE_snoc, Int.toNat_natCast]; exact hc9, hS9⟩
    | succ m =>
      have hlt : i < xs.length := by omega
      obtain ⟨x, hk⟩ : ∃ x, xs[i]? = some x := ⟨_, List.getElem?_eq_getElem hlt⟩
      obtain ⟨ad, rfl, hcell⟩ := (H6.out.rd hS7 1 rfl).at (iv_get xs i x hk)
      have hxr := HX.out x (List.mem_of_getElem? hk)
      obtain ⟨X, rfl⟩ := Int.eq_ofNat_of_zero_le hxr.1
      have hX : X < 258 := by omega
      have htk : xs.take (i + 1) = xs.take i ++ [(X : Int)] := by rw [List.take_add_one, hk]; rfl
      have hcnt : (xs.take i).count (X : Int) ≤ xs.length := Nat.le_trans List.count_le_length (List.length_take_le' _ _)
      have hfr : (frE (xs.take i))[X]? = some (((xs.take i).count (X : Int) : Nat) : Int) := mkI_get _ _ _ hX
      have hl := hr7.cellAt hS7 0 rfl (iv_get _ _ _ hfr)
      have hf := hr7.freeAt hS7 0 rfl X
      have hs := frE_step (xs.take i) X
      rw [← htk] at hs
      have HT := Lib.hid (And.intro hr7 (And.intro hS7 hs))
      generalize (xs.take i).count (X : Int) = C at *
      clear hk htk hxr hfr hs hr7 hS7
      go_wp2_with fail
      go_roundg m
      case measure => omega
      case rel =>
        obtain ⟨c', hr', hS'⟩ := HT.out.1.store HT.out.2.1 0 rfl rfl X (.int .i64 ((C : Int) + 1))
        rw [iv_set, ← HT.out.2.2] at hr'
        exact ⟨i + 1, by omega, by go_num, c', hr', hS'⟩
end Go.Proofs.Ythgbkncanoknkaa
/-
  Contracts of number.Text, number.GetText, number.Reader's Text, Done.
-/
set_option linter.unusedVariables false
set_option linter.unusedSimpArgs false
namespace Go.Proofs.Ythgbkncanoknkaa
open Go.RowKit
set_option maxRecDepth 100000
/-- A text as bytes. -/
def textP (s : List UInt8) : List UInt8 := putN s.length ++ s
theorem strLen (s : List UInt8) : (⟨s.toArray⟩ : ByteArray).size = s.length := by simp [ByteArray.size]
set_option maxHeartbeats 2000000 in
theorem numtext_any (s : List UInt8) (w : World) (hn : s.length ≤ 1000000) : Calls Try.prog 28 #[.string ⟨s.toArray⟩] w (BytesOut (textP s) w) := by
  obtain ⟨i0, i0a, i0b, i0c, i0d⟩ := info_parts infoU8
  have hw64 : IntKind.u64.wrap (s.length : Int) = (s.length : Int) := by rw [wrap_u64']; omega
  have hsl := strLen s
  go_enter Try.func28, Try.ntmps28
  go_wp2_with fail
  refine (numput_any s.length w (by omega)).mono ?_
  rintro e w1 ⟨v1, c1, rfl, hr1, hS1⟩
  obtain ⟨ao1, cap1, rfl⟩ := hr1.shape
  have hpl := putN_le s.length
  go_wp2_with ((at_builtin; (refine wpList_appS 0 29 9 i0 _ _ s rfl rfl rfl rfl Try.underlying29 Try.underlying9 i0a i0b i0c i0d hS1 rfl hr1 ?_ ?_ ?_); (unfold maxLen; omega); omega; intro v2 c2 w2 hr2 hS2))
  go_ret
  rw [← bv_append] at hr2
  exact ⟨_, c2, rfl, by unfold textP; rw [List.length_append]; exact hr2, hS2⟩
/-- What is read of a text: it, and how many bytes; 0: none. -/
def getT (b : List UInt8) : Option (List UInt8 × Nat) :=
  if (getN b).2 = 0 ∨ b.length - (getN b).2 < (getN b).1 then none else some ((b.drop (getN b).2).take (getN b).1, (getN b).2 + (getN b).1)
def GetTOut (b : List UInt8) (w : World) (e : Ending) (w' : World) : Prop :=
  w = w' ∧ ((getT b = none ∧ e = .returned (.tuple #[.string ⟨([] : List UInt8).toArray⟩, .int .i64 0])) ∨ ∃ s k, getT b = some (s, k) ∧ e = .returned (.tuple #[.string ⟨s.toArray⟩, .int .i64 (k : Int)]))
set_option maxHeartbeats 2000000 in
theorem gettext_any (v : Value) (b : List UInt8) (w : World) (h : Rd w 1 v b.length (bv b)) (hn : b.length ≤ 1000000) : Calls Try.prog 44 #[v] w (GetTOut b w) := by
  obtain ⟨ao, cap, rfl⟩ := h.shape
  have H0 := Lib.hid h
  have hcap := h.cap
  obtain ⟨hg1, hg2⟩ := getN_le b
  obtain ⟨n, k, hnk⟩ : ∃ n k, getN b = (n, k) := ⟨_, _, rfl⟩
  have HG : Hid (getT b = if k = 0 ∨ b.length - k < n then none else some ((b.drop k).take n, k + n)) := Lib.hid (by unfold getT; rw [hnk])
  rw [hnk] at hg1 hg2
  simp only at hg1 hg2
  have HC := Lib.hid (And.intro (numget_any (.slice ao b.length cap) b w h hn) hnk)
  clear h hnk
  go_enter Try.func44, Try.ntmps44
  go_wp2_with fail
  refine HC.out.1.mono ?_
  rintro e w1 ⟨rfl, rfl⟩
  rw [HC.out.2]
  have hL64 : IntKind.u64.wrap ((b.length : Int) - (k : Int)) = (b.length : Int) - (k : Int) := by rw [wrap_u64']; omega
  by_cases q0 : k = 0
  · have HN : Hid (getT b = none) := Lib.hid (by rw [HG.out, if_pos (.inl q0)])
    have q0i : ((k : Int) == 0) = true := by rw [q0]; rfl
    clear q0
    go_wp2_with fail
    go_ret2
    exact ⟨rfl, .inl ⟨HN.out, rfl⟩⟩
  have q0i : ((k : Int) == 0) = false := by rw [beq_eq_false_iff_ne]; omega
  by_cases q1 : b.length - k < n
  · have HN : Hid (getT b = none) := Lib.hid (by rw [HG.out, if_pos (.inr q1)])
    have q1i : (b.length : Int) - (k : Int) < (n : Int) := by omega
    clear q1
    go_wp2_with fail
    go_ret2
    exact ⟨rfl, .inl ⟨HN.out, rfl⟩⟩
  have HN : Hid (getT b = some ((b.drop k).take n, k + n)) := Lib.hid (by rw [HG.out, if_neg (by omega)])
  have q1i : ¬ (b.length : Int) - (k : Int) < (n : Int) := by omega
  have hwn : IntKind.i64.wrap (n : Int) = (n : Int) := IntWalk.i64_in _ (by omega)
  have hkn1 : (k : Int) ≤ (k : Int) + (n : Int) := by omega
  have hkn2 : (k : Int) + (n : Int) ≤ (cap : Int) := by omega
  obtain ⟨ad, rfl⟩ : ∃ ad, ao = some ad := by
    cases ao with
    | none => have := H0.out.none_iff; omega
    | some ad => exact ⟨ad, rfl⟩
  by_cases qc : cap = k
  · have hn0 : n = 0 := by omega
    subst hn0
    subst qc
    have hb1 : Rd w 1 (.slice (some ad) 0 0) 0 (bv []) := by
      have h1 := H0.out.drop (ao' := some ad) cap (by omega) (fun e => absurd rfl e) (fun _ => rfl)
      rw [Nat.sub_self] at h1
      have h2 := h1.take 0 (Nat.zero_le _)
      simpa [bv] using h2
    have hcv := conv_str hb1
    clear hb1
    go_wp2_with fail
    go_ret2
    exact ⟨rfl, .inr ⟨_, _, HN.out, by simp⟩⟩
  · have hb1 : Rd w 1 (.slice (some (ad.add k)) n (cap - k)) n (bv ((b.drop k).take n)) := by
      have h1 := H0.out.drop (ao' := some (ad.add k)) k (by omega) (fun _ => by rw [Nat.mul_one]; rfl) (fun e => absurd e qc)
      have h2 := h1.take n (by omega)
      rwa [← bv_drop, ← bv_take] at h2
    have hcv := conv_str hb1
    obtain ⟨xx, HXX⟩ : ∃ xx, Hid (xx = (b.drop k).take n) := ⟨_, Lib.hid rfl⟩
    rw [← HXX.out] at hcv HN
    clear hb1
    go_wp2_with fail
    go_ret2
    exact ⟨rfl, .inr ⟨xx, k + n, HN.out, by simp⟩⟩
theorem getT_pos {b s : List UInt8} {k : Nat} (h : getT b = some (s, k)) : 0 < k ∧ k ≤ b.length := by
  obtain ⟨h1, _⟩ := getN_le b
  unfold getT at h
  split at h
  · cases h
  · injection h with h
    have h2 := congrArg Prod.snd h
    simp only at h2
    omega
section
variable {w0 w : World} {F : List (List (Nat × Obj))}
def RTextOut (p : Nat) (b : List UInt8) (w0 : World) (F : List (List (Nat × Obj))) (e : Ending) (w' : World) : Prop :=
  (getT b = none ∧ e = .returned (.string ⟨([] : List UInt8).toArray⟩) ∧ St w0.heap.size w0 w' (rdrC p (.slice none 0 0) true :: F)) ∨
  (∃ s k sv', getT b = some (s, k) ∧ e = .returned (.string ⟨s.toArray⟩) ∧ Rd w0 1 sv' (b.drop k).length (bv (b.drop k)) ∧ St w0.heap.size w0 w' (rdrC p sv' false :: F))
set_option maxHeartbeats 4000000 in
theorem rtext_any (p : Nat) (sv : Value) (bad : Bool) (b : List UInt8) (hbad : bad = true → b = []) (hrd : Rd w0 1 sv b.length (bv b)) (hS : St w0.heap.size w0 w (rdrC p sv bad :: F)) (hn : b.length ≤ 1000000) :
    Calls Try.prog 33 #[.pointer (some ⟨p, 0, none⟩)] w (RTextOut p b w0 F) := by
  obtain ⟨c0, c1, f0, f1⟩ := rdr_cells hS
  obtain ⟨ao, cap, rfl⟩ := hrd.shape
  obtain ⟨hc1, hc2⟩ := hrd.cap
  have H0 := Lib.hid (And.intro hrd (And.intro hS hbad))
  have HG := Lib.hid (gettext_any (.slice ao b.length cap) b w (hrd.st hS) hn)
  clear hrd hS hbad
  go_enter Try.func33, Try.ntmps33
  go_wp2_with fail
  refine HG.out.mono ?_
  rintro e w1 ⟨rfl, ⟨hg, rfl⟩ | ⟨s, k, hg, rfl⟩⟩
  · have HN := Lib.hid hg
    clear hg
    go_wp2_with fail
    refine (rstep_bad p 0 _ bad H0.out.2.1 (.inr rfl) (by omega)).mono ?_
    rintro e w2 ⟨rfl, hS2⟩
    obtain ⟨d0, d1, _, _⟩ := rdr_cells hS2
    have HS2 := Lib.hid hS2
    clear c0 c1 f0 f1 hS2
    go_wp2_with fail
    go_ret
    exact .inl ⟨HN.out, rfl, HS2.out⟩
  · have HN := Lib.hid hg
    obtain ⟨hk1, hk2⟩ := getT_pos hg
    obtain rfl : bad = false := by
      cases bad with
      | true => have := H0.out.2.2 rfl; rw [this] at hk2; simp at hk2; omega
      | false => rfl
    clear hg
    go_wp2_with fail
    refine (rstep_ok p k b.length cap ao H0.out.2.1 hk1 hk2 hc1 hc2).mono ?_
    rintro e w2 ⟨rfl, ao', a1, a2, hS2⟩
    obtain ⟨d0, d1, _, _⟩ := rdr_cells hS2
    have HS2 := Lib.hid hS2
    have HA := Lib.hid (And.intro a1 a2)
    clear c0 c1 f0 f1 hS2 a1 a2
    go_wp2_with fail
    go_ret
    have hl : (b.drop k).length = b.length - k := List.length_drop
    refine .inr ⟨s, k, _, HN.out, rfl, ?_, HS2.out⟩
    rw [hl, bv_drop]
    exact H0.out.1.drop k hk2 (fun e => by rw [HA.out.1 e, Nat.mul_one]) HA.out.2
set_option maxHeartbeats 2000000 in
theorem rdone_any (p : Nat) (sv : Value) (bad : Bool) (b : List UInt8) (hrd : Rd w0 1 sv b.length (bv b)) (hS : St w0.heap.size w0 w (rdrC p sv bad :: F)) :
    Calls Try.prog 34 #[.pointer (some ⟨p, 0, none⟩)] w fun e w' => e = .returned (.bool (!bad && b.isEmpty)) ∧ w = w' := by
  obtain ⟨c0, c1, f0, f1⟩ := rdr_cells hS
  obtain ⟨ao, cap, rfl⟩ := hrd.shape
  clear hrd hS
  cases bad with
  | true =>
    go_enter Try.func34, Try.ntmps34
    go_wp2_with fail
    go_ret
    exact ⟨rfl, rfl⟩
  | false =>
    cases b with
    | nil =>
      go_enter Try.func34, Try.ntmps34
      go_wp2_with fail
      go_ret
      exact ⟨rfl, rfl⟩
    | cons x b =>
      have hl : (((x :: b).length : Int) == 0) = false := by rw [beq_eq_false_iff_ne]; simp; omega
      have hl2 : ((b.length : Int) + 1 == 0) = false := by rw [beq_eq_false_iff_ne]; omega
      go_enter Try.func34, Try.ntmps34
      go_wp2_with fail
      go_ret
      exact ⟨rfl, rfl⟩
end
end Go.Proofs.Ythgbkncanoknkaa
/-
  Contract of zeros.Decode.
-/
set_option linter.unusedVariables false
set_option linter.unusedSimpArgs false
namespace Go.Proofs.Ythgbkncanoknkaa
open Go.RowKit
set_option maxRecDepth 100000
section
attribute [local go_sem] max2_ints max_of_two
set_option maxHeartbeats 4000000 in
theorem decode_any (v : Value) (l : List Int) (most : Int) (w : World) (h : Rd w 1 v l.length (iv l)) (hn : l.length ≤ 1099511600000) (hm : most ≤ 1099511600000) :
    Calls Try.prog 85 #[v, .int .i64 most] w fun e w' => ∃ u, e = .returned (.tuple #[u, .int .i64 (dec most.toNat l [] 1).2]) ∧ ∃ c, RowC 5 1 u (dec most.toNat l [] 1).1.length (bv (dec most.toNat l [] 1).1) c ∧ St w.heap.size w w' [c] := by
  obtain ⟨i0, i0a, i0b, i0c, i0d⟩ := info_parts infoU8
  obtain ⟨ao, cap, rfl⟩ := h.shape
  have hS := (St.init w).one_nil
  have hnl : (l.length : Int) ≤ 1099511600000 := by omega
  obtain ⟨M, hM⟩ : ∃ M : Nat, M = most.toNat := ⟨_, rfl⟩
  have hmax : (if most < 0 then 0 else most) = (M : Int) := by split <;> omega
  rw [← hM]
  have hMl : (M : Int) ≤ 1099511600000 := by omega
  clear hM
  go_enter Try.func85, Try.ntmps85
  go_wp2_with fail
  go_loopg [6, 7, 14] l.length (fun m s6 s7 s14 wr => ∃ i wth : Nat, i + m = l.length ∧ s14 = .int .i64 (i : Int) ∧ s7 = .int .i64 (wth : Int) ∧ ∃ b c, Hid (dec M (l.drop i) b wth = dec M l [] 1 ∧ b.length ≤ M ∧ 1 ≤ wth ∧ wth ≤ 2 * M + 1) ∧ RowC 5 1 s6 b.length (bv b) c ∧ St w.heap.size w wr [c])
  case atStart => exact ⟨0, 1, by omega, rfl, rfl, [], [], ⟨rfl, by simp, by omega, by omega⟩, RowC.nil _ _, hS⟩
  case round =>
    clear hS
    obtain ⟨i, wth, hi, rfl, rfl, b, c, HK, hr, hS⟩ := hrel
    obtain ⟨ao2, cap2, rfl⟩ := hr.shape
    cases gk with
    | zero =>
      obtain rfl : i = l.length := by omega
      clear hi
      have hk := HK.out.1
      rw [List.drop_length, dec] at hk
      have HQ := Lib.hid hk
      clear hk
      go_wp2_with fail
      go_ret2
      rw [← HQ.out]
      exact ⟨_, rfl, [], RowC.nil _ _, hS.pick [] (by simp) [] rfl |>.one_nil⟩
    | succ m =>
      have hlt : i < l.length := by omega
      obtain ⟨x, hx⟩ : ∃ x, l[i]? = some x := ⟨_, List.getElem?_eq_getElem hlt⟩
      obtain ⟨ad, rfl, hcell⟩ := (h.keep hS.below).at (iv_get l i x hx)
      have hd : l.drop i = x :: l.drop (i + 1) := by rw [List.drop_eq_getElem_cons hlt]; congr 1; exact (List.getElem?_eq_some_iff.1 hx).2
      have hk := HK.out
      rw [hd] at hk
      obtain ⟨hk, hbM, hw1, hw2⟩ := hk
      have hblen : (b.length : Int) ≤ M := by omega
      clear hd hx HK
      have hne : l.drop (i + 1) ≠ [] ↔ (i : Int) < (l.length : Int) - 1 := by
        rw [Ne, List.drop_eq_nil_iff]; omega
      by_cases q1 : x < 0
      · rw [dec_bad (.inl q1)] at hk
        have HQ := Lib.hid hk
        clear hk hne
        go_wp2_with fail
        go_ret2
        rw [← HQ.out]
        exact ⟨_, rfl, [], RowC.nil _ _, hS.pick [] (by simp) [] rfl |>.one_nil⟩
      by_cases q2 : 257 < x
      · rw [dec_bad (.inr (.inl q2))] at hk
        have HQ := Lib.hid hk
        clear hk hne
        go_wp2_with fail
        go_ret2
        rw [← HQ.out]
        exact ⟨_, rfl, [], RowC.nil _ _, hS.pick [] (by simp) [] rfl |>.one_nil⟩
      by_cases q3 : x = 257
      · subst q3
        by_cases q4 : (i : Int) < (l.length : Int) - 1
        · rw [dec_bad (.inr (.inr ⟨rfl, hne.2 q4⟩))] at hk
          have HQ := Lib.hid hk
          clear hk hne q1 q2
          go_wp2_with fail
          go_ret2
          rw [← HQ.out]
          exact ⟨_, rfl, [], RowC.nil _ _, hS.pick [] (by simp) [] rfl |>.one_nil⟩
        · have e : l.drop (i + 1) = [] := by rw [List.drop_eq_nil_iff]; omega
          rw [e, dec_end] at hk
          have HQ := Lib.hid hk
          clear hk hne e q1 q2
          go_wp2_with fail
          go_ret2
          rw [← HQ.out]
          exact ⟨_, rfl, c, hr, hS⟩
      clear hne
      by_cases q4 : 1 < x
      · by_cases q5 : (M : Int) ≤ (b.length : Int)
        · rw [dec_full q4 (by omega) (by omega)] at hk
          have HQ := Lib.hid hk
          clear hk
          go_wp2_with fail
          go_ret2
          rw [← HQ.out]
          exact ⟨_, rfl, [], RowC.nil _ _, hS.pick [] (by simp) [] rfl |>.one_nil⟩
        · rw [dec_byte q4 (by omega) (by omega)] at hk
          have HQ := Lib.hid hk
          clear hk
          go_wp2_with (at_builtin; (refine wpList_app1 0 29 i0 (.int .u8 0) _ _ _ rfl rfl rfl rfl Try.underlying29 i0a i0b i0c i0d rfl hS rfl hr rfl ?_ ?_ ?_); (unfold maxLen; omega); omega; intro v2 c2 w2 hr2 hs2)
          go_roundg m
          case measure => omega
          case rel =>
            refine ⟨i + 1, 1, by omega, by go_num, by go_num, b ++ [UInt8.ofNat (x - 1).toNat], c2, ⟨HQ.out, by simp; omega, by omega, by omega⟩, ?_, hs2⟩
            rw [bv_append]
            have e : ((UInt8.ofNat (x - 1).toNat).toNat : Int) = x - 1 := by simp only [UInt8.toNat_ofNat']; omega
            have e2 : bv [UInt8.ofNat (x - 1).toNat] = [.int .u8 (x - 1)] := congrArg (fun z => [Value.int .u8 z]) e
            rw [e2, List.length_append]
            exact hr2
      · obtain ⟨d, rfl⟩ : ∃ d : Nat, x = (d : Int) := ⟨x.toNat, by omega⟩
        have hd1 : d = 0 ∨ d = 1 := by omega
        by_cases q5 : M - b.length < wth * (d + 1)
        · rw [dec_great (by omega) (by omega) (by simpa using q5)] at hk
          have HQ := Lib.hid hk
          clear hk
          have c6 : (M : Int) < wth ∨ ((M : Int) - b.length) / ((d : Int) + 1) < wth := by
            right
            have : M - b.length < wth * (d + 1) := q5
            rcases hd1 with rfl | rfl <;> omega
          clear hd1
          go_wp2_with fail
          all_goals
            go_ret2
            rw [← HQ.out]
            exact ⟨_, rfl, [], RowC.nil _ _, hS.pick [] (by simp) [] rfl |>.one_nil⟩
        · rw [dec_run (by omega) (by omega) (by simpa using q5)] at hk
          have HQ := Lib.hid hk
          clear hk
          rcases hd1 with rfl | rfl
          · go_wp2_with (at_builtin; (refine wpList_app0 0 29 3 i0 (.int .u8 0) .i64 .i64 wth _ _ rfl rfl _ rfl rfl Try.underlying29 Try.underlying3 i0a i0b i0c i0d rfl rfl (by go_num) hS rfl hr ?_ ?_ ?_); (unfold maxLen; omega); omega; intro v2 c2 w2 hr2 hs2)
            go_roundg m
            case measure => omega
            case rel =>
              refine ⟨i + 1, wth * 2, by omega, by go_num, by go_num, b ++ List.replicate wth 0, c2, ⟨by simpa using HQ.out, by simp; omega, by omega, by omega⟩, ?_, hs2⟩
              rw [bv_append, bv_zeros, List.length_append, List.length_replicate]
              exact hr2
          · go_wp2_with (at_builtin; (refine wpList_app0 0 29 3 i0 (.int .u8 0) .i64 .i64 (wth * 2) _ _ rfl rfl _ rfl rfl Try.underlying29 Try.underlying3 i0a i0b i0c i0d rfl rfl (by go_num) hS rfl hr ?_ ?_ ?_); (unfold maxLen; omega); omega; intro v2 c2 w2 hr2 hs2)
            go_roundg m
            case measure => omega
            case rel =>
              refine ⟨i + 1, wth * 2, by omega, by go_num, by go_num, b ++ List.replicate (wth * 2) 0, c2, ⟨by simpa using HQ.out, by simp; omega, by omega, by omega⟩, ?_, hs2⟩
              rw [bv_append, bv_zeros, List.length_append, List.length_replicate]
              exact hr2
end
end Go.Proofs.Ythgbkncanoknkaa
/-
  Contracts of codes.reader.symbol and codes.Read.
-/
set_option linter.unusedVariables false
set_option linter.unusedSimpArgs false
namespace Go.Proofs.Ythgbkncanoknkaa
open Go.RowKit
set_option maxRecDepth 100000
/-- A code reader at block q: how many codes there are, the first ones, and the symbols as slices. -/
structure CrOk (w : World) (q : Nat) (l : List Int) (sv : Nat → Value) : Prop where
  n : ∀ k, k < 16 → w.cell? ⟨q, k, none⟩ = some (.int .i64 (cntP l k : Int))
  f : ∀ k, k < 16 → w.cell? ⟨q, 16 + k, none⟩ = some (.int .i64 (fstP l k : Int))
  s : ∀ k, k < 16 → w.cell? ⟨q, 32 + k, none⟩ = some (sv k)
  r : ∀ k, k < 16 → Rd w 1 (sv k) (symsP l k).length (iv (symsP l k))
theorem or_bit (V : Nat) (b : Bool) (h : V < 4611686018427387904) : bits .or .i64 ((V : Int) * 2) (b.toNat : Int) = ((2 * V + b.toNat : Nat) : Int) := by
  have e3 : ((V : Int) * 2) = ((2 * V : Nat) : Int) := by omega
  have hb2 : b.toNat < 2 := by cases b <;> simp
  rw [e3]
  show IntKind.i64.wrap ((BitVec.ofInt 64 ((2 * V : Nat) : Int) ||| BitVec.ofInt 64 (b.toNat : Int)).toNat : Int) = _
  rw [BitVec.toNat_or, ofInt_u64 _ (by omega), ofInt_u64 _ (by omega)]
  have e4 : 2 * V ||| b.toNat = 2 * V + b.toNat := by
    have := Nat.two_pow_add_eq_or_of_lt (i := 1) (b := b.toNat) (by omega) V
    simp at this
    exact this.symm
  rw [e4, IntKind.wrap_i64]
  omega
section
variable {B : Nat} {w0 w : World} {F : List HL} {c : HL}
/-- What one symbol comes to. -/
def symInt (o : Option (Nat × Nat)) : Int := match o with | none => -1 | some (s, _) => (s : Int)
set_option maxHeartbeats 2000000 in
theorem symbol_any (p q : Nat) (l : List Int) (sv : Nat → Value) (bs : List UInt8) (at_ : Nat) (hS : St B w0 w (c :: F)) (hc : RdC p bs at_ c) (hn : bs.length ≤ 140737488355328) (hk : kraftP l ≤ 32768) (hln : l.length ≤ 300)
    (hcr : ∀ w' c', St B w0 w' (c' :: F) → CrOk w' q l sv) :
    Calls Try.prog 94 #[.pointer (some ⟨q, 0, none⟩), .pointer (some ⟨p, 0, none⟩)] w fun e w' => e = .returned (.int .i64 (symInt (symP l 15 0 0 ((bitsB bs).drop at_)))) ∧
      ∃ c' n, RdC p bs (at_ + n) c' ∧ St B w0 w' (c' :: F) ∧ (∀ s m, symP l 15 0 0 ((bitsB bs).drop at_) = some (s, m) → m = n) := by
  have HR := Lib.hid hcr
  have HC := Lib.hid (And.intro hS hc)
  clear hcr hS hc
  go_enter Try.func94, Try.ntmps94
  go_wp2_with fail
  go_loopg [5, 6] 15 (fun m s5 s6 wr => ∃ k v : Nat, k + m = 15 ∧ s6 = .int .i64 ((k : Int) + 1) ∧ s5 = .int .i64 (v : Int) ∧ v < 2 ^ k ∧ ∃ c', RdC p bs (at_ + k) c' ∧ St B w0 wr (c' :: F) ∧ Hid (symP l m k v ((bitsB bs).drop (at_ + k)) = symP l 15 0 0 ((bitsB bs).drop at_)))
  case atStart => exact ⟨0, 0, by omega, rfl, rfl, by simp, c, by simpa using HC.out.2, HC.out.1, Lib.hid (by simp)⟩
  case round =>
    clear HC
    obtain ⟨k, v, hkm, rfl, rfl, hv, c', hc, hS, HE⟩ := hrel
    cases gk with
    | zero =>
      obtain rfl : k = 15 := by omega
      have he := HE.out
      rw [symP] at he
      have HE2 := Lib.hid he
      clear he HE hkm
      go_wp2_with fail
      go_ret
      rw [← HE2.out]
      exact ⟨rfl, c', 15, hc, hS, fun s m h => by cases h⟩
    | succ m =>
      have hk15 : k < 15 := by omega
      have hvb : v < 2 ^ 15 := Nat.lt_of_lt_of_le hv (Nat.pow_le_pow_right (by omega) (by omega))
      go_wp2_with fail
      by_cases hend : 8 * bs.length ≤ at_ + k
      · have hd : (bitsB bs).drop (at_ + k) = [] := List.drop_of_length_le (by rw [bitsB_length]; exact hend)
        have he := HE.out
        rw [hd, symP] at he
        have HE2 := Lib.hid he
        refine (get_bad p bs (at_ + k) 1 hS hc hn (.inr (.inr (by omega)))).mono ?_
        rintro e w2 ⟨rfl, nd, rfl⟩
        clear he hd HE
        go_wp2_with fail
        go_ret
        rw [← HE2.out]
        exact ⟨rfl, c', k, hc, hS.drewN nd, fun s m h => by cases h⟩
      · obtain ⟨b, hb⟩ : ∃ b, (bitsB bs)[at_ + k]? = some b := ⟨_, List.getElem?_eq_getElem (by rw [bitsB_length]; omega)⟩
        obtain ⟨hbl, hb2⟩ := List.getElem?_eq_some_iff.1 hb
        have hd : (bitsB bs).drop (at_ + k) = b :: (bitsB bs).drop (at_ + k + 1) := by rw [List.drop_eq_getElem_cons hbl, hb2]
        have he := HE.out
        have hv1 : (valOf (((bitsB bs).drop (at_ + k)).take (1 : Int).toNat) : Int) = (b.toNat : Int) := by rw [hd]; simp [valOf]
        rw [hd, symP] at he
        have HE2 := Lib.hid he
        refine (get_any p bs (at_ + k) 1 hS hc hn (by omega) (by omega) (by omega)).mono ?_
        rintro e w2 ⟨rfl, c2, hc2, hS2⟩
        rw [hv1]
        have hor := or_bit v b (by omega)
        have hv2 : 2 * v + b.toNat < 2 ^ (k + 1) := by rw [Nat.pow_succ]; cases b <;> simp <;> omega
        have hvb2 : 2 * v + b.toNat < 65536 := by cases b <;> simp <;> omega
        have hcr := HR.out _ _ hS2
        have hn1 := hcr.n (k + 1) (by omega)
        have hf1 := hcr.f (k + 1) (by omega)
        have hs1 := hcr.s (k + 1) (by omega)
        have hsm := fstP_small l hk (k + 1) (by omega)
        have hrd := hcr.r (k + 1) (by omega)
        obtain ⟨N, hN⟩ : ∃ N, 2 * v + b.toNat = N := ⟨_, rfl⟩
        rw [hN] at hor hv2 hvb2 HE2
        have hNi : (N : Int) ≤ 65535 := by omega
        have hb1 : (b.toNat : Int) ≤ 1 := by cases b <;> simp
        have hlook := lookP_syms l (k + 1) N (by omega)
        have HH := Lib.hid (And.intro hv2 hc2)
        have HN := Lib.hid hN
        obtain ⟨aos, caps, hsv⟩ := hrd.shape
        rw [hsv] at hs1 hrd
        clear he hd HE hb hb2 hv1 hc hS hcr hv2 hvb2 hend hbl hc2 hN hsv
        rcases hlook with ⟨hl, hnot⟩ | ⟨s, hl, hge, hlt, hsy⟩
        · have he := HE2.out
          rw [hl] at he
          have HE3 := Lib.hid he
          clear he HE2 hl
          by_cases q1 : N < fstP l (k + 1)
          · go_wp2_with fail
            go_roundg m
            case measure => omega
            case rel => exact ⟨k + 1, N, by omega, by go_num, rfl, HH.out.1, c2, HH.out.2, hS2, Lib.hid (by rw [← HN.out, ← HE3.out, HN.out]; rfl)⟩
          · have q2 : endP l (k + 1) ≤ N := by omega
            have q3 : endP l (k + 1) = fstP l (k + 1) + cntP l (k + 1) := rfl
            have q4 : ¬ (N : Int) - (fstP l (k + 1) : Int) < (cntP l (k + 1) : Int) := by omega
            clear q3
            go_wp2_with fail
            go_roundg m
            case measure => omega
            case rel => exact ⟨k + 1, N, by omega, by go_num, rfl, HH.out.1, c2, HH.out.2, hS2, Lib.hid (by rw [← HN.out, ← HE3.out, HN.out]; rfl)⟩
        · have he := HE2.out
          rw [hl] at he
          have HE3 := Lib.hid he
          clear he HE2 hl
          have q3 : endP l (k + 1) = fstP l (k + 1) + cntP l (k + 1) := rfl
          obtain ⟨j, hj⟩ : ∃ j, N = fstP l (k + 1) + j := ⟨N - fstP l (k + 1), by omega⟩
          have hjI : (N : Int) - (fstP l (k + 1) : Int) = (j : Int) := by omega
          rw [show N - fstP l (k + 1) = j from by omega] at hsy
          have hjc : j < cntP l (k + 1) := by omega
          have hjl : j < (symsP l (k + 1)).length := (List.getElem?_eq_some_iff.1 hsy).1
          obtain ⟨ad, rfl, hcell⟩ := hrd.at (iv_get _ j _ hsy)
          clear q3 hj hsy
          go_wp2_with fail
          go_ret
          rw [← HE3.out]
          refine ⟨rfl, c2, k + 1, HH.out.2, hS2, fun s m h => ?_⟩
          simp at h
          exact h.2.symm
end
end Go.Proofs.Ythgbkncanoknkaa
/-
  Contract of codes.Read.
-/
set_option linter.unusedVariables false
set_option linter.unusedSimpArgs false
namespace Go.Proofs.Ythgbkncanoknkaa
open Go.RowKit
set_option maxRecDepth 100000
theorem wp_build2 {P : Program} {o : Oper} {a : Act} {w : World} {K : Act → World → Prop} {Q : Exit → Act → World → Prop} (t : TypeId) (i1 i2 : Nat) (x1 x2 : Operand) (ho : o.op = .build t #[(i1, x1), (i2, x2)]) (v1 v2 : Value) (h1 : a.eval x1 = v1) (h2 : a.eval x2 = v2) (cells : Array Value)
    (hb : P.built t [(i1, v1), (i2, v2)] = some cells) (h : K (a.put o.dst (.agg cells)) w) : o.wp P a w K Q := by
  subst h1; subst h2
  refine wp_build t _ ho ?_ ?_
  · simp [hb]
  · simpa [hb] using h
/-- The cells of a code reader. -/
def rdrI (n f : Nat → Int) (sl : Nat → Value) : Array Value := arrI n ++ arrI f ++ ((List.range 16).map sl).toArray
theorem rdrI_n (n f : Nat → Int) (sl : Nat → Value) (k : Nat) (h : k < 16) : (rdrI n f sl)[k]? = some (.int .i64 (n k)) := by
  unfold rdrI
  rw [Array.getElem?_append_left (by rw [Array.size_append, arrI_size]; omega), Array.getElem?_append_left (by rw [arrI_size]; exact h), arrI_get _ _ h]
theorem rdrI_f (n f : Nat → Int) (sl : Nat → Value) (k : Nat) (h : k < 16) : (rdrI n f sl)[16 + k]? = some (.int .i64 (f k)) := by
  unfold rdrI
  rw [Array.getElem?_append_left (by rw [Array.size_append, arrI_size, arrI_size]; omega), Array.getElem?_append_right (by rw [arrI_size]; omega), arrI_size, show 16 + k - 16 = k from by omega, arrI_get _ _ h]
theorem rdrI_s (n f : Nat → Int) (sl : Nat → Value) (k : Nat) (h : k < 16) : (rdrI n f sl)[32 + k]? = some (sl k) := by
  unfold rdrI
  rw [Array.getElem?_append_right (by rw [Array.size_append, arrI_size, arrI_size]; omega), Array.size_append, arrI_size, arrI_size, show 32 + k - (16 + 16) = k from by omega]
  simp [h]
theorem rdrI_size (n f : Nat → Int) (sl : Nat → Value) : (rdrI n f sl).size = 48 := by
  unfold rdrI
  rw [Array.size_append, Array.size_append, arrI_size, arrI_size]
  simp
theorem rdrI_set (n f : Nat → Int) (sl : Nat → Value) (k : Nat) (hk : k < 16) (v : Value) : (rdrI n f sl).setIfInBounds (32 + k) v = rdrI n f (fun j => if j = k then v else sl j) := by
  apply Array.ext_getElem?
  intro j
  rw [Array.getElem?_setIfInBounds, rdrI_size]
  by_cases e : 32 + k = j
  · subst e
    rw [if_pos rfl, if_pos (by omega), rdrI_s _ _ _ _ hk, if_pos rfl]
  · rw [if_neg e]
    by_cases h1 : j < 16
    · rw [rdrI_n _ _ _ _ h1, rdrI_n _ _ _ _ h1]
    · by_cases h2 : j < 32
      · obtain ⟨i, rfl⟩ : ∃ i, j = 16 + i := ⟨j - 16, by omega⟩
        rw [rdrI_f _ _ _ _ (by omega), rdrI_f _ _ _ _ (by omega)]
      · obtain ⟨i, rfl⟩ : ∃ i, j = 32 + i := ⟨j - 32, by omega⟩
        by_cases h3 : i < 16
        · rw [rdrI_s _ _ _ _ h3, rdrI_s _ _ _ _ h3, if_neg (by omega)]
        · rw [Array.getElem?_eq_none (by rw [rdrI_size]; omega), Array.getElem?_eq_none (by rw [rdrI_size]; omega)]
theorem built_reader (f g : Nat → Int) : Try.prog.built 147 [(0, .agg (arrI f)), (1, .agg (arrI g))] = some (rdrI f g fun _ => .slice none 0 0) := by kernel_rfl
/-- The heaplets while codes are read: the bits' reader, the codes' reader, its sixteen rows. -/
def rdL (c : HL) (q : Nat) (n f : Nat → Int) (sl : Nat → Value) (cl : Nat → HL) (F : List HL) : List HL := c :: [(q, Obj.cells (rdrI n f sl) 147 (0, 0))] :: ((List.range 16).map cl ++ F)
theorem rdL_row (c : HL) (q : Nat) (n f : Nat → Int) (sl : Nat → Value) (cl : Nat → HL) (F : List HL) (k : Nat) (h : k < 16) : (rdL c q n f sl cl F)[k + 2]? = some (cl k) := by
  unfold rdL
  simp only [List.getElem?_cons_succ]
  rw [List.getElem?_append_left (by simp; exact h)]
  simp [h]
theorem rdL_set (c : HL) (q : Nat) (n f : Nat → Int) (sl : Nat → Value) (cl : Nat → HL) (F : List HL) (k : Nat) (h : k < 16) (c' : HL) : (rdL c q n f sl cl F).set (k + 2) c' = rdL c q n f sl (fun j => if j = k then c' else cl j) F := by
  unfold rdL
  simp only [List.set_cons_succ]
  rw [List.set_append_left _ _ (by simp; exact h)]
  congr 3
  apply List.ext_getElem?
  intro j
  rw [List.getElem?_set]
  by_cases e : k = j
  · subst e; simp [h]
  · rw [if_neg e]
    have e' : ¬ j = k := fun x => e x.symm
    by_cases hj : j < 16 <;> simp [hj, e']
theorem rdL_tail (c c' : HL) (q : Nat) (n f : Nat → Int) (sl : Nat → Value) (cl : Nat → HL) (F : List HL) : c' :: (rdL c q n f sl cl F).tail = rdL c' q n f sl cl F := rfl
theorem St.outer {B : Nat} {w0 w : World} {c : HL} {q : Nat} {n f : Nat → Int} {sl : Nat → Value} {cl : Nat → HL} {F : List HL} (h : St B w0 w (rdL c q n f sl cl F)) : St B w0 w (c :: F) := by
  refine h.reindex (fun i => if i = 0 then 0 else i + 17) (by intro i j; split <;> split <;> omega) _ ?_
  intro i x hi
  cases i with
  | zero => exact hi
  | succ i =>
    rw [if_neg (by omega)]
    unfold rdL
    rw [show i + 1 + 17 = (i + 16) + 2 from by omega]
    simp only [List.getElem?_cons_succ] at hi ⊢
    rw [List.getElem?_append_right (by simp)]
    simpa using hi
/-- The symbols among the first ones, by lengths, as rows. -/
def RowsTo (l : List Int) (i : Nat) (sl : Nat → Value) (cl : Nat → HL) : Prop := ∀ k, k < 16 → RowC 3 1 (sl k) (symsP (l.take i) k).length (iv (symsP (l.take i) k)) (cl k)
theorem RowsTo.step {l : List Int} {i K : Nat} {sl : Nat → Value} {cl : Nat → HL} (h : RowsTo l i sl cl) (hK : l[i]? = some (K : Int)) {v : Value} {c : HL} (hr : RowC 3 1 v ((symsP (l.take i) K).length + 1) (iv (symsP (l.take i) K) ++ [.int .i64 (i : Int)]) c) :
    RowsTo l (i + 1) (fun j => if j = K then v else sl j) (fun j => if j = K then c else cl j) := by
  intro k hk
  have h1 := symsP_take_succ l i k (K : Int) hK
  by_cases e : k = K
  · subst e
    rw [if_pos rfl] at h1
    simp only [if_true]
    rw [h1, iv_append, List.length_append]
    exact hr
  · rw [if_neg (by omega), List.append_nil] at h1
    simp only [if_neg e, h1]
    exact h k hk
theorem rdL_store {B : Nat} {w0 w : World} {a c c1 : HL} {q : Nat} {n f : Nat → Int} {sl : Nat → Value} {cl : Nat → HL} {F : List HL} {K : Nat} (hS : St B w0 w ((a :: rdL c q n f sl cl F).set (K + 2 + 1) c1)) (hK : K < 16) (v : Value) :
    St B w0 (w.setCell ⟨q, 32 + K, none⟩ v) (rdL c q n f (fun j => if j = K then v else sl j) (fun j => if j = K then c1 else cl j) F) := by
  have h1 : St B w0 w (rdL c q n f sl (fun j => if j = K then c1 else cl j) F) := by
    rw [← rdL_set _ _ _ _ _ _ _ K hK]
    exact hS.tl
  have h2 := h1.store 1 rfl (32 + K) v
  rw [rdrI_set _ _ _ _ hK] at h2
  exact h2
theorem rdL_out {B : Nat} {w0 w : World} {cu c : HL} {q : Nat} {n f : Nat → Int} {sl : Nat → Value} {cl : Nat → HL} {F : List HL} (h : St B w0 w (rdL c q n f sl cl (cu :: F))) : St B w0 w (cu :: c :: F) := by
  refine h.reindex (fun i => if i = 0 then 18 else if i = 1 then 0 else i + 17) (by intro i j; split <;> split <;> (try split) <;> (try split) <;> omega) _ ?_
  intro i x hi
  rcases i with _ | _ | i
  · exact hi
  · exact hi
  · rw [if_neg (by omega), if_neg (by omega)]
    unfold rdL
    rw [show i + 1 + 1 + 17 = (i + 17) + 2 from by omega]
    simp only [List.getElem?_cons_succ] at hi ⊢
    rw [List.getElem?_append_right (by simp)]
    simp only [List.length_map, List.length_range]
    rw [show i + 17 - 16 = i + 1 from by omega, List.getElem?_cons_succ]
    exact hi
theorem rdL_cr {B : Nat} {w0 w : World} {l : List Int} {c : HL} {q : Nat} {sl : Nat → Value} {cl : Nat → HL} {F : List HL} (hR : RowsTo l l.length sl cl) (h : St B w0 w (rdL c q (fun k => (cntP l k : Int)) (fun k => (fstP l k : Int)) sl cl F)) : CrOk w q l sl := by
  have h1 := fun k => h.cell 1 rfl (List.mem_singleton.2 rfl) k
  refine ⟨fun k hk => (h1 k).trans (rdrI_n _ _ _ k hk), fun k hk => (h1 _).trans (rdrI_f _ _ _ k hk), fun k hk => (h1 _).trans (rdrI_s _ _ _ k hk), fun k hk => ?_⟩
  have := (hR k hk).rd h _ (rdL_row _ _ _ _ _ _ _ k hk)
  rw [List.take_length] at this
  exact this
section
variable {B : Nat} {w0 w : World} {F : List HL} {c : HL}
theorem St.rangeAt {L : List HL} (hS : St B w0 w L) (i : Nat) {g : Nat} {X : Array Value} {T : TypeId} (hi : L[i]? = some [(g, .cells X T (0, 0))]) : w.rangeAt g 0 X.toList := by
  intro j v hv
  rw [Nat.zero_add, hS.cell i hi (List.mem_singleton.2 rfl) j]
  simpa using hv
theorem read_bad (v : Value) (pv : Value) (l : List Int) (e most : Int) (hS : St B w0 w F) (h : Rd w 1 v l.length (iv l)) (hn : l.length ≤ 1000000) (hb : okLens l = false) :
    Calls Try.prog 84 #[pv, v, .int .i64 e, .int .i64 most] w fun e w' => e = .returned (.tuple #[.slice none 0 0, .int .i64 10]) ∧ St B w0 w' F := by
  have HB := Lib.hid hb
  clear hb
  go_enter Try.func84, Try.ntmps84
  go_wp2_with fail
  refine (counts_any v l w h hn).mono ?_
  rintro e w1 ⟨f, rfl, _, hS1⟩
  rw [HB.out]
  have hS2 := hS1.alloc (.cells (arrI fun _ => 0) 122)
  have hz : (#[.int .i64 0, .int .i64 0, .int .i64 0, .int .i64 0, .int .i64 0, .int .i64 0, .int .i64 0, .int .i64 0, .int .i64 0, .int .i64 0, .int .i64 0, .int .i64 0, .int .i64 0, .int .i64 0, .int .i64 0, .int .i64 0] : Array Value) = arrI (fun _ => 0) := rfl
  go_wp2_with (first | (refine wpList_storeRow 0 122 _ _ rfl rfl rfl rfl (h16 _) (by rw [arrI_size, arrI_size]) (arrI_all _) hS2 rfl ?_; intro w2 hS3))
  go_ret2
  exact ⟨rfl, hS.mono hS3.below⟩
/-- What Read comes to. -/
def RdOut (B : Nat) (w0 : World) (F : List HL) (p : Nat) (bs : List UInt8) (at_ : Nat) (r : Int × List Int × Nat) (x : Ending) (w' : World) : Prop :=
  ∃ u cu, x = .returned (.tuple #[u, .int .i64 r.1]) ∧ RowC 3 1 u r.2.1.length (iv r.2.1) cu ∧ ∃ c' n, RdC p bs (at_ + n) c' ∧ St B w0 w' (cu :: c' :: F) ∧ (r.1 = 0 → at_ + n = r.2.2)
set_option maxHeartbeats 4000000 in
theorem read_any (p : Nat) (v : Value) (l : List Int) (bs : List UInt8) (at_ : Nat) (e most : Int) (hS : St B w0 w (c :: F)) (hc : RdC p bs at_ c) (h : Rd w 1 v l.length (iv l)) (hn : l.length ≤ 300) (hbn : bs.length ≤ 1000000) (hok : okLens l = true) 
    (hv : ∀ w' c', St B w0 w' (c' :: F) → Rd w' 1 v l.length (iv l)) :
    Calls Try.prog 84 #[.pointer (some ⟨p, 0, none⟩), v, .int .i64 e, .int .i64 most] w fun x w' => RdOut B w0 F p bs at_ (readP l e most (8 * bs.length + 1) [] at_ ((bitsB bs).drop at_)) x w' := by
  obtain ⟨i0, i0a, i0b, i0c, i0d⟩ := info_parts infoInt
  have hok2 := (okLens_iff l).1 hok
  have hk := hok2.2.1
  have HOK := Lib.hid hok
  have HALL := Lib.hid hok2.2.2
  obtain ⟨ao, cap, rfl⟩ := h.shape
  have hnl : (l.length : Int) ≤ 300 := by omega
  have HV : Hid (∀ w' c', St B w0 w' (c' :: [] :: F) → Rd w' 1 (.slice ao l.length cap) l.length (iv l)) := Lib.hid fun w' c' h => hv w' c' h.swap.tl
  have HC := Lib.hid hc
  replace hS := hS.one_nil.swap
  clear hok hok2 hv hc
  have hz : (#[.int .i64 0, .int .i64 0, .int .i64 0, .int .i64 0, .int .i64 0, .int .i64 0, .int .i64 0, .int .i64 0, .int .i64 0, .int .i64 0, .int .i64 0, .int .i64 0, .int .i64 0, .int .i64 0, .int .i64 0, .int .i64 0] : Array Value) = arrI (fun _ => 0) := rfl
  go_enter Try.func84, Try.ntmps84
  go_wp2_with fail
  refine (counts_any _ l w h (by omega)).mono ?_
  rintro e w1 ⟨f, rfl, hf, hS1⟩
  rw [HOK.out]
  replace hf := hf HOK.out
  rw [hf]
  clear hf
  have hS2 := hS1.alloc (.cells (arrI fun _ => 0) 122)
  go_wp2_with (first | (refine wpList_storeRow 0 122 _ _ rfl rfl rfl rfl (h16 _) (by rw [arrI_size, arrI_size]) (arrI_all _) hS2 rfl ?_; intro w2 hS3))
  have hrg := St.rangeAt hS3 0 rfl
  have hu := Try.underlying122
  have hi : (Try.prog.info? 122).map (·.size) = some (arrI fun k => (cntP l k : Int)).toList.length := h16 _
  have hr0 : w2.drew.rangeAt w1.heap.size 0 (arrI fun k => (cntP l k : Int)).toList := St.rangeAt hS3.drew 0 rfl
  refine wp_region_held_drew (S := fun w' => w'.rangeAt w1.heap.size 0 (arrI fun k => (cntP l k : Int)).toList) mixed hr0 (fun _ => ?_)
  refine wpAnyH_take (i := 0) (v := .agg ((arrI fun k => (cntP l k : Int)))) rfl (by kernel_rfl) (by kernel_rfl) (by kernel_rfl) (fun _ _ _ h => h) (yieldsIf_load_mid (by rfl) _ _ rfl _ _ rfl ((arrI fun k => (cntP l k : Int))).toList _ (fun w hw => hw) hu rfl hi) hr0 ?_
  simp only [Act.put, List.setIfInBounds_toArray, List.set_cons_zero, List.set_cons_succ]
  refine wpAnyH_take (i := 1) (v := .agg ((arrI fun k => (cntP l k : Int)))) rfl (by kernel_rfl) (by kernel_rfl) (by kernel_rfl) (fun _ _ _ h => h) (yieldsIf_load_mid (by rfl) _ _ rfl _ _ rfl ((arrI fun k => (cntP l k : Int))).toList _ (fun w hw => hw) hu rfl hi) hr0 ?_
  simp only [Act.put, List.setIfInBounds_toArray, List.set_cons_zero, List.set_cons_succ]
  refine wpAnyH_ready (rs := [2]) (by kernel_rfl) (by simp) (AllReadyH.cons rfl (fun K2 hK2 => ?_) AllReadyH.nil)
  rw [if_pos (by rfl)]
  go_simp
  refine (firsts_any l _ hk).mono ?_
  rintro e w3 ⟨rfl, hS4⟩
  have hS5 := (hS.join hS3).drew.mono hS4.below
  refine hK2.out _ _ (St.rangeAt hS5 0 rfl) (fun hx0 => ?_)
  refine wpAnyH_ready (rs := [3]) (by kernel_rfl) (by simp) (AllReadyH.cons rfl (fun K3 hK3 => ?_) AllReadyH.nil)
  rw [if_pos (by rfl)]
  refine wp_build2 _ _ _ _ _ rfl _ _ rfl rfl _ (built_reader _ _) ?_
  refine hK3.out _ _ (St.rangeAt hS5 0 rfl) (fun hx1 => ?_)
  refine wpAnyH_ready (rs := [4]) (by kernel_rfl) (by simp) (AllReadyH.cons rfl (fun K4 hK4 => ?_) AllReadyH.nil)
  rw [if_pos (by rfl)]
  go_simp
  have hS6 := hS5.alloc (.cells (rdrI (fun k => (cntP l k : Int)) (fun k => (fstP l k : Int)) fun _ => .slice none 0 0) 147)
  refine hK4.out _ _ (St.rangeAt hS6 1 rfl) (fun hx2 => ?_)
  refine wpAnyH_ready (rs := [5]) (by kernel_rfl) (by simp) (AllReadyH.cons rfl (fun K5 hK5 => ?_) AllReadyH.nil)
  rw [if_pos (by rfl)]
  go_simp
  refine hK5.out _ _ (St.rangeAt hS6 1 rfl) (fun hx3 => ?_)
  refine wpAnyH_done (by kernel_rfl) ?_ _
  have hS7 : St B w0 _ (rdL c w3.heap.size (fun k => (cntP l k : Int)) (fun k => (fstP l k : Int)) (fun _ => .slice none 0 0) (fun _ => []) ([] :: F)) := (hS6.swap.tl.swap.nils 16)
  have hR0 : RowsTo l 0 (fun _ => .slice none 0 0) (fun _ => []) := fun k _ => by
    simp only [List.take_zero]
    exact RowC.nil _ _
  have HR := Lib.hid (And.intro hR0 hS7)
  clear hS1 hS2 hS3 hS4 hS5 hS6 hS7 hR0 hrg hr0 hS hu hi hz
  clear hx0 hx1 hx2 hx3
  generalize w3.heap.size = q at *
  generalize (World.alloc w3 _) = w4 at *
  have hvw := HV.out w4 c HR.out.2.outer
  go_wp2_with fail
  go_loopg [31] l.length (fun m s31 wr => ∃ i : Nat, i + m = l.length ∧ s31 = .int .i64 (i : Int) ∧ ∃ sl cl, Hid (RowsTo l i sl cl) ∧ St B w0 wr (rdL c q (fun k => (cntP l k : Int)) (fun k => (fstP l k : Int)) sl cl ([] :: F)))
  case atStart => exact ⟨0, by omega, rfl, _, _, Lib.hid HR.out.1, HR.out.2⟩
  case round =>
    clear HR hvw
    obtain ⟨i, hi, rfl, sl, cl, HR, hS⟩ := hrel
    cases gk with
    | zero =>
      obtain rfl : i = l.length := by omega
      clear hi
      go_wp2_with fail
      have HCR : Hid (∀ w' c' cu, St B w0 w' (rdL c' q (fun k => (cntP l k : Int)) (fun k => (fstP l k : Int)) sl cl (cu :: F)) → CrOk w' q l sl) := Lib.hid fun w' c' cu h => rdL_cr HR.out h
      go_loopg [15] (8 * bs.length + 1) (fun m s15 wr => ∃ out n c cu, Hid (RowC 3 1 s15 out.length (iv out) cu ∧ RdC p bs (at_ + n) c ∧ St B w0 wr (rdL c q (fun k => (cntP l k : Int)) (fun k => (fstP l k : Int)) sl cl (cu :: F)) ∧ readP l e most m out (at_ + n) ((bitsB bs).drop (at_ + n)) = readP l e most (8 * bs.length + 1) [] at_ ((bitsB bs).drop at_)) ∧ 8 * bs.length < m + (at_ + n) ∧ out.length ≤ n)
      case atStart => exact ⟨[], 0, c, [], Lib.hid ⟨RowC.nil _ _, HC.out, hS, by simp⟩, by omega, by simp⟩
      case round =>
        clear hS
        obtain ⟨out, n, c2, cu, HQ, hm, hon⟩ := hrel
        have hle : at_ + n ≤ 8 * bs.length := by
          obtain ⟨_, _, _, _, h⟩ := HQ.out.2.1
          exact h
        have hol : (out.length : Int) ≤ 8000000 := by omega
        have hr := HQ.out.1
        obtain ⟨ao5, cap5, rfl⟩ := hr.shape
        cases gk with
        | zero => omega
        | succ m =>
          by_cases q1 : most ≤ (out.length : Int)
          · have he := HQ.out.2.2.2
            rw [readP, if_pos q1] at he
            have HE := Lib.hid he
            clear he
            go_wp2_with fail
            go_ret2
            rw [← HE.out]
            exact ⟨_, [], rfl, RowC.nil _ _, c2, n, HQ.out.2.1, (rdL_out HQ.out.2.2.1).tl.one_nil, fun h => by cases h⟩
          · have he := HQ.out.2.2.2
            rw [readP, if_neg q1] at he
            have HE := Lib.hid he
            clear he
            go_wp2_with fail
            refine (symbol_any p q l sl bs (at_ + n) HQ.out.2.2.1 HQ.out.2.1 (by omega) hk hn (fun w' c' h => HCR.out w' c' cu h)).mono ?_
            rintro e w6 ⟨rfl, c3, n3, hc3, hS3, hn3⟩
            replace hS3 : St B w0 w6 (rdL c3 q (fun k => (cntP l k : Int)) (fun k => (fstP l k : Int)) sl cl (cu :: F)) := hS3
            have he := HE.out
            have hlen := symP_len l 15 0 0 ((bitsB bs).drop (at_ + n))
            cases hsy : symP l 15 0 0 ((bitsB bs).drop (at_ + n)) with
            | none =>
              rw [hsy] at he
              have HE2 := Lib.hid he
              have HC3 := Lib.hid (And.intro hc3 hS3)
              clear he HE hn3 hlen hsy hS3
              simp only [symInt]
              go_wp2_with fail
              go_ret2
              rw [← HE2.out]
              exact ⟨_, [], rfl, RowC.nil _ _, c3, n + n3, by rw [← Nat.add_assoc]; exact HC3.out.1, (rdL_out HC3.out.2).tl.one_nil, fun h => by cases h⟩
            | some sn =>
              obtain ⟨sy, ns⟩ := sn
              rw [hsy] at he
              obtain rfl := hn3 sy ns hsy
              obtain ⟨l1, l2, l3, l4⟩ := hlen sy ns hsy
              have HE2 := Lib.hid he
              have HC3 := Lib.hid hc3
              have hs0 : (0 : Int) ≤ (sy : Int) := by omega
              clear he HE hn3 hlen hsy hc3
              simp only [symInt]
              by_cases q2 : (sy : Int) = e
              · subst q2
                have he := HE2.out
                simp only [if_true] at he
                have HE3 := Lib.hid he
                clear he HE2
                go_wp2_with (at_builtin; (refine wpList_app1 18 80 i0 (.int .i64 0) _ _ _ rfl rfl rfl rfl Try.underlying80 i0a i0b i0c i0d rfl hS3 rfl hr rfl ?_ ?_ ?_); (unfold maxLen; omega); omega; intro v1 c1 w7 hr1 hS4)
                go_ret2
                rw [← HE3.out]
                refine ⟨_, c1, rfl, ?_, c3, n + ns, by rw [← Nat.add_assoc]; exact HC3.out, rdL_out hS4, fun _ => (Nat.add_assoc _ _ _).symm⟩
                simpa [iv] using hr1
              · have he := HE2.out
                simp only [if_neg q2] at he
                have HE3 := Lib.hid he
                clear he HE2
                go_wp2_with (at_builtin; (refine wpList_app1 18 80 i0 (.int .i64 0) _ _ _ rfl rfl rfl rfl Try.underlying80 i0a i0b i0c i0d rfl hS3 rfl hr rfl ?_ ?_ ?_); (unfold maxLen; omega); omega; intro v1 c1 w7 hr1 hS4)
                go_roundg m
                case measure => omega
                case rel =>
                  refine ⟨out ++ [(sy : Int)], n + ns, c3, c1, Lib.hid ⟨?_, by rw [← Nat.add_assoc]; exact HC3.out, hS4, ?_⟩, by omega, by simp; omega⟩
                  · simpa [iv] using hr1
                  · rw [← HE3.out, ← Nat.add_assoc, List.drop_drop]
    | succ m =>
      have hlt : i < l.length := by omega
      obtain ⟨k, hk⟩ : ∃ k, l[i]? = some k := ⟨_, List.getElem?_eq_getElem hlt⟩
      obtain ⟨ad, rfl, hcell⟩ := (HV.out wr c hS.outer).at (iv_get l i k hk)
      have hk0 := HALL.out k (List.mem_of_getElem? hk)
      obtain ⟨K, rfl⟩ := Int.eq_ofNat_of_zero_le hk0.1
      have hK : K < 16 := by omega
      have hr := HR.out K hK
      have hsl := symsP_length l K i (by omega)
      have hcn : (l.take i).count (K : Int) ≤ 300 := Nat.le_trans List.count_le_length (by rw [List.length_take]; omega)
      rw [← hsl] at hcn
      have hld := hS.cell 1 rfl (List.mem_singleton.2 rfl) (32 + K)
      rw [rdrI_s _ _ _ _ hK] at hld
      have hfr := hS.free 1 rfl (List.mem_singleton.2 rfl) (32 + K)
      have HK := Lib.hid hk
      clear hk hsl
      obtain ⟨aos, caps, hsv⟩ := hr.shape
      have HRow := Lib.hid hr
      rw [hsv] at hr hld
      have hSa := (hS.alloc (.cells #[.int .i64 (i : Int)] 3)).drew
      have hone : Rd (wr.alloc (.cells #[.int .i64 (i : Int)] 3)).drew 1 (.slice (some ⟨wr.heap.size, 0, none⟩) 1 1) 1 [.int .i64 (i : Int)] := (Rd.one wr _ _).drewN 1
      have hld2 := ((hS.alloc (.cells #[.int .i64 (i : Int)] 3)).cell 2 rfl (List.mem_singleton.2 rfl) (32 + K)).trans (rdrI_s (fun k => (cntP l k : Int)) (fun k => (fstP l k : Int)) sl K hK)
      rw [hsv] at hld2
      have HSV := Lib.hid hsv
      clear hsv
      have b1 : (0 : Int) ≤ (K : Int) := by omega
      have b2 : (K : Int) < 16 := by omega
      go_wp2_with fail
      have hrow := rdL_row c q (fun k => (cntP l k : Int)) (fun k => (fstP l k : Int)) sl cl ([] :: F) K hK
      rw [← List.getElem?_cons_succ (a := [(wr.heap.size, Obj.cells #[.int .i64 (i : Int)] 3 (0, 0))])] at hrow
      have h1c : ∀ u ∈ [Value.int .i64 (i : Int)], u.oneCell' = true := by
        intro u hu
        rw [List.mem_singleton.1 hu]
        rfl
      have h63 : (symsP (l.take i) K).length + 1 ≤ maxLen := by unfold maxLen; omega
      have hby : ((symsP (l.take i) K).length + 1) * 8 ≤ 140737488355328 := by omega
      go_region_law (refine step_app (n := (symsP (l.take i) K).length) (m := 1) (xs := iv (symsP (l.take i) K)) (news := [.int .i64 (i : Int)]) (K + 2 + 1) 80 i0 (.int .i64 0) _ _ rfl rfl rfl rfl Try.underlying80 i0a i0b i0c i0d rfl (by decide) hSa hrow hr hone h1c h63 hby (fun v1 c1 w2 hr1 hS2 => ?_); obtain ⟨ao1, cap1, hv1⟩ := hr1.shape; subst hv1; have k0 := (hS2.cell 2 rfl (List.mem_singleton.2 rfl) (32 + K)).trans (rdrI_s (fun k => (cntP l k : Int)) (fun k => (fstP l k : Int)) sl K hK); have f0 := hS2.free 2 rfl (List.mem_singleton.2 rfl) (32 + K))
      all_goals
        go_wp2_with fail
        go_roundg m
        (case measure => omega)
        (case rel => exact ⟨i + 1, by omega, by go_num, _, _, Lib.hid (RowsTo.step HR.out HK.out hr1), rdL_store hS2 hK _⟩)
end
end Go.Proofs.Ythgbkncanoknkaa
/-
  Contract of entropy.text.
-/
set_option linter.unusedVariables false
set_option linter.unusedSimpArgs false
namespace Go.Proofs.Ythgbkncanoknkaa
open Go.RowKit
set_option maxRecDepth 100000
def nibV (bs : List UInt8) (i : Nat) : Int := (valOf (((bitsB bs).drop (4 * i)).take 4) : Int)
/-- The lengths that stand ahead, four bits each. -/
def nibR (bs : List UInt8) : List Int := mkI (nibV bs) 258
theorem nibR_length (bs : List UInt8) : (nibR bs).length = 258 := mkI_length _ _
def txR (bs : List UInt8) (size : Nat) : Int × List Int × Nat := readP (nibR bs) 257 ((size : Int) + 1) (8 * bs.length + 1) [] 1032 ((bitsB bs).drop 1032)
def txD (bs : List UInt8) (size : Nat) : List UInt8 × Int := dec size (txR bs size).2.1 [] 1
/-- These bytes are a text's, with this size and place. -/
def TxGood (bs : List UInt8) (size at_ : Nat) : Prop := okLens (nibR bs) = true ∧ (txR bs size).1 = 0 ∧ (txD bs size).2 = 0 ∧ (txD bs size).1.length = size ∧ goodI (nb (mtfD mtf0 (txD bs size).1)) at_
def TextOut (bs : List UInt8) (size at_ : Nat) (w : World) (e : Ending) (w' : World) : Prop :=
  (TxGood bs size at_ ∧ ∃ v c out, e = .returned (.tuple #[v, .bool true]) ∧ RowC 5 1 v out.length (bv out) c ∧ nb out = invP (nb (mtfD mtf0 (txD bs size).1)) at_ ∧ St w.heap.size w w' [c]) ∨
  (¬ TxGood bs size at_ ∧ e = .returned (.tuple #[.slice none 0 0, .bool false]) ∧ St w.heap.size w w' [])
theorem readP_length (l : List Int) (e most : Int) : ∀ m out at_ bits, (readP l e most m out at_ bits).2.1.length ≤ out.length + m
  | 0, out, at_, bits => by simp [readP]
  | m + 1, out, at_, bits => by
    rw [readP]
    split
    · simp
    · split
      · simp
      · split
        · simp
        · refine Nat.le_trans (readP_length l e most m _ _ _) ?_
          simp
          omega
theorem infoIntN : (Try.prog.info? 3).map (fun i => (i.zero, i.size, i.bytes)) = some (some (.int .i64 0), 1, 8) := by kernel_rfl
def nibP (bs : List UInt8) (i : Nat) : List Int := mkI (fun j => if j < i then nibV bs j else 0) 258
theorem nibP_zero (bs : List UInt8) : nibP bs 0 = List.replicate 258 0 := by
  unfold nibP
  rw [mkI_congr _ (fun _ => 0) 258 (fun i _ => by simp)]
  exact mkI_const 0 258
theorem nibP_all (bs : List UInt8) : nibP bs 258 = nibR bs := mkI_congr _ _ _ (fun i hi => by rw [if_pos hi])
theorem nibP_step (bs : List UInt8) (i : Nat) : (nibP bs i).set i (nibV bs i) = nibP bs (i + 1) := by
  unfold nibP
  rw [mkI_set]
  refine mkI_congr _ _ _ (fun j _ => ?_)
  by_cases e : j = i
  · subst e; rw [if_pos rfl, if_pos (by omega)]
  · rw [if_neg e]
    by_cases q : j < i
    · rw [if_pos q, if_pos (by omega)]
    · rw [if_neg q, if_neg (by omega)]
theorem nibV_range (bs : List UInt8) (i : Nat) : ∃ V : Nat, nibV bs i = (V : Int) ∧ V < 16 := by
  refine ⟨_, rfl, ?_⟩
  have h1 := valOf_lt (((bitsB bs).drop (4 * i)).take 4)
  have h2 : (((bitsB bs).drop (4 * i)).take 4).length ≤ 4 := by rw [List.length_take]; omega
  have h3 : 2 ^ (((bitsB bs).drop (4 * i)).take 4).length ≤ 2 ^ 4 := Nat.pow_le_pow_right (by omega) h2
  omega
theorem readP_err (l : List Int) (e most : Int) : ∀ m out at_ bits, (readP l e most m out at_ bits).1 = 0 ∨ (readP l e most m out at_ bits).1 = 2 ∨ (readP l e most m out at_ bits).1 = 6
  | 0, out, at_, bits => by simp [readP]
  | m + 1, out, at_, bits => by
    rw [readP]
    split
    · simp
    · split
      · simp
      · split
        · simp
        · exact readP_err l e most m _ _ _
theorem dec_err (most : Nat) : ∀ l b wth, (dec most l b wth).2 = 0 ∨ (dec most l b wth).2 = 2 ∨ (dec most l b wth).2 = 6
  | [], b, wth => by simp [dec]
  | x :: l, b, wth => by
    rw [dec]
    split
    · simp
    · split
      · simp
      · split
        · split
          · simp
          · exact dec_err most l _ _
        · split
          · simp
          · exact dec_err most l _ _
set_option maxHeartbeats 800000 in
theorem text_any (v : Value) (bs : List UInt8) (size at_ : Nat) (w : World) (h : Rd w 1 v bs.length (bv bs)) (hn : bs.length ≤ 1000000) (hn2 : 129 ≤ bs.length) (hsz : size ≤ 1000000) (hat : at_ ≤ 1000000) :
    Calls Try.prog 75 #[v, .int .i64 (size : Int), .int .i64 (at_ : Int)] w (TextOut bs size at_ w) := by
  obtain ⟨i0, i0a, i0b, i0c, i0d⟩ := info_parts infoIntN
  obtain ⟨ao, cap, rfl⟩ := h.shape
  have H0 := Lib.hid h
  clear h
  go_enter Try.func75, Try.ntmps75
  go_wp2_with fail
  refine (bread_any _ bs H0.out (by omega)).mono ?_
  rintro e w1 ⟨p, c1, rfl, hr1, hS1⟩
  have H1 := Lib.hid hr1
  clear hr1
  go_wp2_with (at_make; (refine wpList_mk (n := 258) 80 i0 (.int .i64 0) _ _ rfl rfl _ _ _ _ rfl rfl Try.underlying80 i0a i0b i0c i0d rfl ?_ ?_ ?_ ?_ hS1 ?_); omega; omega; omega; (unfold maxLen; omega); intro g2 c2 w2 r2 s2)
  have HH := Lib.hid (And.intro r2 s2)
  clear r2 s2 hS1
  go_loopg [22] 258 (fun m s22 wr => ∃ i : Nat, i + m = 258 ∧ s22 = .int .i64 (i : Int) ∧ ∃ c1 c2, RowC 3 1 (.slice (some ⟨g2, 0, none⟩) 258 258) 258 (iv (nibP bs i)) c2 ∧ RdC p bs (4 * i) c1 ∧ St w.heap.size w wr [c1, c2])
  case atStart =>
    refine ⟨0, by omega, rfl, c1, c2, ?_, H1.out, HH.out.2.pick [1, 0] (by decide) _ rfl⟩
    rw [nibP_zero, iv_replicate]
    exact HH.out.1
  case round =>
    clear HH H1 c1 c2
    obtain ⟨i, hi, rfl, c1, c2, hr2, hc1, hS⟩ := hrel
    cases gk with
    | zero =>
      obtain rfl : i = 258 := by omega
      rw [nibP_all] at hr2
      have HA := Lib.hid (And.intro hr2 (And.intro hc1 hS))
      clear hr2 hc1 hS hi
      have hl := nibR_length bs
      by_cases q1 : okLens (nibR bs) = true
      · have HQ1 := Lib.hid q1
        clear q1
        go_wp2_with fail
        refine (read_any p (.slice (some ⟨g2, 0, none⟩) 258 258) (nibR bs) bs 1032 257 ((size : Int) + 1) HA.out.2.2 HA.out.2.1 (by rw [hl]; exact HA.out.1.rd HA.out.2.2 1 rfl) (by omega) hn HQ1.out (fun w' c' hS' => by rw [hl]; exact HA.out.1.rd hS' 1 rfl)).mono ?_
        rintro e w3 ⟨u3, c3, rfl, hr3, c4, n4, hc4, hS3, _⟩
        generalize hr : readP (nibR bs) 257 ((size : Int) + 1) (8 * bs.length + 1) [] 1032 ((bitsB bs).drop 1032) = r at *
        have HTR : Hid (txR bs size = r) := Lib.hid hr
        obtain ⟨ao3, cap3, rfl⟩ := hr3.shape
        have he := readP_err (nibR bs) 257 ((size : Int) + 1) (8 * bs.length + 1) [] 1032 ((bitsB bs).drop 1032)
        rw [hr] at he
        obtain ⟨r1, r2, r3⟩ := r
        have hrl : r2.length ≤ 8 * bs.length + 1 := by
          have := readP_length (nibR bs) 257 ((size : Int) + 1) (8 * bs.length + 1) [] 1032 ((bitsB bs).drop 1032)
          rw [hr] at this
          simpa using this
        have H3 := Lib.hid (And.intro hr3 hS3)
        clear hr3 hS3 hr hc4 HA
        have HE := Lib.hid he
        clear he
        by_cases q2 : r1 = 0
        · subst q2
          clear HE
          go_wp2_with fail
          have hrl1 : r2.length ≤ 1099511600000 := by omega
          refine (decode_any (.slice ao3 r2.length cap3) r2 (size : Int) _ (H3.out.1.rd H3.out.2 0 rfl) hrl1 (by omega)).mono ?_
          rintro e w4 ⟨u4, rfl, c4, hr4, hS4⟩
          rw [show ((size : Int)).toNat = size from rfl] at hr4 ⊢
          have hS4' := H3.out.2.join hS4
          obtain ⟨ao4, cap4, rfl⟩ := hr4.shape
          have hde := dec_err size r2 [] 1
          have HTD : Hid (txD bs size = dec size r2 [] 1) := Lib.hid (by unfold txD; rw [HTR.out])
          generalize hD : dec size r2 [] 1 = D at *
          obtain ⟨d1, d2⟩ := D
          have H4 := Lib.hid (And.intro hr4 hS4')
          clear hr4 hS4 hS4' hD
          have HDE := Lib.hid hde
          clear hde hrl hrl1
          dsimp only at H4 HDE ⊢
          by_cases q3 : d2 = 0
          · subst q3
            clear HDE
            by_cases q4 : d1.length = size
            · have HQ4 := Lib.hid q4
              have q4i : ((d1.length : Int) != (size : Int)) = false := by simpa [Int.natCast_inj] using q4
              clear q4
              go_wp2_with fail
              refine (mtfdec_any (.slice ao4 d1.length cap4) d1 _ (H4.out.1.rd H4.out.2 0 rfl) (by have := HQ4.out; omega)).mono ?_
              rintro e w5 ⟨u5, c5, rfl, hr5, hS5⟩
              have hml : (mtfD mtf0 d1).length = d1.length := mtfD_length _ _
              have hS5' := H4.out.2.join hS5
              clear hS5
              obtain ⟨ao5, cap5, rfl⟩ := hr5.shape
              generalize hM : mtfD mtf0 d1 = M at *
              have HM := Lib.hid hM
              have HML := Lib.hid hml
              have H5 := Lib.hid (And.intro hr5 hS5')
              clear hr5 hS5' hM hml
              go_wp2_with fail
              refine (back_any M (.slice ao5 M.length cap5) (at_ : Int) _ (by have := HML.out; have := HQ4.out; omega) (H5.out.1.rd H5.out.2 0 rfl)).mono ?_
              rintro e w6 (⟨hg, v6, c6, x, rfl, hr6, hx, hS6⟩ | ⟨hg, rfl, hS6⟩)
              · have H6 := Lib.hid (And.intro hg (And.intro hr6 (And.intro hx (H5.out.2.join hS6))))
                clear hg hr6 hx hS6
                go_wp2_with fail
                go_ret2
                exact .inl ⟨⟨HQ1.out, by rw [HTR.out], by rw [HTD.out], by rw [HTD.out]; exact HQ4.out, by rw [HTD.out]; dsimp only; rw [HM.out]; exact H6.out.1⟩, _, _, x, rfl, H6.out.2.1, by rw [HTD.out]; dsimp only; rw [HM.out]; exact H6.out.2.2.1, H6.out.2.2.2.pick [0] (by decide) _ rfl⟩
              · have H6 := Lib.hid (And.intro hg (H5.out.2.join hS6))
                clear hg hS6
                go_wp2_with fail
                go_ret2
                exact .inr ⟨fun h => H6.out.1 (by have := h.2.2.2.2; rw [HTD.out] at this; dsimp only at this; rw [HM.out] at this; exact this), rfl, H6.out.2.pick [] (by decide) [] rfl⟩
            · have HQ4 := Lib.hid q4
              have q4i : ((d1.length : Int) != (size : Int)) = true := by simpa [Int.natCast_inj] using q4
              clear q4
              go_wp2_with fail
              go_ret2
              exact .inr ⟨fun hg => HQ4.out (by have := hg.2.2.2.1; rw [HTD.out] at this; exact this), rfl, H4.out.2.pick [] (by decide) [] rfl⟩

          · have HQ3 := Lib.hid q3
            have he3 : d2 = 2 ∨ d2 = 6 := by
              rcases HDE.out with h | h | h
              · exact absurd h q3
              · exact .inl h
              · exact .inr h
            clear q3 HDE
            rcases he3 with rfl | rfl
            all_goals
              go_wp2_with fail
              go_ret2
              exact .inr ⟨fun hg => HQ3.out (by have := hg.2.2.1; rw [HTD.out] at this; exact this), rfl, H4.out.2.pick [] (by decide) [] rfl⟩
        · have HQ2 := Lib.hid q2
          have he2 : r1 = 2 ∨ r1 = 6 := by
            rcases HE.out with h | h | h
            · exact absurd h q2
            · exact .inl h
            · exact .inr h
          clear q2 HE
          rcases he2 with rfl | rfl
          all_goals
            go_wp2_with fail
            go_ret2
            exact .inr ⟨fun hg => HQ2.out (by have := hg.2.1; rw [HTR.out] at this; exact this), rfl, H3.out.2.pick [] (by decide) [] rfl⟩
      · have HQ1 := Lib.hid q1
        have q1f : okLens (nibR bs) = false := by simpa using q1
        clear q1
        go_wp2_with fail
        refine (read_bad (.slice (some ⟨g2, 0, none⟩) 258 258) _ (nibR bs) 257 ((size : Int) + 1) HA.out.2.2 (by rw [hl]; exact HA.out.1.rd HA.out.2.2 1 rfl) (by omega) q1f).mono ?_
        rintro e w3 ⟨rfl, hS3⟩
        have HS3 := Lib.hid hS3
        clear hS3 q1f
        go_wp2_with fail
        go_ret2
        exact .inr ⟨fun hg => HQ1.out hg.1, rfl, HS3.out.pick [] (by decide) [] rfl⟩
    | succ m =>
      obtain ⟨V, hV, hV16⟩ := nibV_range bs i
      have hV' : (valOf (((bitsB bs).drop (4 * i)).take 4) : Int) = (V : Int) := hV
      have HR := Lib.hid hr2
      have hf := hr2.freeAt hS 1 rfl i
      have hi2 : i < 258 := by omega
      clear hr2
      have HC := Lib.hid (And.intro hc1 hS)
      clear hc1 hS
      go_wp2_with fail
      refine (get_any p bs (4 * i) 4 HC.out.2 HC.out.1 (by omega) (by omega) (by omega) (by omega)).mono ?_
      rintro e w3 ⟨rfl, c3, hc3, hS3⟩
      rw [show (4 : Int).toNat = 4 from rfl, hV']
      rw [show (4 : Int).toNat = 4 from rfl] at hc3
      have hwV : IntKind.i64.wrap (V : Int) = (V : Int) := IntWalk.i64_in _ (by omega)
      have hold : (nibP bs i)[i]? = some (if i < i then nibV bs i else 0) := mkI_get _ _ _ hi2
      have hce := HR.out.cellAt hS3 1 rfl (iv_get _ _ _ hold)
      have hfr := HR.out.freeAt hS3 1 rfl i
      have HS3 := Lib.hid (And.intro hc3 hS3)
      clear hc3 hS3 hold
      go_wp2_with fail
      go_roundg m
      case measure => omega
      case rel =>
        obtain ⟨c', hr', hS'⟩ := HR.out.store HS3.out.2 1 rfl rfl i (.int .i64 (V : Int))
        rw [← hV, iv_set, nibP_step] at hr'
        rw [← hV]
        exact ⟨i + 1, by omega, by go_num, c3, c', hr', HS3.out.1, by rw [hV]; exact hS'⟩
end Go.Proofs.Ythgbkncanoknkaa
/-
  Contract of bytes.Equal.
-/
set_option linter.unusedVariables false
set_option linter.unusedSimpArgs false
namespace Go.Proofs.Ythgbkncanoknkaa
open Go.RowKit
set_option maxRecDepth 100000
set_option maxHeartbeats 800000 in
theorem byteseq_any (va vb : Value) (a b : List UInt8) (w : World) (na nb : Nat) (ha : Rd w 1 va na (bv a)) (hb : Rd w 1 vb nb (bv b)) :
    Calls Try.prog 76 #[va, vb] w fun e w' => w' = w ∧ e = .returned (.bool (a == b)) := by
  have hc1 := conv_str ha
  have hc2 := conv_str hb
  clear ha hb
  go_enter Try.func76, Try.ntmps76
  go_wp2_with fail
  go_ret
  exact ⟨rfl, rfl⟩
end Go.Proofs.Ythgbkncanoknkaa
/-
  Contract of entropy.Decode.
-/
set_option linter.unusedVariables false
set_option linter.unusedSimpArgs false
namespace Go.Proofs.Ythgbkncanoknkaa
open Go.RowKit
set_option maxRecDepth 100000
/-- What is read out of a text's code. -/
def DecR (b x : List UInt8) : Prop :=
  ∃ k, rdN b 1099511627776 = some (x.length, k) ∧ (x = [] ∨ x ≠ [] ∧ ∃ m k2, rdN (b.drop k) x.length = some (m, k2) ∧ 129 ≤ ((b.drop k).drop k2).length ∧
    TxGood ((b.drop k).drop k2) x.length m ∧ nb x = invP (nb (mtfD mtf0 (txD ((b.drop k).drop k2) x.length).1)) m)
def DecOut (b : List UInt8) (M : Nat) (w : World) (e : Ending) (w' : World) : Prop :=
  (∃ x v c, e = .returned (.tuple #[v, .int .i64 0]) ∧ RowC 5 1 v x.length (bv x) c ∧ EncR x b ∧ x.length ≤ M ∧ St w.heap.size w w' [c]) ∨
  (e = .returned (.tuple #[.slice none 0 0, .int .i64 6]) ∧ St w.heap.size w w' [] ∧ (∀ n k, rdN b 1099511627776 = some (n, k) → n ≤ M) ∧ ¬ ∃ x, x.length ≤ M ∧ EncR x b ∧ DecR b x ∧ ∀ eo, EncR x eo → eo = b) ∨
  (e = .returned (.tuple #[.slice none 0 0, .int .i64 2]) ∧ St w.heap.size w w' [] ∧ ∃ n k, rdN b 1099511627776 = some (n, k) ∧ M < n)
theorem nbE_inj {a b : List UInt8} (h : nb a = nb b) : a = b := (List.map_inj_right fun _ _ h => UInt8.toNat_inj.1 h).1 h
theorem rdN_le {b : List UInt8} {most n k : Nat} (h : rdN b most = some (n, k)) : n ≤ most := by
  unfold rdN at h
  split at h
  · cases h
  · injection h with h
    have h1 := congrArg Prod.fst h
    simp only at h1
    omega
theorem sizeLe {b : List UInt8} {n k M : Nat} (h : rdN b 1099511627776 = some (n, k)) (hq : ¬ M < n) : ∀ n' k', rdN b 1099511627776 = some (n', k') → n' ≤ M := fun n' k' h' => by
  rw [h] at h'
  injection h' with h'
  injection h' with h' _
  omega
theorem DecR.at {b x : List UInt8} {n k : Nat} (hk : rdN b 1099511627776 = some (n, k)) (hn : n ≠ 0) (h : DecR b x) : ∃ m k2, rdN (b.drop k) n = some (m, k2) ∧ 129 ≤ ((b.drop k).drop k2).length ∧
    TxGood ((b.drop k).drop k2) n m ∧ nb x = invP (nb (mtfD mtf0 (txD ((b.drop k).drop k2) n).1)) m := by
  obtain ⟨k', h1, h2⟩ := h
  rw [hk] at h1
  injection h1 with h1
  injection h1 with h1 h1'
  subst h1 h1'
  rcases h2 with rfl | ⟨_, h2⟩
  · exact absurd rfl hn
  · exact h2
section
attribute [local go_sem] max2_ints max_of_two
set_option maxHeartbeats 800000 in
theorem entdec_any (v : Value) (b : List UInt8) (most : Int) (w : World) (h : Rd w 1 v b.length (bv b)) (hn : b.length ≤ 1000000) (hm : most ≤ 100000) :
    Calls Try.prog 63 #[v, .int .i64 most] w (DecOut b most.toNat w) := by
  obtain ⟨ao, cap, rfl⟩ := h.shape
  have H0 := Lib.hid h
  obtain ⟨M, hM⟩ : ∃ M : Nat, M = most.toNat := ⟨_, rfl⟩
  have hmax : (if most < 0 then 0 else most) = (M : Int) := by split <;> omega
  have hM1 : M ≤ 100000 := by omega
  rw [← hM]
  have hS1 : St w.heap.size w (w.alloc (Obj.cells #[.slice ao b.length cap, .bool false] 61 (0, 0))) (rdrC w.heap.size (.slice ao b.length cap) false :: []) := (St.init w).alloc _
  have HS1 := Lib.hid hS1
  clear h hS1 hM
  go_enter Try.func63, Try.ntmps63
  go_wp2_with fail
  refine (rnum_any w.heap.size _ false b 1099511627776 (by decide) (fun h => by cases h) H0.out HS1.out hn).mono ?_
  rintro e w2 (⟨hnone, rfl, hS2⟩ | ⟨n, k, sv, hsome, rfl, hrd2, hS2⟩)
  · obtain ⟨d0, d1, _, _⟩ := rdr_cells hS2
    have HS2 := Lib.hid (And.intro hnone hS2)
    clear hnone hS2
    go_wp2_with fail
    go_ret2
    exact .inr (.inl ⟨rfl, HS2.out.2.pick [] (by decide) [] rfl, fun n k h => (by rw [HS2.out.1] at h; cases h), fun ⟨x, _, _, ⟨k, h, _⟩, _⟩ => by rw [HS2.out.1] at h; cases h⟩)
  · obtain ⟨d0, d1, _, _⟩ := rdr_cells hS2
    have HS2 := Lib.hid (And.intro hsome (And.intro hrd2 hS2))
    clear hsome hS2 hrd2
    by_cases qn : M < n
    · have qi : (M : Int) < (n : Int) := by omega
      have HQ := Lib.hid qn
      clear qn
      go_wp2_with fail
      go_ret2
      exact .inr (.inr ⟨rfl, HS2.out.2.2.pick [] (by decide) [] rfl, n, k, HS2.out.1, HQ.out⟩)
    · have qi : ¬ (M : Int) < (n : Int) := by omega
      have HQ := Lib.hid qn
      clear qn
      by_cases q0 : n = 0
      · subst q0
        go_wp2_with fail
        refine (entenc_any (.slice none 0 0) [] w2 (Rd.nil _ _) (by decide)).mono ?_
        rintro e w3 ⟨out, v3, c3, rfl, hr3, henc, hS3⟩
        have H3 := Lib.hid (And.intro hr3 (And.intro henc (HS2.out.2.2.join hS3)))
        clear hr3 henc hS3
        go_wp2_with fail
        refine (byteseq_any v3 (.slice ao b.length cap) out b w3 _ _ (H3.out.1.rd H3.out.2.2 0 rfl) (H0.out.st H3.out.2.2)).mono ?_
        rintro e w4 ⟨rfl, rfl⟩
        by_cases qe : out = b
        · have HE := Lib.hid qe
          have qb : (out == b) = true := by rw [qe]; exact beq_self_eq_true b
          clear qe
          go_wp2_with fail
          go_ret2
          exact .inl ⟨[], _, [], rfl, RowC.nil _ _, HE.out ▸ H3.out.2.1, Nat.zero_le _, H3.out.2.2.pick [] (by decide) [] rfl |>.one_nil⟩
        · have HE := Lib.hid qe
          have qb : (out == b) = false := by rw [beq_eq_false_iff_ne]; exact qe
          clear qe
          go_wp2_with fail
          go_ret2
          refine .inr (.inl ⟨rfl, H3.out.2.2.pick [] (by decide) [] rfl, sizeLe HS2.out.1 HQ.out, fun ⟨x, _, _, ⟨k', h1, h2⟩, h3⟩ => ?_⟩)
          rw [HS2.out.1] at h1
          obtain rfl : x = [] := List.eq_nil_of_length_eq_zero (by injection h1 with h1; injection h1 with h1 _; exact h1.symm)
          exact HE.out (h3 out H3.out.2.1)
      · have q0i : (0 : Int) < (n : Int) := by omega
        have HQ0 := Lib.hid q0
        clear q0
        have hn1 : n ≤ 100000 := by have := HQ.out; omega
        go_wp2_with fail
        clear d0 d1
        refine (rnum_any w.heap.size sv false (b.drop k) n (by omega) (fun h => by cases h) HS2.out.2.1 HS2.out.2.2 (by rw [List.length_drop]; omega)).mono ?_
        rintro e w3 (⟨hnone, rfl, hS3⟩ | ⟨m, k2, sv2, hsome, rfl, hrd3, hS3⟩)
        · obtain ⟨d0, d1, _, _⟩ := rdr_cells hS3
          have HS3 := Lib.hid (And.intro hnone hS3)
          clear hnone hS3
          go_wp2_with fail
          go_ret2
          refine .inr (.inl ⟨rfl, HS3.out.2.pick [] (by decide) [] rfl, sizeLe HS2.out.1 HQ.out, fun ⟨x, _, _, h2, _⟩ => ?_⟩)
          obtain ⟨m, k2, h3, _⟩ := DecR.at HS2.out.1 HQ0.out h2
          rw [HS3.out.1] at h3
          cases h3
        · obtain ⟨d0, d1, _, _⟩ := rdr_cells hS3
          have HS3 := Lib.hid (And.intro hsome (And.intro hrd3 hS3))
          have hm1 : m ≤ n := rdN_le hsome
          obtain ⟨ao3, cap3, rfl⟩ := hrd3.shape
          clear hsome hrd3 hS3
          obtain ⟨rs, HRS⟩ : ∃ rs, Hid (rs = (b.drop k).drop k2) := ⟨_, Lib.hid rfl⟩
          rw [← HRS.out] at HS3 d0
          by_cases ql : 129 ≤ rs.length
          · have qli : (129 : Int) ≤ (rs.length : Int) := by omega
            have HQL := Lib.hid ql
            clear ql
            have hrl : rs.length ≤ 1000000 := by rw [HRS.out, List.length_drop, List.length_drop]; omega
            go_wp2_with fail
            refine (text_any (.slice ao3 rs.length cap3) rs n m w3 (HS3.out.2.1.st HS3.out.2.2) hrl HQL.out (by omega) (by omega)).mono ?_
            rintro e w4 (⟨hg, v4, c4, x, rfl, hr4, hx, hS4⟩ | ⟨hg, rfl, hS4⟩)
            · have H4 := Lib.hid (And.intro hg (And.intro hr4 (And.intro hx (HS3.out.2.2.join hS4))))
              have hxl : x.length = n := by
                have e1 := congrArg List.length hx
                rw [nb_length, invP_length, nb_length, mtfD_length, hg.2.2.2.1] at e1
                exact e1
              obtain ⟨ao4, cap4, rfl⟩ := hr4.shape
              have hxn : x.length ≤ 100000 := by omega
              have HXL := Lib.hid hxl
              clear hg hr4 hx hS4 hxl
              go_wp2_with fail
              refine (entenc_any (.slice ao4 x.length cap4) x w4 (H4.out.2.1.rd H4.out.2.2.2 0 rfl) hxn).mono ?_
              rintro e w5 ⟨out, v5, c5, rfl, hr5, henc, hS5⟩
              have H5 := Lib.hid (And.intro hr5 (And.intro henc (H4.out.2.2.2.join hS5)))
              clear hr5 henc hS5
              go_wp2_with fail
              refine (byteseq_any v5 (.slice ao b.length cap) out b w5 _ _ (H5.out.1.rd H5.out.2.2 0 rfl) (H0.out.st H5.out.2.2)).mono ?_
              rintro e w6 ⟨rfl, rfl⟩
              by_cases qe : out = b
              · have HE := Lib.hid qe
                have qb : (out == b) = true := by rw [qe]; exact beq_self_eq_true b
                clear qe
                go_wp2_with fail
                go_ret2
                exact .inl ⟨x, _, c4, rfl, H4.out.2.1, HE.out ▸ H5.out.2.1, by have := HQ.out; have := HXL.out; omega, H5.out.2.2.pick [1] (by decide) _ rfl⟩
              · have HE := Lib.hid qe
                have qb : (out == b) = false := by rw [beq_eq_false_iff_ne]; exact qe
                clear qe
                go_wp2_with fail
                go_ret2
                refine .inr (.inl ⟨rfl, H5.out.2.2.pick [] (by decide) [] rfl, sizeLe HS2.out.1 HQ.out, fun ⟨y, _, _, h2, h3⟩ => ?_⟩)
                obtain ⟨m', k2', g1, g2, g3, g4⟩ := DecR.at HS2.out.1 HQ0.out h2
                rw [HS3.out.1] at g1
                injection g1 with g1
                injection g1 with g1 g1'
                subst g1 g1'
                rw [← HRS.out] at g4
                obtain rfl : y = x := nbE_inj (g4.trans H4.out.2.2.1.symm)
                exact HE.out (h3 out H5.out.2.1)
            · have H4 := Lib.hid (And.intro hg (HS3.out.2.2.join hS4))
              clear hg hS4
              go_wp2_with fail
              go_ret2
              refine .inr (.inl ⟨rfl, H4.out.2.pick [] (by decide) [] rfl, sizeLe HS2.out.1 HQ.out, fun ⟨y, _, _, h2, h3⟩ => ?_⟩)
              obtain ⟨m', k2', g1, g2, g3, g4⟩ := DecR.at HS2.out.1 HQ0.out h2
              rw [HS3.out.1] at g1
              injection g1 with g1
              injection g1 with g1 g1'
              subst g1 g1'
              rw [← HRS.out] at g3
              exact H4.out.1 g3
          · have qli : (rs.length : Int) < 129 := by omega
            have HQL := Lib.hid ql
            clear ql
            go_wp2_with fail
            go_ret2
            refine .inr (.inl ⟨rfl, HS3.out.2.2.pick [] (by decide) [] rfl, sizeLe HS2.out.1 HQ.out, fun ⟨x, _, _, h2, _⟩ => ?_⟩)
            obtain ⟨m', k2', g1, g2, g3, g4⟩ := DecR.at HS2.out.1 HQ0.out h2
            rw [HS3.out.1] at g1
            injection g1 with g1
            injection g1 with g1 g1'
            subst g1 g1'
            rw [← HRS.out] at g2
            exact HQL.out g2
end
end Go.Proofs.Ythgbkncanoknkaa
/-
  Codes, plain: what was written is read again.
-/
set_option linter.unusedVariables false
set_option linter.unusedSimpArgs false
namespace Go.Proofs.Ythgbkncanoknkaa
open Go.RowKit
set_option maxRecDepth 100000
/-! What was written is read again. -/
theorem symP_own (l : List Int) (s K : Nat) (h : l[s]? = some (K : Int)) (rest : List Bool) : ∀ d j m, j + (d + 1) = K → m + j = 15 → K ≤ 15 → symP l m j (codeP l s / 2 ^ (d + 1)) (bitsOf (codeP l s) (d + 1) ++ rest) = some (s, K)
  | d, j, m, hj, hm, hK => by
    obtain ⟨m, rfl⟩ : ∃ k, m = k + 1 := ⟨m - 1, by omega⟩
    rw [bitsOf_succ, List.cons_append, symP]
    have hv : 2 * (codeP l s / 2 ^ (d + 1)) + ((codeP l s).testBit d).toNat = codeP l s / 2 ^ d := by
      rw [Nat.pow_succ, ← Nat.div_div_eq_div_mul, Nat.testBit_eq_decide_div_mod_eq]
      generalize codeP l s / 2 ^ d = q
      have : q % 2 < 2 := Nat.mod_lt _ (by omega)
      by_cases h1 : q % 2 = 1
      · simp [h1]; omega
      · have : q % 2 = 0 := by omega
        simp [this]; omega
    rw [hv]
    cases d with
    | zero =>
      rw [Nat.pow_zero, Nat.div_one, show j + 1 = K from by omega, lookP_of l K _ s h rfl]
    | succ d =>
      have hnone : lookP l (j + 1) (codeP l s / 2 ^ (d + 1)) = none := by
        cases hl : lookP l (j + 1) (codeP l s / 2 ^ (d + 1)) with
        | none => rfl
        | some t =>
          exfalso
          have h1 := lookP_some _ _ _ _ hl
          have h2 := (codeP_far l t s (j + 1) K h1.1 h (by omega) (by omega)).1
          rw [h1.2, show K - (j + 1) = d + 1 from by omega] at h2
          omega
      rw [hnone]
      exact symP_own l s K h rest d (j + 1) m (by omega) (by omega) hK
theorem symP_bits (l : List Int) (s K : Nat) (h : l[s]? = some (K : Int)) (h1 : 1 ≤ K) (h2 : K ≤ 15) (hc : codeP l s < 2 ^ K) (rest : List Bool) : symP l 15 0 0 (bitsOf (codeP l s) K ++ rest) = some (s, K) := by
  obtain ⟨d, rfl⟩ : ∃ d, K = d + 1 := ⟨K - 1, by omega⟩
  have := symP_own l s (d + 1) h rest d 0 15 (by omega) (by omega) h2
  rwa [Nat.div_eq_of_lt hc] at this
/-- The place of a number among others, from one on; their number and one, if it is none of them. -/
def fi (e : Int) : List Int → Nat
  | [] => 1
  | x :: xs => if x = e then 1 else fi e xs + 1
theorem fi_pos (e : Int) (xs : List Int) : 1 ≤ fi e xs := by cases xs <;> simp [fi]; split <;> omega
theorem fi_spec (e : Int) : ∀ (xs : List Int) (k : Nat), (∀ j x, j < k → xs[j]? = some x → x ≠ e) → xs[k]? = some e → fi e xs = k + 1
  | [], k, _, h => by simp at h
  | x :: xs, 0, _, h => by simp at h; simp [fi, h]
  | x :: xs, k + 1, hn, h => by
    have h1 : x ≠ e := hn 0 x (by omega) rfl
    rw [fi, if_neg h1, fi_spec e xs k (fun j y hj hy => hn (j + 1) y (by omega) (by simpa using hy)) (by simpa using h)]
theorem read_back (l : List Int) (hk : kraftP l ≤ 32768) (hall : ∀ k ∈ l, 0 ≤ k ∧ k ≤ 15) (e most : Int) (pad : List Bool) : ∀ (xs : List Int) (m at_ : Nat) (out : List Int), xs.all (symOk l) = true → e ∈ xs → xs.length ≤ m →
    (readP l e most m out at_ (xs.flatMap (symBits l) ++ pad)).1 = (if most < ((out.length + fi e xs : Nat) : Int) then 2 else 0) ∧
    (readP l e most m out at_ (xs.flatMap (symBits l) ++ pad)).2.1 = (if most < ((out.length + fi e xs : Nat) : Int) then [] else out ++ xs.take (fi e xs))
  | [], m, at_, out, _, he, _ => by simp at he
  | x :: xs, m, at_, out, ho, he, hm => by
    obtain ⟨m, rfl⟩ : ∃ k, m = k + 1 := ⟨m - 1, by simp at hm; omega⟩
    rw [List.all_cons, Bool.and_eq_true] at ho
    obtain ⟨S, K, rfl, hS, hSK, hK0, hK15⟩ := symOk_at l hall x ho.1
    have hp := fi_pos e ((S : Int) :: xs)
    rw [readP]
    by_cases q : most ≤ (out.length : Int)
    · rw [if_pos q, if_pos (by omega), if_pos (by omega)]
      exact ⟨rfl, rfl⟩
    · rw [if_neg q, List.flatMap_cons, List.append_assoc]
      have hb : symBits l (S : Int) = bitsOf (codeP l S) K := by
        unfold symBits
        rw [Int.toNat_natCast, List.getD_eq_getElem?_getD, hSK]
        simp
      have hcl : codeP l S < 2 ^ K := Nat.lt_of_lt_of_le (codeP_range l S K hSK hK0).2 (endP_le l hk K hK15)
      rw [hb, symP_bits l S K hSK hK0 hK15 hcl]
      simp only
      by_cases q2 : (S : Int) = e
      · rw [if_pos q2, fi, if_pos q2, if_neg (by omega), if_neg (by omega)]
        exact ⟨rfl, by simp⟩
      · rw [if_neg q2]
        have hmem : e ∈ xs := by
          rcases List.mem_cons.1 he with h | h
          · exact absurd h.symm q2
          · exact h
        have ih := read_back l hk hall e most pad xs m (at_ + K) (out ++ [(S : Int)]) ho.2 hmem (by simp at hm; omega)
        have hd : (bitsOf (codeP l S) K ++ (xs.flatMap (symBits l) ++ pad)).drop K = xs.flatMap (symBits l) ++ pad := by
          rw [List.drop_append_of_le_length (by rw [bitsOf_length]; exact Nat.le_refl _), List.drop_of_length_le (by rw [bitsOf_length]; exact Nat.le_refl _), List.nil_append]
        rw [hd, ih.1, ih.2, fi, if_neg q2]
        have e1 : (out ++ [(S : Int)]).length + fi e xs = out.length + (fi e xs + 1) := by simp; omega
        rw [e1]
        refine ⟨rfl, ?_⟩
        congr 1
        simp
theorem symBits_pos (l : List Int) (hall : ∀ k ∈ l, 0 ≤ k ∧ k ≤ 15) : ∀ xs : List Int, xs.all (symOk l) = true → xs.length ≤ (xs.flatMap (symBits l)).length
  | [], _ => by simp
  | x :: xs, h => by
    rw [List.all_cons, Bool.and_eq_true] at h
    have ih := symBits_pos l hall xs h.2
    obtain ⟨S, K, rfl, hS, hSK, hK0, hK15⟩ := symOk_at l hall x h.1
    have hb : symBits l (S : Int) = bitsOf (codeP l S) K := by
      unfold symBits
      rw [Int.toNat_natCast, List.getD_eq_getElem?_getD, hSK]
      simp
    rw [List.flatMap_cons, List.length_append, hb, bitsOf_length, List.length_cons]
    omega
end Go.Proofs.Ythgbkncanoknkaa
/-
  entropy, plain: what Encode wrote is read again.
-/
set_option linter.unusedVariables false
set_option linter.unusedSimpArgs false
namespace Go.Proofs.Ythgbkncanoknkaa
open Go.RowKit
set_option maxRecDepth 100000
theorem updN_add {n x i : Nat} (h : n < 2 ^ (7 * i)) (hs : x % 128 * 2 ^ (7 * i) < 18446744073709551616) : updN n x i = n + x % 128 * 2 ^ (7 * i) := by
  unfold updN
  rw [Nat.mod_eq_of_lt hs, Nat.or_comm, Nat.mul_comm, ← Nat.two_pow_add_eq_or_of_lt h]
  omega
theorem toNat_small {q : Nat} (h : q < 256) : (UInt8.ofNat q).toNat = q := by
  rw [UInt8.toNat_ofNat']
  exact Nat.mod_eq_of_lt h
theorem getL_putF (r : List UInt8) : ∀ (f q i acc : Nat), f + i = 9 → acc < 2 ^ (7 * i) → acc + q * 2 ^ (7 * i) < 18446744073709551616 → (0 < i → q ≠ 0) →
    getL ((putF f q ++ r).take (10 - i)) i acc = (acc + q * 2 ^ (7 * i), i + (putF f q).length)
  | 0, q, i, acc, hi, ha, hN, hq => by
    obtain rfl : i = 9 := by omega
    have hq2 : q < 2 := by
      have e : (2 : Nat) ^ (7 * 9) = 9223372036854775808 := by decide
      rw [e] at hN
      omega
    have hq0 := hq (by omega)
    have hq1 : q = 1 := by omega
    subst hq1
    unfold putF
    rw [show 10 - 9 = 1 from rfl, List.singleton_append, List.take_succ_cons, List.take_zero, getL, toNat_small (by omega), if_neg (by omega), if_neg (by omega), updN_add ha (by decide)]
    rfl
  | f + 1, q, i, acc, hi, ha, hN, hq => by
    unfold putF
    split
    · rename_i h1
      have e10 : 10 - i = (10 - (i + 1)) + 1 := by omega
      have hp : (2 : Nat) ^ (7 * (i + 1)) = 128 * 2 ^ (7 * i) := by rw [show 7 * (i + 1) = 7 * i + 7 from by omega, Nat.pow_add]; omega
      have hm : (q % 128 + 128) % 128 = q % 128 := by omega
      have hq128 : q % 128 < 128 := Nat.mod_lt _ (by omega)
      have hdm : q = q / 128 * 128 + q % 128 := by omega
      generalize hP : (2 : Nat) ^ (7 * i) = P at *
      have hle : q % 128 * P ≤ q * P := Nat.mul_le_mul_right _ (Nat.mod_le _ _)
      have hlt : q % 128 * P + P ≤ 128 * P := by rw [← Nat.succ_mul]; exact Nat.mul_le_mul_right _ hq128
      have hsum : q * P = q / 128 * (128 * P) + q % 128 * P := by
        rw [← Nat.mul_assoc, ← Nat.add_mul, ← hdm]
      rw [List.cons_append, e10, List.take_succ_cons, getL, toNat_small (by omega), if_pos (by omega), updN_add (by rw [hP]; exact ha) (by rw [hm, hP]; omega), hm, hP]
      rw [getL_putF r f (q / 128) (i + 1) (acc + q % 128 * P) (by omega) (by rw [hp]; omega) (by rw [hp]; omega) (by intro; omega)]
      rw [hp, List.length_cons]
      congr 1
      · omega
      · omega
    · rename_i h1
      have e10 : 10 - i = (10 - (i + 1)) + 1 := by omega
      rw [List.singleton_append, e10, List.take_succ_cons, getL, toNat_small (by omega), if_neg (by omega), if_neg (by rintro (⟨h2, h3⟩ | ⟨h2, _⟩); exact hq h2 h3; omega), updN_add ha (by rw [Nat.mod_eq_of_lt (by omega)]; omega), Nat.mod_eq_of_lt (by omega)]
      rfl
theorem getN_putN (n : Nat) (r : List UInt8) (h : n < 18446744073709551616) : getN (putN n ++ r) = (n, (putN n).length) := by
  have := getL_putF r 9 n 0 0 rfl (by decide) (by simpa using h) (by intro h; omega)
  unfold getN putN
  rw [show 10 = 10 - 0 from rfl, this]
  simp
theorem putN_pos (n : Nat) : 0 < (putN n).length := by
  unfold putN putF
  split <;> simp
theorem rdN_putN (n most : Nat) (r : List UInt8) (h : n < 18446744073709551616) (hm : n ≤ most) : rdN (putN n ++ r) most = some (n, (putN n).length) := by
  unfold rdN
  rw [getN_putN n r h]
  have := putN_pos n
  rw [if_neg (by simp only; omega)]
theorem enc_end : ∀ (bs : List UInt8) (n : Nat), ∃ ys, enc bs n = ys ++ [257] ∧ ∀ y ∈ ys, y ≠ 257
  | [], n => ⟨runL n, rfl, fun y hy => by have := runL_range n y hy; omega⟩
  | b :: bs, n => by
    unfold enc
    split
    · exact enc_end bs (n + 1)
    · obtain ⟨ys, h1, h2⟩ := enc_end bs 0
      refine ⟨runL n ++ ((b.toNat : Int) + 1) :: ys, by rw [h1]; simp, fun y hy => ?_⟩
      rcases List.mem_append.1 hy with hy | hy
      · have := runL_range n y hy; omega
      · rcases List.mem_cons.1 hy with rfl | hy
        · have := b.toNat_lt; omega
        · exact h2 y hy
theorem dec_enc (most : Nat) : ∀ (bs : List UInt8) (n : Nat) (b : List UInt8), b.length + n + bs.length ≤ most → dec most (enc bs n) b 1 = (b ++ List.replicate n 0 ++ bs, 0)
  | [], n, b, h => by
    simp only [List.length_nil, Nat.add_zero] at h
    obtain ⟨w', h1, h2⟩ := dec_runL most [257] n b 1 (by omega) (by omega)
    rw [enc, h2, dec_end]
    simp
  | c :: bs, n, b, h => by
    rw [List.length_cons] at h
    unfold enc
    split
    · rename_i hc
      subst hc
      rw [dec_enc most bs (n + 1) b (by omega), List.replicate_succ']
      simp
    · rename_i hc
      have hc0 : 0 < c.toNat := by
        rcases Nat.eq_zero_or_pos c.toNat with h0 | h0
        · exact absurd (UInt8.toNat_inj.1 h0) hc
        · exact h0
      have hc1 := c.toNat_lt
      obtain ⟨w', h1, h2⟩ := dec_runL most (((c.toNat : Int) + 1) :: enc bs 0) n b 1 (by omega) (by omega)
      rw [h2, dec_byte (by omega) (by omega) (by rw [List.length_append, List.length_replicate]; omega)]
      rw [dec_enc most bs 0 _ (by simp; omega)]
      have e : (((c.toNat : Int) + 1) - 1).toNat = c.toNat := by omega
      rw [e]
      simp
end Go.Proofs.Ythgbkncanoknkaa
/-
  entropy, plain: a code's text is one, and Decode reads it.
-/
set_option linter.unusedVariables false
set_option linter.unusedSimpArgs false
namespace Go.Proofs.Ythgbkncanoknkaa
open Go.RowKit
set_option maxRecDepth 100000
theorem nibE_get (X : List Bool) : ∀ (ls : List Int) (i : Nat) (x : Int), ls[i]? = some x → 0 ≤ x → x < 16 → (valOf (((nibE ls ++ X).drop (4 * i)).take 4) : Int) = x
  | [], i, x, h, _, _ => by simp at h
  | y :: ls, 0, x, h, h0, h1 => by
    simp at h
    subst h
    have e : nibE (y :: ls) = bitsOf y.toNat 4 ++ nibE ls := rfl
    rw [e, List.append_assoc, Nat.mul_zero, List.drop_zero, List.take_append_of_le_length (by rw [bitsOf_length]; exact Nat.le_refl _), List.take_of_length_le (by rw [bitsOf_length]; exact Nat.le_refl _), valOf_bitsOf]
    omega
  | y :: ls, i + 1, x, h, h0, h1 => by
    have e : nibE (y :: ls) = bitsOf y.toNat 4 ++ nibE ls := rfl
    have ih := nibE_get X ls i x (by simpa using h) h0 h1
    rw [e, List.append_assoc, show 4 * (i + 1) = (bitsOf y.toNat 4).length + 4 * i from by rw [bitsOf_length]; omega, List.drop_append]
    rw [List.drop_of_length_le (by omega), List.nil_append, Nat.add_sub_cancel_left]
    exact ih
theorem mkI_of (f : Nat → Int) (ls : List Int) (n : Nat) (hl : ls.length = n) (h : ∀ i x, ls[i]? = some x → f i = x) : mkI f n = ls := by
  apply List.ext_getElem?
  intro i
  by_cases hi : i < n
  · rw [mkI_get f n i hi, List.getElem?_eq_getElem (by omega)]
    rw [h i _ (List.getElem?_eq_getElem (by omega))]
  · rw [List.getElem?_eq_none (by rw [mkI_length]; omega), List.getElem?_eq_none (by omega)]
theorem frE_pos {xs : List Int} {s : Nat} (hs : s < 258) (h : (s : Int) ∈ xs) : 0 < (fN (frE xs)).getD s 0 := by
  rw [fN_get (frE xs) s _ (mkI_get _ _ _ hs), Int.toNat_natCast]
  exact List.count_pos_iff.2 h
theorem lensE_get (xs : List Int) (s : Nat) (hs : s < 258) : (lensE xs)[s]? = some (lenP (fN (frE xs)) s : Int) := mkI_get _ _ _ hs
theorem lensE_sym (xs : List Int) (hx : ∀ x ∈ xs, 0 ≤ x ∧ x ≤ 257) : xs.all (symOk (lensE xs)) = true := by
  rw [List.all_eq_true]
  intro x hxm
  obtain ⟨S, rfl⟩ : ∃ S : Nat, x = (S : Int) := ⟨x.toNat, by have := hx x hxm; omega⟩
  have hS : S < 258 := by have := hx _ hxm; omega
  have hF : (fN (frE xs)).length ≤ 300 := by rw [fN_length, frE_length]; omega
  have hb := lenP_bounds hF (frE_pos hS hxm)
  unfold symOk
  rw [lensE_length, Int.toNat_natCast, List.getD_eq_getElem?_getD, lensE_get xs S hS, Option.getD_some]
  simp
  omega
theorem symE_range (L : List UInt8) : ∀ x ∈ symE L, 0 ≤ x ∧ x ≤ 257 := enc_range _ _
theorem symE_len (L : List UInt8) : (symE L).length ≤ L.length + 1 := by
  have := enc_le (mtfE mtf0 L) 0
  rw [mtfE_length] at this
  unfold symE
  omega
theorem fi_last (ys : List Int) (e : Int) (h : ∀ y ∈ ys, y ≠ e) : fi e (ys ++ [e]) = (ys ++ [e]).length := by
  rw [fi_spec e (ys ++ [e]) ys.length (fun j x hj hx => h x ?_) (by simp), List.length_append]
  · rfl
  · rw [List.getElem?_append_left hj] at hx
    exact List.mem_of_getElem? hx
theorem bitE_eq (L : List UInt8) : bitE L = nibE (lensE (symE L)) ++ (symE L).flatMap (symBits (lensE (symE L))) := by
  unfold bitE wrBits
  rw [if_pos (lensE_sym _ (symE_range L))]
section
variable {L cs : List UInt8} (hp : Packed (bitE L) cs) (hl : cs.length = ((bitE L).length + 7) / 8)
theorem bitE_len (L : List UInt8) : 1032 ≤ (bitE L).length := by
  rw [bitE_eq, List.length_append, nibE_length, lensE_length]
  omega
include hp in
theorem nibR_enc : nibR cs = lensE (symE L) := by
  refine mkI_of _ _ _ (lensE_length _) (fun i x hx => ?_)
  have hr := lensE_range (symE L) x (List.mem_of_getElem? hx)
  unfold nibV
  unfold Packed at hp
  rw [hp, bitE_eq, List.append_assoc]
  exact nibE_get _ _ i x hx hr.1 (by omega)
include hp hl in
theorem txR_enc (n : Nat) (hn : L.length ≤ n) : (txR cs n).1 = 0 ∧ (txR cs n).2.1 = symE L := by
  have hok := (okLens_iff _).1 (lensE_ok (symE L))
  obtain ⟨ys, h1, h2⟩ := enc_end (mtfE mtf0 L) 0
  have h1' : symE L = ys ++ [257] := h1
  have hfi : fi 257 (symE L) = (symE L).length := by rw [h1']; exact fi_last ys 257 h2
  have hsl := symE_len L
  have hpos := symBits_pos (lensE (symE L)) hok.2.2 (symE L) (lensE_sym _ (symE_range L))
  have hbl : (bitE L).length = 1032 + ((symE L).flatMap (symBits (lensE (symE L)))).length := by rw [bitE_eq, List.length_append, nibE_length, lensE_length]
  have hdrop : (bitsB cs).drop 1032 = (symE L).flatMap (symBits (lensE (symE L))) ++ List.replicate (8 * cs.length - (bitE L).length) false := by
    unfold Packed at hp
    rw [hp, bitE_eq, List.append_assoc, show 1032 = (nibE (lensE (symE L))).length from by rw [nibE_length, lensE_length], List.drop_left]
  have hrb := read_back (lensE (symE L)) hok.2.1 hok.2.2 257 ((n : Int) + 1) (List.replicate (8 * cs.length - (bitE L).length) false) (symE L) (8 * cs.length + 1) 1032 []
    (lensE_sym _ (symE_range L)) (by rw [h1']; simp) (by omega)
  unfold txR
  rw [nibR_enc hp, hdrop, hrb.1, hrb.2, hfi, List.length_nil, Nat.zero_add, if_neg (by omega), if_neg (by omega), List.take_length]
  exact ⟨rfl, rfl⟩
include hp hl in
theorem txD_enc (n : Nat) (hn : L.length ≤ n) : txD cs n = (mtfE mtf0 L, 0) := by
  unfold txD
  rw [(txR_enc hp hl n hn).2]
  unfold symE
  rw [dec_enc n (mtfE mtf0 L) 0 [] (by rw [mtfE_length]; simpa using hn)]
  simp
end
theorem EncGood {b : List UInt8} {T : List Nat} {L : List UInt8} (hT : IsSA (nb b) T) (hL : nb L = fwdN (nb b) (b.length :: T)) : goodI (nb L) ((atF b.length T : Nat) : Int) ∧ invP (nb L) (atF b.length T) = nb b := by
  have h1 := hT.one
  rw [nb_length] at h1
  rw [hL]
  exact ⟨⟨by omega, fwd_good h1⟩, fwd_back h1⟩
theorem EncR.dec {x b : List UInt8} (h : EncR x b) (hx : x.length ≤ 1000000) : DecR b x := by
  rcases h with ⟨rfl, rfl⟩ | ⟨hne, T, L, cs, hT, hL, hl, hp, rfl⟩
  · exact ⟨(putN 0).length, by have := rdN_putN 0 1099511627776 [] (by omega) (by omega); simpa using this, .inl rfl⟩
  · have hLl : L.length = x.length := by
      have e1 := congrArg List.length hL
      have h1 := hT.one
      rw [nb_length] at h1
      rw [nb_length, fwdN_length h1, nb_length] at e1
      exact e1
    have hat := atF_le x T hT hne
    have hg := EncGood hT hL
    refine ⟨(putN x.length).length, ?_, .inr ⟨hne, atF x.length T, (putN (atF x.length T)).length, ?_, ?_⟩⟩
    · rw [List.append_assoc]
      exact rdN_putN _ _ _ (by omega) (by omega)
    · rw [List.append_assoc, List.drop_left]
      exact rdN_putN _ _ _ (by omega) hat
    · rw [List.append_assoc, List.drop_left, List.drop_left]
      have hbl := bitE_len L
      refine ⟨by omega, ⟨?_, (txR_enc hp hl _ (by omega)).1, by rw [txD_enc hp hl _ (by omega)], by rw [txD_enc hp hl _ (by omega), mtfE_length]; exact hLl, ?_⟩, ?_⟩
      · rw [nibR_enc hp]
        exact lensE_ok _
      · rw [txD_enc hp hl _ (by omega)]
        dsimp only
        rw [mtf_back L mtf0 mtf0_full]
        exact hg.1
      · rw [txD_enc hp hl _ (by omega)]
        dsimp only
        rw [mtf_back L mtf0 mtf0_full]
        exact hg.2.symm
theorem EncR.one {x a b : List UInt8} (ha : EncR x a) (hb : EncR x b) : a = b := by
  rcases ha with ⟨hx, rfl⟩ | ⟨hne, T, L, cs, hT, hL, hl, hp, rfl⟩
  · rcases hb with ⟨_, rfl⟩ | ⟨hne, _⟩
    · rfl
    · exact absurd hx hne
  · rcases hb with ⟨hx, _⟩ | ⟨_, T', L', cs', hT', hL', hl', hp', rfl⟩
    · exact absurd hx hne
    · obtain rfl := hT.unique hT'
      obtain rfl : L = L' := nbE_inj (hL.trans hL'.symm)
      obtain rfl := packed_unique hp hp' (hl.trans hl'.symm)
      rfl
theorem DecR.one {b x y : List UInt8} (hx : DecR b x) (hy : DecR b y) : x = y := by
  obtain ⟨k, h1, h2⟩ := hx
  obtain ⟨k', h1', h2'⟩ := hy
  rw [h1] at h1'
  injection h1' with h1'
  injection h1' with e1 e2
  subst e2
  rcases h2 with rfl | ⟨hne, m, k2, h3, _, _, h4⟩
  · exact (List.eq_nil_of_length_eq_zero (by simpa using e1.symm)).symm
  · rcases h2' with rfl | ⟨_, m', k2', h3', _, _, h4'⟩
    · exact List.eq_nil_of_length_eq_zero (by simpa using e1)
    · rw [← e1, h3] at h3'
      injection h3' with h3'
      injection h3' with e3 e4
      subst e3 e4
      rw [← e1] at h4'
      exact nbE_inj (h4.trans h4'.symm)
/-- Two texts with one code are one text. -/
theorem EncR.text {x y b : List UInt8} (hx : EncR x b) (hy : EncR y b) (h1 : x.length ≤ 1000000) (h2 : y.length ≤ 1000000) : x = y := (hx.dec h1).one (hy.dec h2)
end Go.Proofs.Ythgbkncanoknkaa
/-
  entropy, plain: how long a code is.
-/
set_option linter.unusedVariables false
set_option linter.unusedSimpArgs false
namespace Go.Proofs.Ythgbkncanoknkaa
open Go.RowKit
set_option maxRecDepth 100000
theorem sumM_add {α : Type} (f g : α → Nat) : ∀ l : List α, (l.map fun s => f s + g s).sum = (l.map f).sum + (l.map g).sum
  | [] => rfl
  | x :: l => by simp only [List.map_cons, List.sum_cons, sumM_add f g l]; omega
theorem sumM_le {α : Type} (f : α → Nat) (c : Nat) : ∀ l : List α, (∀ s ∈ l, f s ≤ c) → (l.map f).sum ≤ l.length * c
  | [], _ => by simp
  | x :: l, h => by
    have := sumM_le f c l fun s hs => h s (List.mem_cons_of_mem _ hs)
    have h1 := h x List.mem_cons_self
    rw [List.map_cons, List.sum_cons, List.length_cons, Nat.succ_mul]
    omega
theorem sumM_one (g : Nat → Nat) (k : Nat) : ∀ n, k < n → ((List.range n).map fun s => (if s = k then 1 else 0) * g s).sum = g k
  | 0, h => by omega
  | n + 1, h => by
    rw [List.range_succ, List.map_append, List.sum_append]
    simp only [List.map_cons, List.map_nil, List.sum_cons, List.sum_nil, Nat.add_zero]
    by_cases q : k = n
    · subst q
      have : ((List.range k).map fun s => (if s = k then 1 else 0) * g s).sum ≤ (List.range k).length * 0 := sumM_le _ 0 _ fun s hs => by
        rw [List.mem_range] at hs
        rw [if_neg (by omega)]
        omega
      rw [if_pos rfl]
      omega
    · rw [sumM_one g k n (by omega), if_neg (by omega)]
      omega
theorem sumM_count (g : Nat → Nat) (N : Nat) : ∀ xs : List Int, (∀ x ∈ xs, 0 ≤ x ∧ x < (N : Int)) → ((List.range N).map fun s : Nat => xs.count (s : Int) * g s).sum = (xs.map fun x => g x.toNat).sum
  | [], _ => by
    have := sumM_le (fun s : Nat => ([] : List Int).count (s : Int) * g s) 0 (List.range N) fun s _ => by simp
    simp only [List.map_nil, List.sum_nil]
    omega
  | x :: xs, h => by
    have ih := sumM_count g N xs fun y hy => h y (List.mem_cons_of_mem _ hy)
    have hx := h x List.mem_cons_self
    obtain ⟨k, rfl⟩ : ∃ k : Nat, x = (k : Int) := ⟨x.toNat, by omega⟩
    have e1 := sumM_one g k N (by omega)
    have e2 := sumM_add (fun s : Nat => xs.count (s : Int) * g s) (fun s => (if s = k then 1 else 0) * g s) (List.range N)
    rw [List.map_cons, List.sum_cons, Int.toNat_natCast, ← ih, Nat.add_comm, ← e1, ← e2]
    refine congrArg List.sum (List.map_congr_left fun s _ => ?_)
    rw [List.count_cons, ← Nat.add_mul]
    congr 2
    by_cases q : s = k
    · subst q; simp
    · rw [if_neg q, if_neg (by simp; omega)]
theorem symBits_sum (l : List Int) : ∀ xs : List Int, (xs.flatMap (symBits l)).length = (xs.map fun x => (l.getD x.toNat 0).toNat).sum
  | [] => rfl
  | x :: xs => by
    rw [List.flatMap_cons, List.length_append, symBits_sum l xs, List.map_cons, List.sum_cons]
    unfold symBits
    rw [bitsOf_length]
theorem frE_count (xs : List Int) (s : Nat) (hs : s < 258) : (fN (frE xs)).getD s 0 = xs.count (s : Int) := by
  rw [fN_get (frE xs) s _ (mkI_get _ _ _ hs), Int.toNat_natCast]
theorem costP_sum (xs : List Int) (hx : ∀ x ∈ xs, 0 ≤ x ∧ x ≤ 257) (g : Nat → Nat) : costP (fN (frE xs)) g = (xs.map fun x => g x.toNat).sum := by
  rw [← sumM_count g 258 xs (fun x h => by have := hx x h; omega)]
  unfold costP
  rw [fN_length, frE_length]
  refine congrArg List.sum (List.map_congr_left fun s hs => ?_)
  rw [frE_count xs s (List.mem_range.1 hs)]
/-- No more than nine bits a symbol. -/
theorem bits_nine (xs : List Int) (hx : ∀ x ∈ xs, 0 ≤ x ∧ x ≤ 257) : (xs.flatMap (symBits (lensE xs))).length ≤ 9 * xs.length := by
  have hF : (fN (frE xs)).length ≤ 300 := by rw [fN_length, frE_length]; omega
  have e1 : (xs.flatMap (symBits (lensE xs))).length = (xs.map fun x => lenP (fN (frE xs)) x.toNat).sum := by
    rw [symBits_sum]
    refine congrArg List.sum (List.map_congr_left fun x hxm => ?_)
    have := hx x hxm
    rw [List.getD_eq_getElem?_getD, lensE_get xs x.toNat (by omega), Option.getD_some, Int.toNat_natCast]
  rw [e1, Nat.mul_comm]
  by_cases q : 2 ≤ (srt (fN (frE xs))).length
  · have h1 := lenP_least hF q (fun _ => 9) (fun _ _ => by omega) (by
      refine Nat.le_trans (sumM_le _ 64 _ fun s _ => by split <;> omega) ?_
      rw [List.length_range, fN_length, frE_length]
      omega)
    rw [costP_sum xs hx, costP_sum xs hx] at h1
    refine Nat.le_trans h1 (sumM_le _ 9 _ fun _ _ => Nat.le_refl _)
  · refine sumM_le _ 9 _ fun x _ => ?_
    unfold lenP
    rw [if_pos (by omega)]
    split <;> omega
theorem EncR.size {x b : List UInt8} (h : EncR x b) (hx : x.length ≤ 100000) : b.length ≤ x.length + x.length / 8 + 400 := by
  rcases h with ⟨rfl, rfl⟩ | ⟨hne, T, L, cs, hT, hL, hl, hp, rfl⟩
  · have := putN_le 0
    omega
  · have hLl : L.length = x.length := by
      have e1 := congrArg List.length hL
      have h1 := hT.one
      rw [nb_length] at h1
      rw [nb_length, fwdN_length h1, nb_length] at e1
      exact e1
    have h1 := putN_le x.length
    have h2 := putN_le (atF x.length T)
    have h3 := bits_nine _ (symE_range L)
    have h4 := symE_len L
    rw [bitE_eq, List.length_append, nibE_length, lensE_length] at hl
    rw [List.length_append, List.length_append]
    omega
theorem enc_equal (c : UInt8) (n : Nat) : (symE (List.replicate (n + 1) c)).length ≤ (runL (n + 1)).length + (runL n).length + 2 := by
  obtain ⟨h1, h2, _⟩ := mtf0_full.idx c
  have e : mtfE mtf0 (List.replicate (n + 1) c) = UInt8.ofNat (mtf0.idxOf c) :: List.replicate n 0 := by
    rw [List.replicate_succ]
    show UInt8.ofNat (mtf0.idxOf c) :: mtfE (frontL mtf0 (mtf0.idxOf c)) (List.replicate n c) = _
    have e2 : frontL mtf0 (mtf0.idxOf c) = c :: (mtf0.take (mtf0.idxOf c) ++ mtf0.drop (mtf0.idxOf c + 1)) := by
      unfold frontL
      rw [List.getD_eq_getElem?_getD, h2]
      rfl
    rw [e2, mtf_equal]
  unfold symE
  rw [e, enc]
  split
  · rw [enc_zeros, List.length_append, Nat.zero_add, Nat.add_comm 1 n]
    simp only [List.length_cons, List.length_nil]
    first | done | omega
  · rw [enc_zeros, runL_zero]
    simp only [List.nil_append, List.length_cons, List.length_append, List.length_nil, Nat.zero_add]
    omega
theorem runL_short {n : Nat} (h : n ≤ 3000) : (runL n).length ≤ 11 := by
  have h1 := (runL_length n).1
  rcases Nat.lt_or_ge (runL n).length 12 with q | q
  · omega
  · have := Nat.pow_le_pow_right (n := 2) (by omega) q
    omega
theorem EncR.equal {c : UInt8} {n : Nat} {b : List UInt8} (h : EncR (List.replicate n c) b) (hn : n ≤ 3000) : b.length ≤ 300 := by
  rcases h with ⟨_, rfl⟩ | ⟨hne, T, L, cs, hT, hL, hl, hp, rfl⟩
  · have := putN_le 0
    omega
  · have hLe : L = List.replicate n c := by
      have h1 := hT.one
      rw [nb_length] at h1
      have h2 := fwdN_perm h1
      rw [← hL] at h2
      have e : nb (List.replicate n c) = List.replicate n c.toNat := by unfold nb; rw [List.map_replicate]
      rw [e, List.perm_replicate] at h2
      exact nbE_inj (h2.trans e.symm)
    subst hLe
    cases n with
    | zero => exact absurd rfl hne
    | succ n =>
      have h1 := putN_le (List.replicate (n + 1) c).length
      have h2 := putN_le (atF (List.replicate (n + 1) c).length T)
      have h3 := symsBits_le (lensE (symE (List.replicate (n + 1) c))) (lensE_range _) (symE (List.replicate (n + 1) c))
      have h4 := enc_equal c n
      have h5 := runL_short hn
      have h6 := runL_short (n := n) (by omega)
      rw [bitE_eq, List.length_append, nibE_length, lensE_length] at hl
      rw [List.length_append, List.length_append]
      omega
end Go.Proofs.Ythgbkncanoknkaa
/-
  Contracts of container.block, container.open.
-/
set_option linter.unusedVariables false
set_option linter.unusedSimpArgs false
namespace Go.Proofs.Ythgbkncanoknkaa
open Go.RowKit
set_option maxRecDepth 100000
/-- What a block is packed as, its kind ahead. -/
def blkX (b e : List UInt8) : List UInt8 := if b.length < e.length + 1 then 0 :: b else 1 :: e
def BlkR (b y : List UInt8) : Prop := ∃ e, EncR b e ∧ y = fourB (crcP (blkX b e)) ++ blkX b e
def BlkOut (b : List UInt8) (w : World) (e : Ending) (w' : World) : Prop := ∃ y v c, e = .returned v ∧ RowC 5 1 v y.length (bv y) c ∧ BlkR b y ∧ St w.heap.size w w' [c]
theorem row_one (g : Nat) (x : UInt8) (y : Int) (hy : (x.toNat : Int) = y) : RowC 5 1 (.slice (some ⟨g, 0, none⟩) 1 1) 1 (bv [x]) [(g, .cells #[.int .u8 y] 5 (0, 0))] := by
  subst hy
  exact RowC.fresh g _ rfl (Nat.le_refl 1) (by decide) rfl rfl
set_option maxHeartbeats 2000000 in
theorem block_any (v : Value) (b : List UInt8) (w : World) (h : Rd w 1 v b.length (bv b)) (hn : b.length ≤ 100000) :
    Calls Try.prog 40 #[v] w (BlkOut b w) := by
  obtain ⟨i0, i0a, i0b, i0c, i0d⟩ := info_parts infoU8
  obtain ⟨ao, cap, rfl⟩ := h.shape
  have H0 := Lib.hid h
  have hS0 := (St.init w).alloc (.cells #[.int .u8 1] 5 (0, 0))
  have hr0 := row_one w.heap.size 1 1 rfl
  have hrd0 := h.keep (Below.alloc (Below.refl w.heap.size w) (Nat.le_refl _) (.cells #[.int .u8 1] 5 (0, 0)))
  clear h
  go_enter Try.func40, Try.ntmps40
  go_wp2_with fail
  refine (entenc_any (.slice ao b.length cap) b _ hrd0 hn).mono ?_
  rintro e w2 ⟨eb, v2, c2, rfl, hr2, he, hS2⟩
  have hel := he.size hn
  have hS2' := hS0.join hS2
  have hrd2 := hr2.rd hS2' 0 rfl
  obtain ⟨ao2, cap2, rfl⟩ := hr2.shape
  have HE := Lib.hid he
  clear hS0 hrd0 he hS2 hr2
  by_cases q : b.length < eb.length + 1
  case' pos =>
    have qi : (b.length : Int) < 1 + (eb.length : Int) := by omega
    have HX : Hid (blkX b eb = 0 :: b) := Lib.hid (by unfold blkX; rw [if_pos q])
    clear q
    go_wp2_with (first | ((at_builtin; (refine wpList_app 0 29 i0 (.int .u8 0) _ _ rfl rfl rfl rfl Try.underlying29 i0a i0b i0c i0d rfl (by decide) hS4 rfl hr4 hrd4 (bv_one _) ?_ ?_ ?_); (unfold maxLen; omega); omega; intro v5 c5 w5 hr5 hS5); (obtain ⟨ao5, cap5, rfl⟩ := hr5.shape); rw [← bv_append] at hr5; replace hS5 := hS5.pick [0] (by decide) [c5] rfl; clear hS4 hr4 hrd4) | ((at_builtin; (refine wpList_app 1 29 i0 (.int .u8 0) _ _ rfl rfl rfl rfl Try.underlying29 i0a i0b i0c i0d rfl (by decide) hS2' rfl hr0 hrd2 (bv_one _) ?_ ?_ ?_); (unfold maxLen; omega); omega; intro v3 c3 w3 hr3 hS3); (obtain ⟨ao3, cap3, rfl⟩ := hr3.shape); rw [← bv_append] at hr3; replace hS3 := hS3.pick [1] (by decide) [c3] rfl; clear hS2' hr0 hrd2; have hS4 := (hS3.pick [] (by decide) [] rfl).alloc (.cells #[.int .u8 0] 5 (0, 0)); have hr4 := row_one w3.heap.size 0 0 rfl; have hrd4 := H0.out.st hS4))
    have hxl : (0 :: b).length = 1 + b.length := by simp; omega
    have hx1 : (0 :: b).length ≤ 1000000 := by rw [hxl]; omega
    obtain ⟨x, HXX⟩ : ∃ x, Hid (x = 0 :: b) := ⟨_, Lib.hid rfl⟩
    have hr5' : RowC 5 1 (.slice ao5 (1 + b.length) cap5) x.length (bv x) c5 := by rw [HXX.out, hxl]; exact hr5
    rw [← HXX.out] at HX hxl hx1
    rw [← hxl] at hr5' ⊢
    have H5 := Lib.hid (And.intro hr5' hS5)
    have HB := Lib.hid (show blkX b eb = x from HX.out)
    clear hr5 hr5' hS5 hr3 hS3 hxl
    obtain ⟨w6, HW6⟩ : ∃ w6, Hid (w6 = w5) := ⟨_, Lib.hid rfl⟩
    rw [← HW6.out] at H5 ⊢
    clear HW6
  case' neg =>
    have qi : ¬ (b.length : Int) < 1 + (eb.length : Int) := by omega
    have HX : Hid (blkX b eb = 1 :: eb) := Lib.hid (by unfold blkX; rw [if_neg q])
    clear q
    go_wp2_with ((at_builtin; (refine wpList_app 1 29 i0 (.int .u8 0) _ _ rfl rfl rfl rfl Try.underlying29 i0a i0b i0c i0d rfl (by decide) hS2' rfl hr0 hrd2 (bv_one _) ?_ ?_ ?_); (unfold maxLen; omega); omega; intro v3 c3 w3 hr3 hS3); (obtain ⟨ao3, cap3, rfl⟩ := hr3.shape); rw [← bv_append] at hr3; replace hS3 := hS3.pick [1] (by decide) [c3] rfl; clear hS2' hr0 hrd2)
    have hxl : (1 :: eb).length = 1 + eb.length := by simp; omega
    have hx1 : (1 :: eb).length ≤ 1000000 := by rw [hxl]; omega
    obtain ⟨x, HXX⟩ : ∃ x, Hid (x = 1 :: eb) := ⟨_, Lib.hid rfl⟩
    have hr5' : RowC 5 1 (.slice ao3 (1 + eb.length) cap3) x.length (bv x) c3 := by rw [HXX.out, hxl]; exact hr3
    rw [← HXX.out] at HX hxl hx1
    rw [← hxl] at hr5' ⊢
    have H5 := Lib.hid (And.intro hr5' hS3)
    have HB := Lib.hid (show blkX b eb = x from HX.out)
    clear hr5' hr3 hS3 hxl
    obtain ⟨w6, HW6⟩ : ∃ w6, Hid (w6 = w3) := ⟨_, Lib.hid rfl⟩
    rw [← HW6.out] at H5 ⊢
    clear HW6
  all_goals
    clear HX HXX
    refine (crcsum_any _ x w6 (H5.out.1.rd H5.out.2 0 rfl) hx1).mono ?_
    rintro e w7 ⟨rfl, rfl⟩
    go_wp2_with fail
    refine (four_any (crcP x) w6 (crcP_lt _)).mono ?_
    rintro e w7 ⟨v7, c7, rfl, hr7, hS7⟩
    have hS8 := H5.out.2.join hS7
    have hrd8 := H5.out.1.rd hS8 1 rfl
    obtain ⟨ao7, cap7, rfl⟩ := hr7.shape
    clear hS7
    go_wp2_with ((at_builtin; (refine wpList_app 0 29 i0 (.int .u8 0) _ _ rfl rfl rfl rfl Try.underlying29 i0a i0b i0c i0d rfl (by decide) hS8 rfl hr7 hrd8 (bv_one _) ?_ ?_ ?_); (unfold maxLen; omega); omega; intro v9 c9 w9 hr9 hS9))
    go_ret
    rw [← bv_append] at hr9
    have el : (fourB (crcP x) ++ x).length = 4 + x.length := by rw [List.length_append, fourB_length]
    exact ⟨fourB (crcP x) ++ x, _, c9, rfl, by rw [el]; exact hr9, ⟨eb, HE.out, by rw [HB.out]⟩, hS9.pick [0] (by decide) _ rfl⟩
/-- What is unpacked out of a block. -/
def OpnR (b x : List UInt8) : Prop := 5 ≤ b.length ∧ getB b = crcP (b.drop 4) ∧ (b[4]? = some 0 ∧ x = b.drop 5 ∨ b[4]? = some 1 ∧ EncR x (b.drop 5))
def OpenOut (b : List UInt8) (size : Nat) (w : World) (e : Ending) (w' : World) : Prop :=
  (∃ x v c, e = .returned (.tuple #[v, .bool true]) ∧ RowC 5 1 v x.length (bv x) c ∧ x.length = size ∧ OpnR b x ∧ St w.heap.size w w' [c]) ∨
  (∃ v, e = .returned (.tuple #[v, .bool false]) ∧ St w.heap.size w w' [] ∧ ¬ ∃ x, x.length = size ∧ OpnR b x)
theorem DecOut.simple {b : List UInt8} {M : Nat} {w w' : World} {e : Ending} (hM : M ≤ 1000000) (h : DecOut b M w e w') :
    (∃ x v c, e = .returned (.tuple #[v, .int .i64 0]) ∧ RowC 5 1 v x.length (bv x) c ∧ EncR x b ∧ x.length ≤ M ∧ St w.heap.size w w' [c]) ∨
    (∃ er : Nat, (er = 2 ∨ er = 6) ∧ e = .returned (.tuple #[.slice none 0 0, .int .i64 (er : Int)]) ∧ St w.heap.size w w' [] ∧ ¬ ∃ x, x.length ≤ M ∧ EncR x b) := by
  rcases h with h | ⟨rfl, hS, _, hn⟩ | ⟨rfl, hS, n, k, h1, h2⟩
  · exact .inl h
  · exact .inr ⟨6, .inr rfl, rfl, hS, fun ⟨x, hx, he⟩ => hn ⟨x, hx, he, he.dec (by omega), fun eo h => h.one he⟩⟩
  · refine .inr ⟨2, .inl rfl, rfl, hS, fun ⟨x, hx, he⟩ => ?_⟩
    obtain ⟨k', h3, _⟩ := he.dec (by omega)
    rw [h1] at h3
    injection h3 with h3
    injection h3 with h3 _
    omega
set_option maxHeartbeats 2000000 in
theorem open_any (v : Value) (b : List UInt8) (size : Nat) (w : World) (h : Rd w 1 v b.length (bv b)) (hn : b.length ≤ 1000000) (hsz : size ≤ 100000) :
    Calls Try.prog 52 #[v, .int .i64 (size : Int)] w (OpenOut b size w) := by
  obtain ⟨ao, cap, rfl⟩ := h.shape
  have H0 := Lib.hid h
  by_cases q5 : b.length < 5
  · have q5i : (b.length : Int) < 5 := by omega
    have HQ := Lib.hid q5
    clear h q5
    go_enter Try.func52, Try.ntmps52
    go_wp2_with fail
    go_quiet (fail)
    go_wp2_with fail
    go_ret2
    exact .inr ⟨_, rfl, (St.init w).drewN _, fun ⟨x, _, hx, _⟩ => by have := HQ.out; omega⟩
  have q5i : ¬ (b.length : Int) < 5 := by omega
  have q5d : decide ((b.length : Int) < 5) = false := by simpa using q5i
  have hcap := h.cap
  have hcapi : (b.length : Int) ≤ (cap : Int) := by omega
  obtain ⟨ad, rfl⟩ : ∃ ad, ao = some ad := by
    cases ao with
    | none => have := h.none_iff; omega
    | some ad => exact ⟨ad, rfl⟩
  have r4 : Rd w 1 (.slice (some ⟨ad.block, ad.off + 4, none⟩) (b.length - 4) (cap - 4)) (b.length - 4) (bv (b.drop 4)) := by
    have := h.drop (ao' := some ⟨ad.block, ad.off + 4, none⟩) 4 (by omega) (fun _ => rfl) (fun e => by omega)
    rwa [← bv_drop] at this
  obtain ⟨aox, hx⟩ : ∃ aox, (¬ cap = 5 → aox = some ⟨ad.block, ad.off + 5, none⟩) ∧ (cap = 5 → aox = some ad) := by
    by_cases e : cap = 5
    · exact ⟨_, fun h => absurd e h, fun _ => rfl⟩
    · exact ⟨_, fun _ => rfl, fun h => absurd h e⟩
  have rx : Rd w 1 (.slice aox (b.length - 5) (cap - 5)) (b.length - 5) (bv (b.drop 5)) := by
    have h1 := h.drop (ao' := aox) 5 (by omega) (fun e => by rw [hx.1 e]; rfl) (fun e => hx.2 e)
    rwa [← bv_drop] at h1
  obtain ⟨y, hy⟩ : ∃ y, b[4]? = some y := ⟨_, List.getElem?_eq_getElem (by omega)⟩
  obtain ⟨_, e1, k4⟩ := h.at (bv_get b 4 y hy)
  cases e1
  replace k4 : w.cell? ⟨ad.block, ad.off + 4, none⟩ = _ := k4
  have HA : Hid (∀ k, Calls Try.prog 41 #[.slice (some ad) b.length cap] (w.drewN k) fun e w' => e = .returned (.int .u32 (getB b : Int)) ∧ ∃ m, w' = w.drewN m) :=
    Lib.hid fun k => quiet_drew (getfour_n _ _ _ _ (h.drewN k) (by omega))
  have HB : Hid (∀ k, Calls Try.prog 39 #[.slice (some ⟨ad.block, ad.off + 4, none⟩) (b.length - 4) (cap - 4)] (w.drewN k) fun e w' => e = .returned (.int .u32 (crcP (b.drop 4) : Int)) ∧ ∃ m, w' = w.drewN m) :=
    Lib.hid fun k => quiet_same (crcsum_n _ _ _ _ (r4.drewN k) (by omega))
  have HRX := Lib.hid rx
  have HX := Lib.hid hx
  have HD : Hid (∀ x, OpnR b x → getB b = crcP (b.drop 4) ∧ (y = 0 ∧ x = b.drop 5 ∨ y = 1 ∧ EncR x (b.drop 5))) := Lib.hid (fun x hx => by
    obtain ⟨_, h1, h2⟩ := hx
    rw [hy] at h2
    exact ⟨h1, h2.imp (fun h => ⟨Option.some.inj h.1, h.2⟩) (fun h => ⟨Option.some.inj h.1, h.2⟩)⟩)
  have HO : Hid (∀ x, getB b = crcP (b.drop 4) → (y = 0 ∧ x = b.drop 5 ∨ y = 1 ∧ EncR x (b.drop 5)) → OpnR b x) := Lib.hid (fun x h1 h2 => ⟨by omega, h1, by
    rw [hy]
    exact h2.imp (fun h => ⟨by rw [h.1], h.2⟩) (fun h => ⟨by rw [h.1], h.2⟩)⟩)
  clear h r4 rx hx hy q5
  generalize hg : getB b = G at *
  generalize hc : crcP (b.drop 4) = C at *
  clear hg hc
  by_cases q1 : G = C
  · subst q1
    have hq1 : ((G : Int) != (G : Int)) = false := by simp
    go_enter Try.func52, Try.ntmps52
    go_wp2_with fail
    go_quiet (first | (go_at_call 41; exact HA.out _) | (go_at_call 39; exact HB.out _))
    generalize hwq : w.drewN nq = wq
    have k4q : wq.cell? ⟨ad.block, ad.off + 4, none⟩ = some (.int .u8 (y.toNat : Int)) := by rw [← hwq, World.cell?_drewN]; exact k4
    have HSQ : Hid (St w.heap.size w wq []) := Lib.hid (hwq ▸ (St.init w).drewN nq)
    have HRQ : Hid (Rd wq 1 (.slice aox (b.length - 5) (cap - 5)) (b.length - 5) (bv (b.drop 5))) := Lib.hid (hwq ▸ HRX.out.drewN nq)
    clear k4 hwq HA HB HRX
    have hyl := y.toNat_lt
    have hd5 : (b.drop 5).length = b.length - 5 := List.length_drop
    by_cases qc : cap = 5
    case' pos =>
      obtain rfl := HX.out.2 qc
      subst qc
      have e0 : b.length - 5 = 0 := by omega
      rw [e0] at HRQ hd5
      replace HRQ : Hid (Rd wq 1 (.slice (some ad) 0 0) 0 (bv (b.drop 5))) := HRQ
      have HL := Lib.hid hd5
    case' neg =>
      obtain rfl := HX.out.1 qc
      have HL := Lib.hid hd5
    all_goals
      by_cases y0 : y = 0
      · subst y0
        go_wp2_with fail
        refine (clone_any _ _ (b.drop 5) wq HRQ.out (by omega)).mono ?_
        rintro e w2 ⟨v2, c2, rfl, hr2, hS2⟩
        obtain ⟨ao2, cap2, rfl⟩ := hr2.shape
        have H2 := Lib.hid (And.intro hr2 (HSQ.out.join hS2))
        clear hr2 hS2
        clear hd5
        by_cases qs : (b.drop 5).length = size
        · have qsi : (((b.drop 5).length : Int) == (size : Int)) = true := by rw [beq_iff_eq]; omega
          rw [HL.out] at qsi
          try (replace qsi : ((0 : Int) == (size : Int)) = _ := qsi)
          have HQ := Lib.hid qs
          clear qs
          go_wp2_with fail
          go_ret2
          exact .inl ⟨b.drop 5, _, c2, rfl, by rw [HL.out]; exact H2.out.1, HQ.out, HO.out _ (by first | trivial | rfl) (.inl ⟨by first | trivial | rfl, rfl⟩), H2.out.2.pick [0] (by decide) _ rfl⟩
        · have qsi : (((b.drop 5).length : Int) == (size : Int)) = false := by rw [beq_eq_false_iff_ne]; omega
          rw [HL.out] at qsi
          try (replace qsi : ((0 : Int) == (size : Int)) = _ := qsi)
          have HQ := Lib.hid qs
          clear qs
          go_wp2_with fail
          go_ret2
          refine .inr ⟨_, rfl, H2.out.2.pick [] (by decide) [] rfl, fun ⟨x, hx, hx2⟩ => ?_⟩
          rcases (HD.out x hx2).2 with ⟨_, h⟩ | ⟨h, _⟩
          · rw [h] at hx
            exact HQ.out hx
          · cases h
      · have hy0 : ((y.toNat : Int) == 0) = false := by
          rw [beq_eq_false_iff_ne]
          intro e
          exact y0 (UInt8.toNat_inj.1 (show y.toNat = (0 : UInt8).toNat from by have : (0 : UInt8).toNat = 0 := rfl; omega))
        by_cases y1 : y = 1
        · subst y1
          go_wp2_with fail
          refine (entdec_any _ (b.drop 5) (size : Int) wq (by rw [hd5]; exact HRQ.out) (by omega) (by omega)).mono ?_
          intro e w2 hdec
          rcases hdec.simple (by rw [Int.toNat_natCast]; omega) with ⟨x, v2, c2, rfl, hr2, he, hl, hS2⟩ | ⟨er, her, rfl, hS2, hno⟩
          · obtain ⟨ao2, cap2, rfl⟩ := hr2.shape
            have H2 := Lib.hid (And.intro hr2 (And.intro he (HSQ.out.join hS2)))
            have HXB : Hid (x.length ≤ 100000) := Lib.hid (by rw [Int.toNat_natCast] at hl; omega)
            clear hr2 he hl hS2 hdec
            by_cases qs : x.length = size
            · have qsi : ((x.length : Int) == (size : Int)) = true := by rw [beq_iff_eq]; omega
              have HQ := Lib.hid qs
              clear qs
              go_wp2_with fail
              go_ret2
              exact .inl ⟨x, _, c2, rfl, H2.out.1, HQ.out, HO.out _ (by first | trivial | rfl) (.inr ⟨by first | trivial | rfl, H2.out.2.1⟩), H2.out.2.2.pick [0] (by decide) _ rfl⟩
            · have qsi : ((x.length : Int) == (size : Int)) = false := by rw [beq_eq_false_iff_ne]; omega
              have HQ := Lib.hid qs
              clear qs
              go_wp2_with fail
              go_ret2
              refine .inr ⟨_, rfl, H2.out.2.2.pick [] (by decide) [] rfl, fun ⟨z, hz, hz2⟩ => ?_⟩
              rcases (HD.out z hz2).2 with ⟨h, _⟩ | ⟨_, h⟩
              · cases h
              · exact HQ.out (by rw [EncR.text H2.out.2.1 h (by have := HXB.out; omega) (by omega)]; exact hz)
          · have H2 := Lib.hid (And.intro hno (HSQ.out.join hS2))
            rw [Int.toNat_natCast] at H2
            clear hno hS2 hdec
            rcases her with rfl | rfl
            all_goals
              go_wp2_with fail
              go_ret2
              refine .inr ⟨_, rfl, H2.out.2.pick [] (by decide) [] rfl, fun ⟨z, hz, hz2⟩ => ?_⟩
              rcases (HD.out z hz2).2 with ⟨h, _⟩ | ⟨_, h⟩
              · cases h
              · exact H2.out.1 ⟨z, by omega, h⟩
        · have hy1 : ((y.toNat : Int) == 1) = false := by
            rw [beq_eq_false_iff_ne]
            intro e
            exact y1 (UInt8.toNat_inj.1 (show y.toNat = (1 : UInt8).toNat from by have : (1 : UInt8).toNat = 1 := rfl; omega))
          have HY := Lib.hid (And.intro y0 y1)
          clear y0 y1
          go_wp2_with fail
          go_ret2
          refine .inr ⟨_, rfl, HSQ.out, fun ⟨x, _, hx⟩ => ?_⟩
          rcases (HD.out x hx).2 with ⟨h, _⟩ | ⟨h, _⟩
          · exact HY.out.1 h
          · exact HY.out.2 h
  · have hq1 : ((G : Int) != (C : Int)) = true := by rw [bne_iff_ne]; omega
    have HQ := Lib.hid q1
    clear q1
    go_enter Try.func52, Try.ntmps52
    go_wp2_with fail
    go_quiet (first | (go_at_call 41; exact HA.out _) | (go_at_call 39; exact HB.out _))
    go_wp2_with fail
    go_ret2
    exact .inr ⟨_, rfl, (St.init w).drewN _, fun ⟨x, _, hx⟩ => HQ.out (HD.out x hx).1⟩
end Go.Proofs.Ythgbkncanoknkaa

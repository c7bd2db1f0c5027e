/-
  The walk of CodesWrite.
-/
import Derived.Test.YtdgpbgdpdmikaaaCodesBegun
import Derived.Test.YtdgpbgdpdmikaaaCodesRef
import Derived.Test.YtdgpbgdpdmikaaaRefBits
import Derived.Test.YtdgpbgdpdmikaaaBytesStr
set_option linter.unusedVariables false
set_option linter.unusedSimpArgs false
namespace Go.Proofs.Ytdgpbgdpdmikaaa
open Go.RowKit
set_option maxRecDepth 100000
/-! What was written is read again. -/
theorem symP_own (l : List Int) (s K : Nat) (h : l[s]? = some (K : Int)) (rest : List Bool) : ∀ d j m, j + (d + 1) = K → m + j = 15 → K ≤ 15 → symP l m j (codeP l s / 2 ^ (d + 1)) (bitsOf (codeP l s) (d + 1) ++ rest) = some (s, K)
  | d, j, m, hj, hm, hK => by
    obtain ⟨m, rfl⟩ : ∃ k, m = k + 1 := ⟨m - 1, by omega⟩
    rw [bitsOf_succ, List.cons_append, symP]
    have hv : 2 * (codeP l s / 2 ^ (d + 1)) + ((codeP l s).testBit d).toNat = codeP l s / 2 ^ d := by
      rw [Nat.pow_succ, ← Nat.div_div_eq_div_mul, Nat.testBit_eq_decide_div_mod_eq]
      generalize codeP l s / 2 ^ d = q
      have : q % 2 < 2 := Nat.mod_lt _ (by omega)
      by_cases h1 : q % 2 = 1
      · simp [h1]; omega
      · have : q % 2 = 0 := by omega
        simp [this]; omega
    rw [hv]
    cases d with
    | zero =>
      rw [Nat.pow_zero, Nat.div_one, show j + 1 = K from by omega, lookP_of l K _ s h rfl]
    | succ d =>
      have hnone : lookP l (j + 1) (codeP l s / 2 ^ (d + 1)) = none := by
        cases hl : lookP l (j + 1) (codeP l s / 2 ^ (d + 1)) with
        | none => rfl
        | some t =>
          exfalso
          have h1 := lookP_some _ _ _ _ hl
          have h2 := (codeP_far l t s (j + 1) K h1.1 h (by omega) (by omega)).1
          rw [h1.2, show K - (j + 1) = d + 1 from by omega] at h2
          omega
      rw [hnone]
      exact symP_own l s K h rest d (j + 1) m (by omega) (by omega) hK
theorem symP_bits (l : List Int) (s K : Nat) (h : l[s]? = some (K : Int)) (h1 : 1 ≤ K) (h2 : K ≤ 15) (hc : codeP l s < 2 ^ K) (rest : List Bool) : symP l 15 0 0 (bitsOf (codeP l s) K ++ rest) = some (s, K) := by
  obtain ⟨d, rfl⟩ : ∃ d, K = d + 1 := ⟨K - 1, by omega⟩
  have := symP_own l s (d + 1) h rest d 0 15 (by omega) (by omega) h2
  rwa [Nat.div_eq_of_lt hc] at this
/-- The place of a number among others, from one on; their number and one, if it is none of them. -/
def fi (e : Int) : List Int → Nat
  | [] => 1
  | x :: xs => if x = e then 1 else fi e xs + 1
theorem fi_pos (e : Int) (xs : List Int) : 1 ≤ fi e xs := by cases xs <;> simp [fi]; split <;> omega
theorem fi_spec (e : Int) : ∀ (xs : List Int) (k : Nat), (∀ j x, j < k → xs[j]? = some x → x ≠ e) → xs[k]? = some e → fi e xs = k + 1
  | [], k, _, h => by simp at h
  | x :: xs, 0, _, h => by simp at h; simp [fi, h]
  | x :: xs, k + 1, hn, h => by
    have h1 : x ≠ e := hn 0 x (by omega) rfl
    rw [fi, if_neg h1, fi_spec e xs k (fun j y hj hy => hn (j + 1) y (by omega) (by simpa using hy)) (by simpa using h)]
theorem read_back (l : List Int) (hk : kraftP l ≤ 32768) (hall : ∀ k ∈ l, 0 ≤ k ∧ k ≤ 15) (e most : Int) (pad : List Bool) : ∀ (xs : List Int) (m at_ : Nat) (out : List Int), xs.all (symOk l) = true → e ∈ xs → xs.length ≤ m →
    (readP l e most m out at_ (xs.flatMap (symBits l) ++ pad)).1 = (if most < ((out.length + fi e xs : Nat) : Int) then 2 else 0) ∧
    (readP l e most m out at_ (xs.flatMap (symBits l) ++ pad)).2.1 = (if most < ((out.length + fi e xs : Nat) : Int) then [] else out ++ xs.take (fi e xs))
  | [], m, at_, out, _, he, _ => by simp at he
  | x :: xs, m, at_, out, ho, he, hm => by
    obtain ⟨m, rfl⟩ : ∃ k, m = k + 1 := ⟨m - 1, by simp at hm; omega⟩
    rw [List.all_cons, Bool.and_eq_true] at ho
    obtain ⟨S, K, rfl, hS, hSK, hK0, hK15⟩ := symOk_at l hall x ho.1
    have hp := fi_pos e ((S : Int) :: xs)
    rw [readP]
    by_cases q : most ≤ (out.length : Int)
    · rw [if_pos q, if_pos (by omega), if_pos (by omega)]
      exact ⟨rfl, rfl⟩
    · rw [if_neg q, List.flatMap_cons, List.append_assoc]
      have hb : symBits l (S : Int) = bitsOf (codeP l S) K := by
        unfold symBits
        rw [Int.toNat_natCast, List.getD_eq_getElem?_getD, hSK]
        simp
      have hcl : codeP l S < 2 ^ K := Nat.lt_of_lt_of_le (codeP_range l S K hSK hK0).2 (endP_le l hk K hK15)
      rw [hb, symP_bits l S K hSK hK0 hK15 hcl]
      simp only
      by_cases q2 : (S : Int) = e
      · rw [if_pos q2, fi, if_pos q2, if_neg (by omega), if_neg (by omega)]
        exact ⟨rfl, by simp⟩
      · rw [if_neg q2]
        have hmem : e ∈ xs := by
          rcases List.mem_cons.1 he with h | h
          · exact absurd h.symm q2
          · exact h
        have ih := read_back l hk hall e most pad xs m (at_ + K) (out ++ [(S : Int)]) ho.2 hmem (by simp at hm; omega)
        have hd : (bitsOf (codeP l S) K ++ (xs.flatMap (symBits l) ++ pad)).drop K = xs.flatMap (symBits l) ++ pad := by
          rw [List.drop_append_of_le_length (by rw [bitsOf_length]; exact Nat.le_refl _), List.drop_of_length_le (by rw [bitsOf_length]; exact Nat.le_refl _), List.nil_append]
        rw [hd, ih.1, ih.2, fi, if_neg q2]
        have e1 : (out ++ [(S : Int)]).length + fi e xs = out.length + (fi e xs + 1) := by simp; omega
        rw [e1]
        refine ⟨rfl, ?_⟩
        congr 1
        simp
theorem symBits_pos (l : List Int) (hall : ∀ k ∈ l, 0 ≤ k ∧ k ≤ 15) : ∀ xs : List Int, xs.all (symOk l) = true → xs.length ≤ (xs.flatMap (symBits l)).length
  | [], _ => by simp
  | x :: xs, h => by
    rw [List.all_cons, Bool.and_eq_true] at h
    have ih := symBits_pos l hall xs h.2
    obtain ⟨S, K, rfl, hS, hSK, hK0, hK15⟩ := symOk_at l hall x h.1
    have hb : symBits l (S : Int) = bitsOf (codeP l S) K := by
      unfold symBits
      rw [Int.toNat_natCast, List.getD_eq_getElem?_getD, hSK]
      simp
    rw [List.flatMap_cons, List.length_append, hb, bitsOf_length, List.length_cons]
    omega
set_option maxHeartbeats 8000000 in
theorem CodesWrite_walk (w : World) (v : Value) (n : Nat) (zs : List Int) (rd : Rd w 1 v n (zs.map (Value.int .i64))) (_wf : ∀ z ∈ zs, (Lit.int .i64 z).wf = true) (sz : n * 8 ≤ 140737488351232)
    (v1 : Value) (n1 : Nat) (ys : List Int) (rd1 : Rd w 1 v1 n1 (ys.map (Value.int .i64))) (_wf1 : ∀ z ∈ ys, (Lit.int .i64 z).wf = true) (sz1 : n1 * 8 ≤ 140737488351232)
    (most : Int) (wf2 : (Lit.int .i64 most).wf = true) :
    Calls Try.prog 4 #[v, v1, .int .i64 most] w fun e w' => e = .returned (.bool true) ∧ Below w.heap.size w w' := by
  obtain ⟨i0, i0a, i0b, i0c, i0d⟩ := info_parts infoBool
  have hlen := rd.len
  simp only [List.length_map, Nat.mul_one] at hlen
  subst hlen
  have hlen1 := rd1.len
  simp only [List.length_map, Nat.mul_one] at hlen1
  subst hlen1
  replace rd : Rd w 1 v zs.length (iv zs) := rd
  replace rd1 : Rd w 1 v1 ys.length (iv ys) := rd1
  obtain ⟨ao1, cap1, rfl⟩ := rd1.shape
  have hsm1 := rd1.small
  have hcp1 := rd1.cap.1
  have hcp2 := rd1.cap.2
  clear sz _wf sz1 _wf1 wf2
  go_enter Try.func4, Try.ntmps4
  go_wp2_with fail
  refine (begun7 _).mono ?_
  rintro e w1 ⟨rfl, hb⟩
  have hS := (St.init w).mono hb
  clear hb
  go_wp2_with fail
  refine (cut7_gen _ zs w1 (rd.keep hS.below)).mono ?_
  rintro e w2 ⟨v2, rfl, h, rfl⟩
  replace h := h w rd
  have hll : (zs.take 302).length ≤ 302 := by rw [List.length_take]; omega
  generalize zs.take 302 = l at *
  obtain ⟨ao, cap, rfl⟩ := h.shape
  clear rd
  go_upto_if 26 with (fail)
  go_cut [1] (fun s1 wc => w1 = wc ∧ ∃ xs : List Int, Rd w 1 s1 xs.length (iv xs) ∧ xs.length ≤ 60)
  case first =>
    by_cases q : 60 < ys.length
    · have q' : (60 : Int) < ys.length := by omega
      have hcap : ao1 ≠ none := by
        rintro rfl
        have := rd1.none_iff
        omega
      obtain ⟨ad, rfl⟩ : ∃ ad, ao1 = some ad := by cases ao1 with | none => exact absurd rfl hcap | some ad => exact ⟨ad, rfl⟩
      clear hcap
      go_wp2_with fail
      go_meet
      case rel =>
        refine ⟨rfl, ys.take 60, ?_, by simp; omega⟩
        have := rd1.take 60 (by omega)
        rw [Nat.mul_one] at this
        rw [show (ys.take 60).length = 60 from by simp; omega]
        simpa [iv] using this
    · have q' : ¬ (60 : Int) < ys.length := by omega
      go_wp2_with fail
      go_meet
      case rel => exact ⟨rfl, ys, rd1, by omega⟩
  case rest =>
    obtain ⟨rfl, xs, hx, hx60⟩ := hcut
    clear rd1 hsm1 hcp1 hcp2
    obtain ⟨aox, capx, rfl⟩ := hx.shape
    have hxc := hx.cap
    replace hS := hS.alloc (Obj.cells #[.slice none 0 0, .int .i64 0] 39)
    have hc := wr_new w1.heap.size
    go_wp2_with fail
    refine (put_any w1.heap.size [] 1 1 hS hc (by omega) (by omega) (by omega) (by omega) (by simp)).mono ?_
    rintro e w2 ⟨rfl, c2, hc2, hS2⟩
    rw [show [] ++ bitsOf (1 : Int).toNat (1 : Int).toNat = [true] from by decide] at hc2
    clear hS hc
    generalize w1.heap.size = p at *
    cases hok : okLens l with
    | false =>
      go_wp2_with fail
      refine (write_bad p [true] _ _ l hS2 (h.st hS2) (by omega) hok).mono ?_
      rintro e w3 ⟨rfl, hS3⟩
      go_wp2_with fail
      refine (refcodes_bad _ l w3 (h.st hS3) (by omega) hok).mono ?_
      rintro e w4 ⟨rfl, rfl⟩
      go_wp2_with fail
      refine (wlen_any p [true] hS3 hc2).mono ?_
      rintro e w4 ⟨rfl, rfl⟩
      go_wp2_with fail
      go_ret
      exact ⟨rfl, hS3.below⟩
    | true =>
      have hok2 := (okLens_iff l).1 hok
      have hl3 := hok2.1
      have hkr := hok2.2.1
      have HALL := Lib.hid hok2.2.2
      clear hok2
      go_wp2_with fail
      refine (write_any p [true] _ _ l xs hS2 hc2 (h.st hS2) (hx.st hS2) hl3 hok (by omega) (by simp) (fun w' c' hq => hx.st hq)).mono ?_
      rintro e w3 ⟨rfl, c3, hc3, hS3⟩
      clear hS2 hc2
      go_wp2_with fail
      refine (refcodes_ok _ l w3 (h.st hS3) hl3 hok).mono ?_
      rintro e w4 ⟨u4, cU, rfl, hrU, hS4⟩
      replace hS3 := hS3.join hS4
      replace hS3 : St w.heap.size w w4 [cU, c3] := hS3
      obtain ⟨aoU, capU, rfl⟩ := hrU.shape
      clear hS4
      have hS5 := hS3.alloc (.cells #[.bool true] 4)
      have hr5 : RowC 4 1 (.slice (some ⟨w4.heap.size, 0, none⟩) 1 1) 1 (bl [true]) [(w4.heap.size, Obj.cells #[.bool true] 4 (0, 0))] := RowC.fresh _ _ rfl (Nat.le_refl _) (by unfold maxLen; omega) rfl rfl
      have HH := Lib.hid (And.intro hS5 (And.intro hr5 hc3))
      clear hS5 hr5 hS3
      go_wp2_with fail
      go_loopg [12, 13] xs.length (fun m s12 s13 wr => ∃ i : Nat, i + m = xs.length ∧ s13 = .int .i64 (i : Int) ∧ ∃ (out : List Bool) (cl : HL), Hid (RowC 4 1 s12 out.length (bl out) cl ∧ St w.heap.size w wr [cl, cU, c3] ∧ out = true :: (xs.take i).flatMap (symBits l) ∧ (xs.take i).all (symOk l) = true) ∧ out.length ≤ 1 + 15 * i)
      case atStart => exact ⟨0, by omega, rfl, [true], _, Lib.hid ⟨HH.out.2.1, HH.out.1, rfl, rfl⟩, by simp⟩
      case round =>
        have hc3 := HH.out.2.2
        clear HH
        obtain ⟨i, hi, rfl, out, cl, HQ, hol⟩ := hrel
        have hS := HQ.out.2.1
        have hrl := HQ.out.1
        obtain ⟨gl, capl, cur, rfl, _⟩ := hrl.form (by have := HQ.out.2.2.1; rw [this]; simp)
        cases gk with
        | zero =>
          obtain rfl : i = xs.length := by omega
          clear hi
          have hall := HQ.out.2.2.2
          have hout := HQ.out.2.2.1
          rw [List.take_length] at hall hout
          have he : wrErr l xs = 0 := by unfold wrErr; rw [hall]; rfl
          have hbt : wrBits l xs [true] = out := by unfold wrBits; rw [hall, hout]; rfl
          rw [hbt] at hc3
          rw [he]
          have HA := Lib.hid (And.intro hall hout)
          have hol9 : out.length ≤ 901 := by omega
          clear hall hout he hbt HQ
          have hS6 := hS.pick [2, 0] (by decide) [c3, cl] rfl
          have hSd := hS6.drew
          go_upto_region 23 with (fail)
          go_cut [131] (fun s131 wc => s131 = .bool false ∧ St w.heap.size w wc [c3])
          case first =>
            go_region_with (first
              | (go_at_call 21; with_reducible refine (wlen_any p out hSd hc3).mono ?_; rintro e w' ⟨rfl, rfl⟩)
              | (go_at_call 24; with_reducible refine (refbytes_any _ out _ (hrl.rd hSA 2 rfl) (by omega)).mono ?_; rintro e wB ⟨vB, cB, csB, rfl, hrB, hsB, hlB, hpB⟩; (obtain rfl : csB = csA := packed_unique hpB hpA (hlB.trans hlA.symm)); have hSB := hSA.join hsB; have hcvB := conv_str (hrB.rd hSB 0 rfl); have hcvAB := conv_str (hrA.rd hSB 1 rfl))
              | (go_at_call 23; with_reducible refine (wbytes_any p out hSX.swap hc3 (by omega)).mono ?_; rintro e wB ⟨vB, cB, csB, rfl, hrB, hsB, hlB, hpB⟩; (obtain rfl : csB = csX := packed_unique hpB hpX (hlB.trans hlX.symm)); have hSB := hSX.join hsB; have hcvB := conv_str (hrB.rd hSB 0 rfl); have hcvXB := conv_str (hrX.rd hSB 1 rfl))
              | (go_at_call 23; with_reducible refine (wbytes_any p out hSd hc3 (by omega)).mono ?_; rintro e wA ⟨vA, cA, csA, rfl, hrA, hsA, hlA, hpA⟩; have hSA := hSd.join hsA; have hcvA := conv_str (hrA.rd hSA 0 rfl))
              | (go_at_call 24; with_reducible refine (refbytes_any _ out _ (hrl.rd hSd 1 rfl) (by omega)).mono ?_; rintro e wX ⟨vX, cX, csX, rfl, hrX, hsX, hlX, hpX⟩; have hSX := hSd.join hsX; have hcvX := conv_str (hrX.rd hSX 0 rfl)))
            all_goals
              go_wp2
              go_meet
              case rel => exact ⟨rfl, hSB.pick [2] (by decide) [c3] rfl⟩
          case rest =>
            clear hS hS6 hSd hrl
            obtain ⟨rfl, hS⟩ := hcut
            by_cases hx0 : xs.length = 0
            · have q : ((xs.length : Int) == 0) = true := by simpa using hx0
              clear hx0
              go_wp2_with fail
              go_ret
              exact ⟨rfl, hS.below⟩
            · have q : ((xs.length : Int) == 0) = false := by rw [beq_eq_false_iff_ne]; omega
              go_wp2_with fail
              refine (wbytes_any p out hS hc3 (by omega)).mono ?_
              rintro e w6 ⟨v6, c6, cs, rfl, hr6, hs6, hl6, hp6⟩
              replace hS := hS.mono hs6.below
              go_wp2_with fail
              refine (bread_any v6 cs (hr6.rd hs6 0 rfl) (by omega)).mono ?_
              rintro e w7 ⟨p7, c7, rfl, hrc7, hs7⟩
              replace hS := (hS.join hs7).pick [0] (by decide) [c7] rfl
              have hpos := symBits_pos l HALL.out xs HA.out.1
              have hout := HA.out.2
              have hol8 : xs.length + 1 ≤ out.length := by rw [hout, List.length_cons]; omega
              go_wp2_with fail
              refine (get_any p7 cs 0 1 hS hrc7 (by omega) (by omega) (by omega) (by omega)).mono ?_
              rintro e w8 ⟨rfl, c8, hrc8, hS8⟩
              obtain ⟨en, hen⟩ : ∃ en, xs[xs.length - 1]? = some en := ⟨_, List.getElem?_eq_getElem (by omega)⟩
              obtain ⟨adx, rfl, hcellx⟩ := (hx.st hS8).at (iv_get xs _ en hen)
              have hm1 : (xs.length : Int) - 1 = ((xs.length - 1 : Nat) : Int) := by omega
              have hdrop : (bitsB cs).drop 1 = xs.flatMap (symBits l) ++ List.replicate (8 * cs.length - out.length) false := by
                rw [hp6, hout]
                simp
              have hrb := read_back l hkr HALL.out en most (List.replicate (8 * cs.length - out.length) false) xs (8 * cs.length + 1) 1 [] HA.out.1 (List.mem_of_getElem? hen) (by omega)
              rw [← hdrop] at hrb
              have HE := Lib.hid (And.intro hen hrb)
              have hix : xs.length - 1 < xs.length := by omega
              clear hen hrb hdrop hout hpos hp6 hS hs7 hs6 hr6
              go_wp2_with fail
              refine (read_any p7 _ l cs 1 en most hS8 hrc8 (h.st hS8) hl3 (by omega) hok (fun w' c' hq => h.keep hq.below)).mono ?_
              rintro e w9 ⟨u9, c9, rfl, hr9, c10, n10, _, hS9, _⟩
              have hrb := HE.out.2
              simp only [List.length_nil, Nat.zero_add, List.nil_append] at hrb
              generalize readP l en most (8 * cs.length + 1) [] 1 ((bitsB cs).drop 1) = r at *
              obtain ⟨ao9, cap9, rfl⟩ := hr9.shape
              have HR := Lib.hid hrb
              clear hrb hS8 hm1 hcellx
              replace hS9 := hS9.pick [0] (by decide) [c9] rfl
              go_wp2_with fail
              go_loopg [18] xs.length (fun m s18 wr => ∃ k : Nat, k + m = xs.length ∧ s18 = .int .i64 ((k : Int) + 1) ∧ Hid (∀ j x, j < k → xs[j]? = some x → x ≠ en) ∧ w9 = wr)
              case atStart => exact ⟨0, by omega, rfl, Lib.hid (by intro j x hj; omega), rfl⟩
              case round =>
                obtain ⟨k, hk, rfl, HN, rfl⟩ := hrel
                cases gk with
                | zero =>
                  exfalso
                  exact HN.out (xs.length - 1) en (by omega) HE.out.1 rfl
                | succ m =>
                  have hlt : k < xs.length := by omega
                  obtain ⟨y, hy⟩ : ∃ y, xs[k]? = some y := ⟨_, List.getElem?_eq_getElem hlt⟩
                  obtain ⟨ad', e', hcelly⟩ := (hx.st hS9).at (iv_get xs k y hy)
                  cases e'
                  by_cases hye : y = en
                  · subst hye
                    have hfi := fi_spec y xs k HN.out hy
                    have hr := HR.out
                    rw [hfi] at hr
                    by_cases q5 : most < (k : Int) + 1
                    · rw [if_pos (by omega), if_pos (by omega)] at hr
                      have HR2 := Lib.hid hr
                      rw [hr.1]
                      rw [hr.2] at hr9 ⊢
                      clear hr hfi hy
                      go_wp2_with fail
                      go_ret
                      exact ⟨rfl, hS9.below⟩
                    · rw [if_neg (by omega), if_neg (by omega)] at hr
                      have HR2 := Lib.hid hr
                      rw [hr.1]
                      rw [hr.2] at hr9 ⊢
                      have htl : (xs.take (k + 1)).length = k + 1 := by rw [List.length_take]; omega
                      have hrt := (hx.st hS9).take (k + 1) (by omega)
                      rw [Nat.mul_one] at hrt
                      have hrt2 : Rd w9 1 (.slice (some adx) (k + 1) capx) (k + 1) (iv (xs.take (k + 1))) := by simpa [iv] using hrt
                      have h9 := hr9.rd hS9 0 rfl
                      rw [htl] at h9 ⊢
                      have HRT := Lib.hid (And.intro htl (And.intro hrt2 h9))
                      clear hr hfi hy hrt htl hrt2 h9 hr9
                      go_wp2_with fail
                      refine (ints_any _ _ (xs.take (k + 1)) (xs.take (k + 1)) w9 (by rw [HRT.out.1]; exact HRT.out.2.2) (by rw [HRT.out.1]; exact HRT.out.2.1)).mono ?_
                      rintro e wz ⟨rfl, hd⟩
                      rw [show decide (xs.take (k + 1) = xs.take (k + 1)) = true from by simp]
                      have hSz := hS9.Drew hd
                      go_wp2_with fail
                      go_ret
                      exact ⟨rfl, hSz.below⟩
                  · have q5 : (y != en) = true := by simpa using hye
                    have HN2 : Hid (∀ j x, j < k + 1 → xs[j]? = some x → x ≠ en) := Lib.hid (by
                      intro j x hj hx2
                      by_cases e : j = k
                      · subst e
                        rw [hy] at hx2
                        cases hx2
                        exact hye
                      · exact HN.out j x (by omega) hx2)
                    clear hy
                    go_wp2_with fail
                    go_roundg m
                    case measure => omega
                    case rel => exact ⟨k + 1, by omega, by go_num, HN2, rfl⟩
        | succ m =>
          have hlt : i < xs.length := by omega
          obtain ⟨x, hxx⟩ : ∃ x, xs[i]? = some x := ⟨_, List.getElem?_eq_getElem hlt⟩
          obtain ⟨adx, rfl, hcellx⟩ := (hx.st hS).at (iv_get xs i x hxx)
          have htk : xs.take (i + 1) = xs.take i ++ [x] := by rw [List.take_add_one, hxx]; rfl
          have HTK := Lib.hid (And.intro htk hxx)
          clear htk
          cases hso : symOk l x with
          | false =>
            have hall : xs.all (symOk l) = false := by
              rw [List.all_eq_false]
              exact ⟨x, List.mem_of_getElem? hxx, by simp [hso]⟩
            have he : wrErr l xs = 7 := by unfold wrErr; rw [hall]; rfl
            have hbt : wrBits l xs [true] = [true] := by unfold wrBits; rw [hall]; rfl
            rw [hbt] at hc3
            rw [he]
            have hSc := hS.pick [2] (by decide) [c3] rfl
            clear hall he hbt hxx
            by_cases q1 : x < 0
            · clear hso
              go_wp2_with fail
              refine (wlen_any p [true] hSc hc3).mono ?_
              rintro e w6 ⟨rfl, rfl⟩
              go_wp2_with fail
              go_ret
              exact ⟨rfl, hSc.below⟩
            by_cases q2 : (l.length : Int) ≤ x
            · clear hso
              go_wp2_with fail
              refine (wlen_any p [true] hSc hc3).mono ?_
              rintro e w6 ⟨rfl, rfl⟩
              go_wp2_with fail
              go_ret
              exact ⟨rfl, hSc.below⟩
            obtain ⟨S, rfl⟩ := Int.eq_ofNat_of_zero_le (show 0 ≤ x by omega)
            have hSl : S < l.length := by omega
            have hS0 : l[S]? = some 0 := by
              have h1 : l[S]? = some l[S] := List.getElem?_eq_getElem hSl
              simp only [symOk, Int.toNat_natCast, List.getD_eq_getElem?_getD, h1, Option.getD_some] at hso
              have h2 : l[S] = 0 := by
                refine Classical.byContradiction fun hne => ?_
                have h3 : (l[S] == 0) = false := by simpa using hne
                rw [h3] at hso
                simp at hso
                omega
              rw [h1, h2]
            obtain ⟨ad, rfl, hcell⟩ := (h.st hS).at (iv_get l S 0 hS0)
            have q3 : decide ((S : Int) < 0) = false := by simp <;> omega
            clear hso hS0
            go_wp2_with fail
            refine (wlen_any p [true] hSc hc3).mono ?_
            rintro e w6 ⟨rfl, rfl⟩
            go_wp2_with fail
            go_ret
            exact ⟨rfl, hSc.below⟩
          | true =>
            obtain ⟨S, K, rfl, hSl, hSK, hK0, hK15⟩ := symOk_at l HALL.out x hso
            obtain ⟨ad, rfl, hcell⟩ := (h.st hS).at (iv_get l S K hSK)
            have q1 : decide ((S : Int) < 0) = false := by simp <;> omega
            have q2 : decide (l.length ≤ S) = false := by simp <;> omega
            have q3 : ((K : Int) == 0) = false := by rw [beq_eq_false_iff_ne]; omega
            have hb : symBits l (S : Int) = bitsOf (codeP l S) K := by
              unfold symBits
              rw [Int.toNat_natCast, List.getD_eq_getElem?_getD, hSK]
              simp
            have HB := Lib.hid (And.intro hb (And.intro hso hSK))
            have hb1 : (1 : Int) ≤ (K : Int) := by omega
            clear hso hb hSK hxx
            go_wp2_with fail
            go_loopg [12, 14] K (fun k s12 s14 wr => k ≤ K ∧ s14 = .int .i64 ((k : Int) - 1) ∧ ∃ (o2 : List Bool) (cl : HL), Hid (RowC 4 1 s12 o2.length (bl o2) cl ∧ St w.heap.size w wr [cl, cU, c3] ∧ o2 ++ bitsOf (codeP l S) k = out ++ bitsOf (codeP l S) K) ∧ o2.length + k = out.length + K)
            case atStart => exact ⟨by omega, rfl, out, cl, Lib.hid ⟨hrl, hS, rfl⟩, rfl⟩
            case round =>
              clear hcellx hcell hS hrl
              obtain ⟨hk, rfl, o2, cl2, HQ2, hl2⟩ := hrel
              have hS2 := HQ2.out.2.1
              have hr2 := HQ2.out.1
              obtain ⟨ao2, capo, rfl⟩ := hr2.shape
              cases gk with
              | zero =>
                go_wp2_with fail
                go_roundg m
                case measure => omega
                case rel =>
                  refine ⟨i + 1, by omega, by go_num, o2, cl2, Lib.hid ⟨hr2, hS2, ?_, ?_⟩, by omega⟩
                  · have h1 := HQ2.out.2.2
                    rw [show bitsOf (codeP l S) 0 = [] from rfl, List.append_nil] at h1
                    rw [h1, HQ.out.2.2.1, HTK.out.1, List.flatMap_append, ← HB.out.1]
                    simp
                  · rw [HTK.out.1, List.all_append, HQ.out.2.2.2]
                    simp [HB.out.2.1]
              | succ k =>
                have e : (((k + 1 : Nat) : Int) - 1) = (k : Int) := by omega
                rw [e]
                clear e
                obtain ⟨ad', e', hcellx⟩ := (hx.st hS2).at (iv_get xs i (S : Int) HTK.out.2)
                cases e'
                obtain ⟨adU, eU, hcellU⟩ := (hrU.rd hS2 1 rfl).at (uv_get (codeU l) l.length S hSl)
                have hcu : codeU l S = codeP l S := by
                  unfold codeU
                  rw [List.getD_eq_getElem?_getD, HB.out.2.2]
                  rw [if_pos (by simp <;> omega)]
                rw [hcu] at hcellU
                subst eU
                have hcb : (codeP l S : Int) ≤ 32768 := by
                  have := codeP_range l S K HB.out.2.2 hK0
                  have := fstP_small l hkr K hK15
                  omega
                have hk15 : (k : Int) ≤ 15 := by omega
                have hol2 : o2.length ≤ 1000 := by omega
                clear hcu
                go_wp2_with (first | (go_at_call 22; refine (bit_any (codeP l S : Int) (k : Int) wr (by omega) (by omega) (by omega) (by omega)).mono ?_; rintro e w7 ⟨rfl, rfl⟩) | (at_builtin; (refine wpList_app1 0 44 i0 (.bool false) _ _ _ rfl rfl rfl rfl Try.underlying44 i0a i0b i0c i0d rfl hS2 rfl hr2 rfl ?_ ?_ ?_); (unfold maxLen; omega); omega; intro v7 c7 w7 hr7 hS7))
                go_roundg k
                case measure => omega
                case rel =>
                  refine ⟨by omega, by go_num, o2 ++ [(codeP l S).testBit k], c7, Lib.hid ⟨?_, hS7, ?_⟩, by simp; omega⟩
                  · simpa [bl] using hr7
                  · have h1 := HQ2.out.2.2
                    rw [bitsOf_succ] at h1
                    rw [List.append_assoc]
                    exact h1
end Go.Proofs.Ytdgpbgdpdmikaaa

/-
  The walk of BitsAll: numbers as bits, one behind the other, are read again by the same widths.
-/
import Derived.Test.YtfnmbfhlfblkhaaBitsBegun
import Derived.Test.YtfnmbfhlfblkhaaRefBits
import Derived.Test.YtfnmbfhlfblkhaaBytesStr
import Derived.Test.YtfnmbfhlfblkhaaOpenOps
set_option linter.unusedVariables false
set_option linter.unusedSimpArgs false
namespace Go.Proofs.Ytfnmbfhlfblkhaa
open Go.RowKit
set_option maxRecDepth 100000
/-- The bits that an Op lays. -/
def opBits (o : Int × Int) : List Bool := if 0 ≤ o.2 ∧ o.2 ≤ 64 then bitsOf o.1.toNat o.2.toNat else []
def opsBits (os : List (Int × Int)) : List Bool := os.flatMap opBits
theorem opsBits_take_succ (os : List (Int × Int)) (i : Nat) (o : Int × Int) (h : os[i]? = some o) : opsBits (os.take (i + 1)) = opsBits (os.take i) ++ opBits o := by
  rw [List.take_add_one, h]
  simp [opsBits]
theorem opBits_length_le (o : Int × Int) : (opBits o).length ≤ 64 := by
  unfold opBits
  split
  · rw [bitsOf_length]; omega
  · simp
theorem opsBits_length_le (os : List (Int × Int)) : (opsBits os).length ≤ 64 * os.length := by
  induction os with
  | nil => simp [opsBits]
  | cons o os ih =>
    have := opBits_length_le o
    simp only [opsBits, List.flatMap_cons, List.length_append, List.length_cons] at ih ⊢
    omega
theorem take_mid2 {α : Type} (a b c : List α) (n m : Nat) (hn : a.length = n) (hm : b.length = m) : ((a ++ b ++ c).drop n).take m = b := by
  subst hn; subst hm
  simp
theorem ops_cells (os : List (Int × Int)) (i : Nat) (o : Int × Int) (h : os[i]? = some o) : (os.flatMap opCells)[i * 2]? = some (.int .u64 o.1) ∧ (os.flatMap opCells)[i * 2 + 1]? = some (.int .i64 o.2) := by
  induction os generalizing i with
  | nil => simp at h
  | cons p os ih =>
    rw [List.flatMap_cons]
    cases i with
    | zero =>
      simp at h
      subst h
      exact ⟨rfl, rfl⟩
    | succ i =>
      simp at h
      have := ih i h
      rw [show (i + 1) * 2 = i * 2 + 2 from by omega]
      simpa [opCells] using this
set_option maxHeartbeats 8000000 in
theorem BitsAll_walk (w : World) (v : Value) (n : Nat) (os0 : List (Int × Int)) (h0 : Rd w 2 v n (os0.flatMap opCells) ∧ os0.length = n ∧ ∀ o ∈ os0, (Lit.int .u64 o.1).wf = true ∧ (Lit.int .i64 o.2).wf = true) (sz : n * 16 ≤ 140737488351232) :
    Calls Try.prog 7 #[v] w fun e w' => e = .returned (.bool true) ∧ Below w.heap.size w w' := by
  obtain ⟨h, hlen0, hwf⟩ := h0
  obtain ⟨i0, i0a, i0b, i0c, i0d⟩ := info_parts infoBool
  obtain ⟨ao, cap, rfl⟩ := h.shape
  have hn : (n : Int) ≤ 8796093022208 := by omega
  obtain ⟨os, hos⟩ : ∃ os, os = os0.take 40 := ⟨_, rfl⟩
  have hol : os.length = min 40 n := by rw [hos, List.length_take, hlen0]
  have hget : ∀ (i : Nat) (o : Int × Int), os[i]? = some o → os0[i]? = some o := by
    intro i o ho
    rw [hos, List.getElem?_take] at ho
    split at ho
    · exact ho
    · simp at ho
  have HG := Lib.hid hget
  have HL := Lib.hid hol
  have HW := Lib.hid hwf
  clear hget hol hos hlen0 hwf sz
  go_enter Try.func7, Try.ntmps7
  go_wp2_with fail
  refine (begun1 _).mono ?_
  rintro e w1 ⟨rfl, hb⟩
  have hS := (((St.init w).mono hb).alloc (Obj.cells #[.slice none 0 0, .int .i64 0] 39 (0, 0))).one_nil
  have hc := wr_new w1.heap.size
  clear hb
  go_wp2_with fail
  go_loopg [5, 6] os.length (fun m s5 s6 wr => ∃ i : Nat, i + m = os.length ∧ s6 = .int .i64 (i : Int) ∧ ∃ c cl, RowC 4 1 s5 (opsBits (os.take i)).length (bl (opsBits (os.take i))) cl ∧ WrC w1.heap.size (opsBits (os.take i)) c ∧ St w.heap.size w wr [cl, c])
  case atStart => exact ⟨0, by omega, rfl, _, [], RowC.nil _ _, hc, hS⟩
  case round =>
    clear hS hc
    obtain ⟨i, hi, rfl, c, cl, hr, hc, hS⟩ := hrel
    have hi40 : (i : Int) ≤ 40 := by have := HL.out; omega
    have hsl : (opsBits (os.take i)).length ≤ 2560 := by
      have := opsBits_length_le (os.take i)
      have : (os.take i).length ≤ 40 := by rw [List.length_take]; omega
      omega
    obtain ⟨ao5, cap5, rfl⟩ := hr.shape
    cases gk with
    | zero =>
      obtain rfl : i = os.length := by omega
      rw [List.take_length] at *
      have hcase : (¬ os.length < n) ∨ (os.length < n ∧ ¬ (os.length : Int) < 40) := by have := HL.out; omega
      clear hi
      rcases hcase with hk | ⟨hk, hk2⟩
      all_goals
        go_wp2_with fail
        refine (wbytes_any _ _ (hS.pick [1, 0] (by decide) [c, cl] rfl) hc (by omega)).mono ?_
        rintro e w4 ⟨v4, c4, cs, rfl, hr4, hs4, hl4, hp4⟩
        obtain ⟨ao4, cap4, rfl⟩ := hr4.shape
        replace hS := (hS.join hs4).pick [2, 0, 1] (by decide) [c, c4, cl] rfl
        have hcs : cs.length ≤ 400 := by omega
        have HP := Lib.hid (And.intro hl4 hp4)
        have hSd := hS.drew
        have hcv4 := conv_str (hr4.rd hSd 1 rfl)
        have hrd5 := hr.rd hSd 2 rfl
        clear hl4 hp4 hs4
        go_upto_region 18 with (fail)
        go_cut [85] (fun s85 wc => s85 = .bool false ∧ St w.heap.size w wc [c, c4, cl])
        case first =>
          go_region_with (first
            | (go_at_call 25; with_reducible refine (wlen_any _ _ hSd hc).mono ?_; rintro e w' ⟨rfl, rfl⟩)
            | (go_at_call 26; with_reducible refine (refbytes_any _ _ _ hrd5 (by omega)).mono ?_; rintro e w6 ⟨v6, c6, cs6, rfl, hr6, hs6, hl6, hp6⟩; (obtain rfl : cs6 = cs := packed_unique hp6 HP.out.2 (hl6.trans HP.out.1.symm)); clear hl6 hp6; have hS6 := hSd.mono hs6.below; have hcv6 := conv_str (hr6.rd hs6 0 rfl); have hcv46 := conv_str (hr4.rd hS6 1 rfl)))
          all_goals
            go_wp2
            go_meet
            case rel => exact ⟨rfl, hS6⟩
        case rest =>
          clear hS hSd hcv4 hrd5
          obtain ⟨rfl, hS⟩ := hcut
          go_wp2_with fail
          refine (bread_any _ cs (hr4.rd hS 1 rfl) (by omega)).mono ?_
          rintro e w5 ⟨p, c5, rfl, hrc, hs5⟩
          replace hS := (hS.join hs5).pick [0] (by decide) [c5] rfl
          clear hs5 hr4 hr
          go_wp2_with fail
          go_loopg [12, 13] os.length (fun m s12 s13 wr => ∃ i : Nat, i + m = os.length ∧ s13 = .int .i64 (i : Int) ∧ s12 = .int .i64 ((opsBits (os.take i)).length : Int) ∧ ∃ c5, RdC p cs (opsBits (os.take i)).length c5 ∧ St w.heap.size w wr [c5])
          case atStart => exact ⟨0, by omega, rfl, rfl, c5, hrc, hS⟩
          case round =>
            clear hS hrc
            obtain ⟨i, hi, rfl, rfl, c5, hrc, hS⟩ := hrel
            have hsl2 : (opsBits (os.take i)).length ≤ 2560 := by
              have := opsBits_length_le (os.take i)
              have : (os.take i).length ≤ 40 := by rw [List.length_take]; have := HL.out; omega
              omega
            cases gk with
            | zero =>
              obtain rfl : i = os.length := by omega
              go_wp2_with fail
              go_ret
              exact ⟨rfl, hS.below⟩
            | succ m =>
              have hlt : i < os.length := by omega
              obtain ⟨o, ho⟩ : ∃ o, os[i]? = some o := ⟨_, List.getElem?_eq_getElem hlt⟩
              have hcl := ops_cells os0 i o (HG.out i o ho)
              obtain ⟨ad, rfl, hcell⟩ := (h.st hS).at hcl.1
              obtain ⟨ad', e', hcell1⟩ := (h.st hS).at hcl.2
              cases e'
              rw [← Addr.add_add'] at hcell1
              replace hcell1 : wr.cell? ⟨(ad.add (i * 2)).block, (ad.add (i * 2)).off + 1, none⟩ = some (.int .i64 o.2) := hcell1
              have hin : i < n := by have := HL.out; omega
              have hin2 : (i : Int) < 40 := by have := HL.out; omega
              have hwo := (HW.out o (List.mem_of_getElem? (HG.out i o ho)))
              have hv := bounds_u64 hwo.1
              have hv0 := hv.1
              have hv1 := hv.2
              have hz := bounds_i64 hwo.2
              have HT := Lib.hid (opsBits_take_succ os i o ho)
              clear hcl ho hwo hv
              obtain ⟨V, N⟩ := o
              dsimp only at *
              have hSo := (hS.alloc (Obj.cells #[.int .u64 V, .int .i64 N] 43)).pick [1, 0] (by decide) [c5, _] rfl
              by_cases hgood : 0 ≤ N ∧ N ≤ 64
              · have hob : opBits (V, N) = bitsOf V.toNat N.toNat := by unfold opBits; rw [if_pos hgood]
                obtain ⟨hN0, hN1⟩ := hgood
                obtain ⟨Q, rfl⟩ := Int.eq_ofNat_of_zero_le hN0
                obtain ⟨U, rfl⟩ := Int.eq_ofNat_of_zero_le hv0
                have k1 : decide ((Q : Int) < 0) = false := by simp
                have k2 : decide (64 < (Q : Int)) = false := by simp; omega
                simp only [Int.toNat_natCast] at *
                have hsum : (opsBits (os.take (i + 1))).length = (opsBits (os.take i)).length + Q := by rw [HT.out, List.length_append, hob, bitsOf_length]
                have hsplit : opsBits os = opsBits (os.take (i + 1)) ++ opsBits (os.drop (i + 1)) := by
                  unfold opsBits
                  rw [← List.flatMap_append, List.take_append_drop]
                have hle1 : (opsBits (os.take (i + 1))).length ≤ 8 * cs.length := by
                  have h2 := congrArg List.length hsplit
                  rw [List.length_append] at h2
                  have := HP.out.1
                  omega
                have hval : valOf (((bitsB cs).drop (opsBits (os.take i)).length).take Q) = U % 2 ^ Q := by
                  rw [HP.out.2, hsplit, HT.out, hob, List.append_assoc, take_mid2 _ _ _ _ _ rfl (bitsOf_length _ _), valOf_bitsOf]
                have HV := Lib.hid hval
                have HX := Lib.hid (And.intro hsum hle1)
                clear hob hsum hsplit hle1 hval hz
                go_wp2_with fail
                refine (get_any p cs _ (Q : Int) hSo hrc (by omega) hN0 hN1 (by have := HX.out; omega)).mono ?_
                rintro e w6 ⟨rfl, c6, hrc, hS⟩
                rw [Int.toNat_natCast] at *
                rw [HV.out]
                have q0 : w6.cell? ⟨wr.heap.size, 0, none⟩ = some (.int .u64 (U : Int)) := hS.cell 1 rfl (List.mem_singleton.2 rfl) 0
                have q1 : w6.cell? ⟨wr.heap.size, 1, none⟩ = some (.int .i64 (Q : Int)) := hS.cell 1 rfl (List.mem_singleton.2 rfl) 1
                have hend : ∀ (w7 : World), St w.heap.size w w7 [c6, [(wr.heap.size, Obj.cells #[.int .u64 (U : Int), .int .i64 (Q : Int)] 43)]] → ∃ i' : Nat, i' + m = os.length ∧ Value.int .i64 ((i : Int) + 1) = .int .i64 (i' : Int) ∧ Value.int .i64 ((opsBits (os.take i)).length + (Q : Int)) = .int .i64 ((opsBits (os.take i')).length : Int) ∧ ∃ c5, RdC p cs (opsBits (os.take i')).length c5 ∧ St w.heap.size w w7 [c5] := by
                  intro w7 h7
                  have := HX.out.1
                  refine ⟨i + 1, by omega, by go_num, by rw [this]; simp, c6, by rw [this]; exact hrc, h7.pick [0] (by decide) [c6] rfl⟩
                have HE := Lib.hid hend
                clear hend
                by_cases h64 : Q < 64
                · have k3 : decide ((Q : Int) < 64) = true := by simp; omega
                  have hpow : (2 : Int) ^ Q ≤ 2 ^ 63 := by
                    have h1 : 2 ^ Q ≤ 2 ^ 63 := Nat.pow_le_pow_right (by omega) (by omega)
                    have h2 := Int.ofNat_le.2 h1
                    simpa using h2
                  have hpos : (0 : Int) < 2 ^ Q := Int.pow_pos (by omega)
                  have hwr : IntKind.u64.wrap (2 ^ Q) = 2 ^ Q := by
                    simp only [IntKind.wrap, IntKind.bits, IntKind.signed, Bool.false_and, Bool.false_eq_true, if_false]
                    omega
                  have hne : ¬ (2 : Int) ^ Q = 0 := by omega
                  clear hpow hpos
                  go_wp2_with fail
                  refine (left_any p cs _ hS hrc (by omega)).mono ?_
                  rintro e w7 ⟨rfl, nq, rfl⟩
                  go_wp2_with fail
                  go_roundg m
                  case measure => omega
                  case rel => exact HE.out _ (hS.drewN nq)
                · obtain rfl : Q = 64 := by omega
                  have k3 : decide (((64 : Nat) : Int) < 64) = false := by simp
                  have hU : U % 2 ^ 64 = U := Nat.mod_eq_of_lt (by omega)
                  rw [hU]
                  clear hU
                  go_wp2_with fail
                  refine (left_any p cs _ hS hrc (by omega)).mono ?_
                  rintro e w7 ⟨rfl, nq, rfl⟩
                  go_wp2_with fail
                  go_roundg m
                  case measure => omega
                  case rel => exact HE.out _ (hS.drewN nq)
              · have hob : opBits (V, N) = [] := by unfold opBits; rw [if_neg hgood]
                have hcase : (decide (N < 0) = true) ∨ (decide (N < 0) = false ∧ decide (64 < N) = true) := by
                  simp only [decide_eq_true_eq, decide_eq_false_iff_not]
                  omega
                have hbad : N < 0 ∨ 64 < N ∨ 8 * (cs.length : Int) - ((opsBits (os.take i)).length : Int) < N := by omega
                have HO := Lib.hid hob
                have HB := Lib.hid hbad
                clear hob hbad hgood hS
                rw [HO.out, List.append_nil] at HT
                rcases hcase with k1 | ⟨k1, k2⟩
                all_goals
                  go_wp2_with fail
                  refine (get_bad p cs _ N hSo hrc (by omega) HB.out).mono ?_
                  rintro e w6 ⟨rfl, nq, rfl⟩
                  go_wp2_with fail
                  go_roundg m
                  case measure => omega
                  case rel => exact ⟨i + 1, by omega, by go_num, by rw [HT.out], c5, by rw [HT.out]; exact hrc, (hSo.drewN nq).pick [0] (by decide) [c5] rfl⟩
    | succ m =>
      have hlt : i < os.length := by omega
      obtain ⟨o, ho⟩ : ∃ o, os[i]? = some o := ⟨_, List.getElem?_eq_getElem hlt⟩
      have hcl := ops_cells os0 i o (HG.out i o ho)
      obtain ⟨ad, rfl, hcell⟩ := (h.st hS).at hcl.1
      obtain ⟨ad', e', hcell1⟩ := (h.st hS).at hcl.2
      cases e'
      rw [← Addr.add_add'] at hcell1
      replace hcell1 : wr.cell? ⟨(ad.add (i * 2)).block, (ad.add (i * 2)).off + 1, none⟩ = some (.int .i64 o.2) := hcell1
      have hin : i < n := by have := HL.out; omega
      have hin2 : (i : Int) < 40 := by have := HL.out; omega
      have hwo := (HW.out o (List.mem_of_getElem? (HG.out i o ho)))
      have hv := bounds_u64 hwo.1
      have hv0 := hv.1
      have hv1 := hv.2
      have hz := bounds_i64 hwo.2
      have HT := Lib.hid (opsBits_take_succ os i o ho)
      clear hcl ho hwo hv
      obtain ⟨V, N⟩ := o
      dsimp only at *
      have hSo := (hS.alloc (Obj.cells #[.int .u64 V, .int .i64 N] 43)).pick [2, 1, 0] (by decide) [c, cl, _] rfl
      by_cases hgood : 0 ≤ N ∧ N ≤ 64
      · have hob : opBits (V, N) = bitsOf V.toNat N.toNat := by unfold opBits; rw [if_pos hgood]
        obtain ⟨hN0, hN1⟩ := hgood
        have k1 : decide (0 ≤ N) = true := by simpa using hN0
        have k2 : decide (N ≤ 64) = true := by simpa using hN1
        have HO := Lib.hid hob
        clear hob hz
        go_wp2_with fail
        refine (put_any _ _ V N hSo hc hv0 hv1 hN0 hN1 (by omega)).mono ?_
        rintro e w2 ⟨rfl, c2, hc2, hS2⟩
        have q0 : w2.cell? ⟨wr.heap.size, 0, none⟩ = some (.int .u64 V) := hS2.cell 2 rfl (List.mem_singleton.2 rfl) 0
        have q1 : w2.cell? ⟨wr.heap.size, 1, none⟩ = some (.int .i64 N) := hS2.cell 2 rfl (List.mem_singleton.2 rfl) 1
        go_wp2_with fail
        generalize wr.heap.size = q at *
        go_loopg [5, 9] (N.toNat) (fun k s5 s9 wr' => (k : Int) ≤ 64 ∧ s9 = .int .i64 ((k : Int) - 1) ∧ ∃ l cl, Hid (l ++ bitsOf V.toNat k = opsBits (os.take (i + 1)) ∧ l.length ≤ 4000) ∧ RowC 4 1 s5 l.length (bl l) cl ∧ St w.heap.size w wr' [c2, cl, [(q, Obj.cells #[.int .u64 V, .int .i64 N] 43)]])
        case atStart =>
          refine ⟨by omega, by rw [Int.toNat_of_nonneg hN0], opsBits (os.take i), cl, ⟨?_, by omega⟩, hr, hS2⟩
          rw [HT.out, HO.out]
        case round =>
          clear hS2 hr q0 q1 hS hSo
          obtain ⟨hk, rfl, l, cl, HL2, hr, hS⟩ := hrel
          obtain ⟨ao5, cap5, rfl⟩ := hr.shape
          cases gk with
          | zero =>
            go_wp2_with fail
            go_roundg m
            case measure => omega
            case rel =>
              have e1 := HL2.out.1
              rw [show bitsOf V.toNat 0 = [] from rfl, List.append_nil] at e1
              subst e1
              rw [← HO.out, ← HT.out] at hc2
              exact ⟨i + 1, by omega, by go_num, c2, cl, hr, hc2, hS.pick [1, 0] (by decide) [cl, c2] rfl⟩
          | succ k =>
            have e : (((k + 1 : Nat) : Int) - 1) = (k : Int) := by omega
            rw [e]
            have q0 := hS.cell 2 rfl (List.mem_singleton.2 rfl) 0
            replace q0 : wr.cell? ⟨q, 0, none⟩ = some (.int .u64 V) := q0
            have hk63 : (k : Int) ≤ 63 := by omega
            have hll : l.length ≤ 4000 := HL2.out.2
            clear e
            go_wp2_with (first | (go_at_call 23; refine (bit_any V (k : Int) wr hv0 hv1 (by omega) hk63).mono ?_; rintro e w1 ⟨rfl, rfl⟩) | (at_builtin; (refine wpList_app1 1 40 i0 (.bool false) _ _ _ rfl rfl rfl rfl Try.underlying40 i0a i0b i0c i0d rfl hS rfl hr rfl ?_ ?_ ?_); (unfold maxLen; omega); omega; intro v1 c1 w1 hr1 hs1))
            go_roundg k
            case measure => omega
            case rel =>
              refine ⟨by omega, by go_num, l ++ [V.toNat.testBit k], c1, ⟨?_, ?_⟩, ?_, hs1⟩
              · have := HL2.out.1
                rw [bitsOf_succ] at this
                rw [List.append_assoc]
                exact this
              · have e2 := congrArg List.length HL2.out.1
                have e3 := opsBits_length_le (os.take (i + 1))
                have e4 : (os.take (i + 1)).length ≤ 41 := by rw [List.length_take]; omega
                simp only [List.length_append, bitsOf_length, List.length_singleton] at e2 ⊢
                omega
              · simpa [bl] using hr1
      · have hob : opBits (V, N) = [] := by unfold opBits; rw [if_neg hgood]
        have hcase : (decide (0 ≤ N) = false) ∨ (decide (0 ≤ N) = true ∧ decide (N ≤ 64) = false) := by
          simp only [decide_eq_true_eq, decide_eq_false_iff_not]
          omega
        have hbad : N < 0 ∨ 64 < N := by omega
        have HO := Lib.hid hob
        have HB := Lib.hid hbad
        clear hob hbad hgood hS
        rcases hcase with k1 | ⟨k1, k2⟩
        all_goals
          go_wp2_with fail
          refine (put_bad V N _ _ (.inr ⟨⟨_, rfl⟩, HB.out⟩)).mono ?_
          rintro e w2 ⟨rfl, rfl⟩
          go_wp2_with fail
          go_loopg [5, 9] 1 (fun k s5 s9 wr' => s5 = .slice ao5 (opsBits (os.take i)).length cap5 ∧ wr' = wr.alloc (Obj.cells #[.int .u64 V, .int .i64 N] 43))
          case atStart => exact ⟨rfl, rfl⟩
          case round =>
            obtain ⟨rfl, rfl⟩ := hrel
            go_wp2_with fail
            go_roundg m
            case measure => omega
            case rel =>
              rw [HO.out, List.append_nil] at HT
              refine ⟨i + 1, by omega, by go_num, c, cl, ?_, ?_, hSo.pick [1, 0] (by decide) [cl, c] rfl⟩
              · rw [HT.out]; exact hr
              · rw [HT.out]; exact hc
end Go.Proofs.Ytfnmbfhlfblkhaa

/-
  The walk of CodesWhole.
-/
import Derived.Test.YtdgpbgdpdmikaaaCodesBegun
import Derived.Test.YtdgpbgdpdmikaaaCodesRefR
set_option linter.unusedVariables false
set_option linter.unusedSimpArgs false
namespace Go.Proofs.Ytdgpbgdpdmikaaa
open Go.RowKit
set_option maxRecDepth 100000
def kw (k : Int) : Nat := if 1 ≤ k ∧ k ≤ 15 then 2 ^ (15 - k.toNat) else 0
theorem kraftP_cons (k : Int) (l : List Int) : kraftP (k :: l) = kw k + kraftP l := by simp [kraftP, kw]
theorem kraftP_set (l : List Int) : ∀ (i : Nat) (x y : Int), l[i]? = some x → kraftP (l.set i y) + kw x = kraftP l + kw y := by
  induction l with
  | nil => intro i x y h; simp at h
  | cons z l ih =>
    intro i x y h
    cases i with
    | zero =>
      simp at h
      subst h
      rw [List.set_cons_zero, kraftP_cons, kraftP_cons]
      omega
    | succ i =>
      simp at h
      have := ih i x y h
      rw [List.set_cons_succ, kraftP_cons, kraftP_cons]
      omega
/-- Lengths whose codes leave no room. -/
structure Whole (l : List Int) : Prop where
  k : kraftP l = 32768
  r : ∀ x ∈ l, 1 ≤ x ∧ x ≤ 15
  n : 2 ≤ l.length
theorem Whole.ok {l : List Int} (h : Whole l) (hn : l.length ≤ 300) : okLens l = true :=
  (okLens_iff l).2 ⟨hn, by rw [h.k]; exact Nat.le_refl _, fun x hx => by have := h.r x hx; omega⟩
theorem Whole.step {l : List Int} (h : Whole l) (i : Nat) (x : Int) (hx : l[i]? = some x) (h15 : x < 15) : Whole (l.set i (x + 1) ++ [x + 1]) := by
  have hr := h.r x (List.mem_of_getElem? hx)
  refine ⟨?_, ?_, by simp; have := h.n; omega⟩
  · have h1 := kraftP_set l i x (x + 1) hx
    rw [kraftP_append]
    have e1 : kraftP [x + 1] = kw (x + 1) := by simp [kraftP, kw]
    rw [e1]
    obtain ⟨K, rfl⟩ := Int.eq_ofNat_of_zero_le (show 0 ≤ x by omega)
    have e2 : kw (K : Int) = 2 * kw ((K : Int) + 1) := by
      unfold kw
      rw [if_pos (by omega), if_pos (by omega), Int.toNat_natCast, show ((K : Int) + 1).toNat = K + 1 from by omega, show 15 - K = (15 - (K + 1)) + 1 from by omega, Nat.pow_succ]
      omega
    rw [h.k] at h1
    omega
  · intro y hy
    rcases List.mem_append.1 hy with hy | hy
    · rcases List.mem_or_eq_of_mem_set hy with hy | rfl
      · exact h.r y hy
      · omega
    · rw [List.mem_singleton.1 hy]; omega
theorem readP_one (l : List Int) (h : Whole l) (m at_ : Nat) (bits : List Bool) (hm : 1 ≤ m) (hb : 15 ≤ bits.length) : readP l (-1) 1 (m + 1) [] at_ bits = (2, [], 0) := by
  obtain ⟨s, n, hs⟩ := symP_whole l h.k (fun x hx => by have := h.r x hx; omega) 15 0 0 bits (by omega) (by simp [endP, fstP, cntP]) (by simp) hb
  obtain ⟨m, rfl⟩ : ∃ k, m = k + 1 := ⟨m - 1, by omega⟩
  rw [readP, if_neg (by simp), hs]
  simp only
  rw [if_neg (by omega), readP, if_pos (by simp)]
theorem tmod_small (x : Int) (n : Nat) (h : 0 < n) : -(n : Int) < x.tmod n ∧ x.tmod n < n := by
  have h1 := Int.natAbs_tmod x n
  have h2 : x.natAbs % (n : Int).natAbs < n := by rw [Int.natAbs_natCast]; exact Nat.mod_lt _ h
  omega
set_option maxHeartbeats 4000000 in
theorem CodesWhole_walk (w : World) (v : Value) (n : Nat) (zs : List Int) (rd : Rd w 1 v n (zs.map (Value.int .i64))) (_wf : ∀ z ∈ zs, (Lit.int .i64 z).wf = true) (sz : n * 8 ≤ 140737488351232)
    (v1 : Value) (bs0 : List UInt8) (rd0 : Rd w 1 v1 bs0.length (bv bs0)) (sz0 : bs0.length ≤ 140737488351232) :
    Calls Try.prog 6 #[v, v1] w fun e w' => e = .returned (.bool true) ∧ Below w.heap.size w w' := by
  obtain ⟨i0, i0a, i0b, i0c, i0d⟩ := info_parts infoInt
  have hlen := rd.len
  simp only [List.length_map, Nat.mul_one] at hlen
  subst hlen
  replace rd : Rd w 1 v zs.length (iv zs) := rd
  obtain ⟨ao, cap, rfl⟩ := rd.shape
  have hsm := rd.small
  have hnz : (zs.length : Int) ≤ 17592186043904 := by omega
  clear sz _wf sz0
  have hW0 : Whole [1, 1] := ⟨by decide, by decide, by decide⟩
  go_enter Try.func6, Try.ntmps6
  go_wp2_with fail
  refine (begun7 _).mono ?_
  rintro e w1 ⟨rfl, hb⟩
  have hS := (St.init w).mono hb
  clear hb
  have hS2 := hS.alloc (.cells #[.int .i64 1, .int .i64 1] 3)
  have hr2 : RowC 3 1 (.slice (some ⟨w1.heap.size, 0, none⟩) 2 2) 2 (iv [1, 1]) [(w1.heap.size, Obj.cells #[.int .i64 1, .int .i64 1] 3 (0, 0))] := RowC.fresh _ _ rfl (Nat.le_refl _) (by unfold maxLen; omega) rfl rfl
  have HH := Lib.hid (And.intro hS2 (And.intro hr2 hW0))
  clear hS2 hr2 hS hW0
  go_wp2_with fail
  go_loopg [6, 7] (min zs.length 20) (fun m s6 s7 wr => ∃ i : Nat, i + m = min zs.length 20 ∧ s7 = .int .i64 (i : Int) ∧ ∃ (l : List Int) (c : HL), Hid (RowC 3 1 s6 l.length (iv l) c ∧ St w.heap.size w wr [c] ∧ Whole l) ∧ 2 ≤ l.length ∧ l.length ≤ i + 2)
  case atStart => exact ⟨0, by omega, rfl, [1, 1], _, Lib.hid ⟨HH.out.2.1, HH.out.1, HH.out.2.2⟩, by simp, by simp⟩
  case round =>
    clear HH
    obtain ⟨i, hi, rfl, l, c, HQ, hl2, hli⟩ := hrel
    have hr := HQ.out.1
    obtain ⟨g, capg, cur, rfl, _⟩ := hr.form (by omega)
    have hS := HQ.out.2.1
    have hln : (l.length : Int) ≤ 22 := by omega
    cases gk with
    | zero =>
      have hstop : ¬ i < zs.length ∨ (i < zs.length ∧ ¬ (i : Int) < 20) := by omega
      have hok := HQ.out.2.2.ok (by omega)
      have hkr := HQ.out.2.2.k
      have HK := Lib.hid hkr
      clear hkr
      rcases hstop with hs1 | ⟨hs1, hs2⟩
      all_goals
        clear hi
        go_wp2_with fail
        refine (short_gen v1 bs0 40 wr (rd0.st hS) (by omega)).mono ?_
        rintro e w2 ⟨vb, rfl, hB, rfl⟩
        replace hB := hB w rd0
        have hbl : (bs0.take 40).length ≤ 40 := by rw [List.length_take]; omega
        generalize bs0.take 40 = bs at *
        obtain ⟨aob, capb, rfl⟩ := hB.shape
        go_wp2_with fail
        refine (refkraft_any _ l wr (hr.rd hS 0 rfl) (by omega)).mono ?_
        rintro e w2 ⟨rfl, rfl⟩
        rw [HK.out]
        go_wp2_with fail
        refine (bread_any _ bs (hB.st hS) (by omega)).mono ?_
        rintro e w3 ⟨p, c3, rfl, hrc, hS3⟩
        replace hS := hS.join hS3
        replace hS : St w.heap.size w w3 [c3, c] := hS
        have HC := Lib.hid (And.intro hrc hS)
        clear hS3 hrc hS
        go_wp2_with fail
        go_loopg [10] 321 (fun m s10 wr => ∃ (k at_ : Nat) (c3 : HL), s10 = .int .i64 (k : Int) ∧ k + m = 321 ∧ k ≤ at_ ∧ Hid (RdC p bs at_ c3 ∧ St w.heap.size w wr [c3, c]))
        case atStart => exact ⟨0, 0, c3, rfl, by omega, by omega, HC⟩
        case round =>
          clear HC
          obtain ⟨k, at_, c3, rfl, hkm, hka, HC⟩ := hrel
          have hle := HC.out.1
          obtain ⟨_, _, _, _, hle⟩ := hle
          obtain ⟨L, hL⟩ : ∃ L, at_ + L = 8 * bs.length := ⟨8 * bs.length - at_, by omega⟩
          have hLi : (L : Int) ≤ 320 := by omega
          go_wp2_with fail
          refine (left_n p bs at_ L hL HC.out.2 HC.out.1 (by omega)).mono ?_
          rintro e w4 ⟨rfl, hd⟩
          have hS4 := HC.out.2.Drew hd
          clear hd
          obtain ⟨m', rfl⟩ : ∃ m', gk = m' + 1 := ⟨gk - 1, by omega⟩
          by_cases hL15 : 15 ≤ L
          · go_wp2_with fail
            refine (left_n p bs at_ L hL hS4 HC.out.1 (by omega)).mono ?_
            rintro e w5 ⟨rfl, hd⟩
            replace hS4 := hS4.Drew hd
            clear hd
            have hrp := readP_one l HQ.out.2.2 (8 * bs.length) at_ ((bitsB bs).drop at_) (by omega) (by rw [List.length_drop, bitsB_length]; omega)
            go_wp2_with fail
            refine (read_any p _ l bs at_ (-1) 1 hS4 HC.out.1 (hr.rd hS4 1 rfl) (by omega) (by omega) hok (fun w' c' hx => hr.rd hx 1 rfl)).mono ?_
            rintro e w6 ⟨u6, c6, rfl, hr6, c7, n7, hrc7, hS7, _⟩
            rw [hrp] at hr6 ⊢
            replace hS7 := hS7.tl
            obtain ⟨ao6, cap6, rfl⟩ := hr6.shape
            have hle7 := hrc7
            obtain ⟨_, _, _, _, hle7⟩ := hle7
            obtain ⟨L7, hL7⟩ : ∃ L7, at_ + n7 + L7 = 8 * bs.length := ⟨8 * bs.length - (at_ + n7), by omega⟩
            clear hrp hS4 hr6
            go_wp2_with fail
            refine (left_n p bs _ L7 hL7 hS7 hrc7 (by omega)).mono ?_
            rintro e w8 ⟨rfl, hd⟩
            replace hS7 := hS7.Drew hd
            clear hd
            have q5 : ¬ L < L7 := by omega
            have q6 : ¬ (400 : Int) < (k : Int) := by omega
            go_wp2_with fail
            refine (left_n p bs _ L7 hL7 hS7 hrc7 (by omega)).mono ?_
            rintro e w9 ⟨rfl, hd⟩
            replace hS7 := hS7.Drew hd
            clear hd
            have HC7 := Lib.hid (And.intro hrc7 hS7)
            clear hrc7 hS7
            by_cases q7 : L7 = L
            · subst q7
              have hSt := (HC7.out.2).pick [1] (by decide) [c] rfl
              go_wp2_with fail
              refine (bits_any _ bs _ (hB.st hSt) (by omega)).mono ?_
              rintro e wa ⟨va, ca, rfl, hra, hSa⟩
              replace hSt := hSt.join hSa
              have hbb := bitsB_length bs
              rw [← hbb] at hra
              go_wp2_with fail
              refine (refread_any _ _ l (bitsB bs) 0 1000 wa (hr.rd hSt 1 rfl) (hra.rd hSt 0 rfl) (by omega) (by omega) hok).mono ?_
              rintro e wb ⟨ub, cb, rfl, hrb, hSb⟩
              replace hSt := (hSt.join hSb).pick [0, 2] (by decide) [cb, c] rfl
              go_wp2_with fail
              refine (bread_any _ bs (hB.st hSt) (by omega)).mono ?_
              rintro e wc ⟨pc, cc, rfl, hrcc, hSc⟩
              replace hSt := hSt.join hSc
              replace hSt : St w.heap.size w wc [cc, cb, c] := hSt
              go_wp2_with fail
              refine (read_any pc _ l bs 0 0 1000 hSt hrcc (hr.rd hSt 2 rfl) (by omega) (by omega) hok (fun w' c' hx => hr.rd hx 2 rfl)).mono ?_
              rintro e wd ⟨ud, cd, rfl, hrd, ce, ne, hrce, hSd, _⟩
              rw [List.drop_zero, Nat.zero_add, ← hbb] at *
              generalize readP l 0 1000 ((bitsB bs).length + 1) [] 0 (bitsB bs) = r at *
              obtain ⟨aob2, capb2, rfl⟩ := hrb.shape
              obtain ⟨aod, capd, rfl⟩ := hrd.shape
              have hS9 := hSd.pick [2, 0] (by decide) [cb, cd] rfl
              clear hSa hSb hSc hSt hbb hSd
              go_wp2_with fail
              refine (ints_any _ _ r.2.1 r.2.1 wd (hrb.rd hS9 0 rfl) (hrd.rd hS9 1 rfl)).mono ?_
              rintro e we ⟨rfl, hd⟩
              replace hS9 := hS9.Drew hd
              rw [show decide (r.2.1 = r.2.1) = true from by simp]
              go_wp2_with fail
              go_ret
              exact ⟨rfl, hS9.below⟩
            · have q8 : ((L7 : Int) == (L : Int)) = false := by rw [beq_eq_false_iff_ne]; omega
              go_wp2_with fail
              go_roundg m'
              case measure => omega
              case rel => exact ⟨k + 1, at_ + n7, c7, by go_num, by omega, by omega, HC7⟩
          · have HC7 := Lib.hid hS4
            clear hS4
            have hSt := (HC7.out).pick [1] (by decide) [c] rfl
            go_wp2_with fail
            refine (bits_any _ bs _ (hB.st hSt) (by omega)).mono ?_
            rintro e wa ⟨va, ca, rfl, hra, hSa⟩
            replace hSt := hSt.join hSa
            have hbb := bitsB_length bs
            rw [← hbb] at hra
            go_wp2_with fail
            refine (refread_any _ _ l (bitsB bs) 0 1000 wa (hr.rd hSt 1 rfl) (hra.rd hSt 0 rfl) (by omega) (by omega) hok).mono ?_
            rintro e wb ⟨ub, cb, rfl, hrb, hSb⟩
            replace hSt := (hSt.join hSb).pick [0, 2] (by decide) [cb, c] rfl
            go_wp2_with fail
            refine (bread_any _ bs (hB.st hSt) (by omega)).mono ?_
            rintro e wc ⟨pc, cc, rfl, hrcc, hSc⟩
            replace hSt := hSt.join hSc
            replace hSt : St w.heap.size w wc [cc, cb, c] := hSt
            go_wp2_with fail
            refine (read_any pc _ l bs 0 0 1000 hSt hrcc (hr.rd hSt 2 rfl) (by omega) (by omega) hok (fun w' c' hx => hr.rd hx 2 rfl)).mono ?_
            rintro e wd ⟨ud, cd, rfl, hrd, ce, ne, hrce, hSd, _⟩
            rw [List.drop_zero, Nat.zero_add, ← hbb] at *
            generalize readP l 0 1000 ((bitsB bs).length + 1) [] 0 (bitsB bs) = r at *
            obtain ⟨aob2, capb2, rfl⟩ := hrb.shape
            obtain ⟨aod, capd, rfl⟩ := hrd.shape
            have hS9 := hSd.pick [2, 0] (by decide) [cb, cd] rfl
            clear hSa hSb hSc hSt hbb hSd
            go_wp2_with fail
            refine (ints_any _ _ r.2.1 r.2.1 wd (hrb.rd hS9 0 rfl) (hrd.rd hS9 1 rfl)).mono ?_
            rintro e we ⟨rfl, hd⟩
            replace hS9 := hS9.Drew hd
            rw [show decide (r.2.1 = r.2.1) = true from by simp]
            go_wp2_with fail
            go_ret
            exact ⟨rfl, hS9.below⟩
    | succ m =>
      have q1 : (i : Int) < zs.length := by omega
      have q2 : (i : Int) < 20 := by omega
      have hlt : i < zs.length := by omega
      obtain ⟨x, hx⟩ : ∃ x, zs[i]? = some x := ⟨_, List.getElem?_eq_getElem hlt⟩
      obtain ⟨ad, rfl, hcell⟩ := (rd.st hS).at (iv_get zs i x hx)
      obtain ⟨t1, t2⟩ := tmod_small x l.length (by omega)
      clear hx
      generalize ht : x.tmod (l.length : Int) = t at *
      have HT := Lib.hid ht
      go_upto_if 45 with (fail)
      go_cut [8] (fun s8 wc => ∃ K : Nat, s8 = .int .i64 (K : Int) ∧ K < l.length ∧ wr = wc)
      case first =>
        by_cases q3 : t < 0
        · go_wp2_with fail
          go_meet
          case rel => exact ⟨(-t).toNat, by rw [Int.toNat_of_nonneg (by omega)], by omega, rfl⟩
        · go_wp2_with fail
          go_meet
          case rel => exact ⟨t.toNat, by rw [Int.toNat_of_nonneg (by omega)], by omega, rfl⟩
      case rest =>
        obtain ⟨K, rfl, hK, rfl⟩ := hcut
        clear t1 t2 HT
        obtain ⟨y, hy⟩ : ∃ y, l[K]? = some y := ⟨_, List.getElem?_eq_getElem hK⟩
        have hy0 := HQ.out.2.2.r y (List.mem_of_getElem? hy)
        have hl1 := hr.cellAt hS 0 rfl (iv_get l K y hy)
        have hf1 := hr.freeAt hS 0 rfl K
        have HY := Lib.hid hy
        clear hy
        by_cases q4 : y < 15
        · obtain ⟨c2, hr2, hS2⟩ := hr.store hS 0 rfl rfl K (.int .i64 (y + 1))
          have HS2 := Lib.hid (And.intro hr2 hS2)
          clear hr2 hS2
          go_wp2_with (at_builtin; (refine wpList_app1g 0 22 i0 (.int .i64 0) _ _ _ rfl rfl rfl rfl Try.underlying22 i0a i0b i0c i0d rfl HS2.out.2 rfl HS2.out.1 rfl ?_ ?_ ?_ ?_); (focus (simp; done)); (unfold maxLen; omega); omega; intro v2 c3 w3 hr3 hS3)
          go_roundg m
          case measure => omega
          case rel =>
            refine ⟨i + 1, by omega, by go_num, l.set K (y + 1) ++ [y + 1], c3, Lib.hid ⟨?_, hS3, HQ.out.2.2.step K y HY.out q4⟩, by simp; omega, by simp; omega⟩
            rw [iv_append, List.length_append, List.length_set]
            have e : iv (l.set K (y + 1)) = (iv l).set K (.int .i64 (y + 1)) := by simp [iv, List.map_set]
            rw [e]
            exact hr3
        · go_wp2_with fail
          go_roundg m
          case measure => omega
          case rel => exact ⟨i + 1, by omega, by go_num, l, c, HQ, by omega, by omega⟩
end Go.Proofs.Ytdgpbgdpdmikaaa

/-
  The walk of BitsOwn: what was read and what was told is nobody else's.
-/
import Derived.Test.YtfnmbfhlfblkhaaBitsBegun
import Derived.Test.YtfnmbfhlfblkhaaShort
set_option linter.unusedVariables false
set_option linter.unusedSimpArgs false
namespace Go.Proofs.Ytfnmbfhlfblkhaa
open Go.RowKit
set_option maxRecDepth 100000
set_option maxHeartbeats 1000000 in
theorem BitsOwn_walk (w : World) (v : Value) (bs0 : List UInt8) (h : Rd w 1 v bs0.length (bv bs0)) (sz : bs0.length ≤ 140737488351232) :
    Calls Try.prog 13 #[v] w fun e w' => e = .returned (.bool true) ∧ Below w.heap.size w w' := by
  obtain ⟨i0, i0a, i0b, i0c, i0d⟩ := info_parts infoU8
  go_enter Try.func13, Try.ntmps13
  go_wp2_with fail
  refine (begun1 _).mono ?_
  rintro e w1 ⟨rfl, hb⟩
  have hS := (St.init w).mono hb
  have hrd := h.keep hb
  clear hb h
  go_wp2_with fail
  refine (short_any v bs0 30 w1 hrd (by omega)).mono ?_
  rintro e w2 ⟨v2, rfl, hr2, rfl⟩
  clear hrd
  have hn : (bs0.take 30).length ≤ 30 := by simp; omega
  generalize bs0.take 30 = bs at *
  have hS0 := hS.one_nil
  clear hS
  go_wp2_with ((at_builtin; (refine wpList_app 0 24 i0 (.int .u8 0) _ _ rfl rfl rfl rfl Try.underlying24 i0a i0b i0c i0d rfl (by decide) hS0 rfl (RowC.nil 5 1) hr2 (bv_one bs) ?_ ?_ ?_); (unfold maxLen; omega); omega; intro v3 c3 w3 hr3 hS); simp only [Nat.zero_add, List.nil_append] at hr3; obtain ⟨ao3, cap3, rfl⟩ := hr3.shape)
  refine (bread_any _ bs (hr3.rd hS 0 rfl) (by omega)).mono ?_
  rintro e w4 ⟨p, c4, rfl, hrc, hs4⟩
  replace hS := (hS.join hs4).alloc (Obj.cells #[.slice none 0 0, .int .i64 0] 39 (0, 0))
  have hcw := wr_new w4.heap.size
  clear hs4 hr2 hS0
  go_wp2_with fail
  have hnl : (bs.length : Int) ≤ 30 := by omega
  go_loopg [6] bs.length (fun m s6 wr => ∃ i : Nat, i + m = bs.length ∧ s6 = .int .i64 (i : Int) ∧ ∃ cw, WrC w4.heap.size (bitsB (bs.take i)) cw ∧ St w.heap.size w wr [cw, c4, c3])
  case atStart => exact ⟨0, by omega, rfl, _, hcw, hS⟩
  case round =>
    clear hS hcw
    obtain ⟨i, hi, rfl, cw, hcw, hS⟩ := hrel
    cases gk with
    | succ m =>
      have hlt : i < bs.length := by omega
      obtain ⟨b, hb⟩ : ∃ b, bs[i]? = some b := ⟨_, List.getElem?_eq_getElem hlt⟩
      obtain ⟨ad, rfl, hcell⟩ := (hr3.rd hS 2 rfl).at (bv_get bs i b hb)
      have hb0 : (b.toNat : Int) ≤ 255 := by have := b.toNat_lt; omega
      have HB := Lib.hid hb
      clear hb
      go_wp2_with fail
      refine (put_any _ _ (b.toNat : Int) 8 hS hcw (by omega) (by omega) (by omega) (by omega) (by rw [bitsB_length, List.length_take]; omega)).mono ?_
      rintro e w5 ⟨rfl, cw, hcw, hS⟩
      have e1 : bitsB (bs.take i) ++ bitsOf (b.toNat : Int).toNat (8 : Int).toNat = bitsB (bs.take (i + 1)) := by rw [bitsB_take_succ _ _ _ HB.out]; rfl
      rw [e1] at hcw
      clear e1
      go_wp2_with fail
      go_roundg m
      case measure => omega
      case rel => exact ⟨i + 1, by omega, by go_num, cw, hcw, hS⟩
    | zero =>
      have e : i = bs.length := by omega
      subst e
      rw [List.take_length] at hcw
      clear hi
      go_wp2_with fail
      refine (wbytes_any _ _ hS hcw (by rw [bitsB_length]; omega)).mono ?_
      rintro e w5 ⟨v5, c5, cs, rfl, hr5, hs5, hl5, hp5⟩
      obtain rfl : cs = bs := packed_unique hp5 (packed_self bs) (by rw [hl5, bitsB_length]; omega)
      clear hl5 hp5
      replace hS := hS.join hs5
      clear hs5
      obtain ⟨ao5, cap5, rfl⟩ := hr5.shape
      go_wp2_with fail
      go_loopg [8] cs.length (fun m s8 wr => ∃ i : Nat, i + m = cs.length ∧ s8 = .int .i64 (i : Int) ∧ ∃ c3, RowC 5 1 (.slice ao3 cs.length cap3) cs.length (bv ((cs.take i).map (· + 1) ++ cs.drop i)) c3 ∧ St w.heap.size w wr [c5, cw, c4, c3])
      case atStart => exact ⟨0, by omega, rfl, c3, by simpa using hr3, hS⟩
      case round =>
        clear hS hr3
        obtain ⟨i, hi, rfl, c3, hr3, hS⟩ := hrel
        cases gk with
        | succ m =>
          have hlt : i < cs.length := by omega
          obtain ⟨b, hb⟩ : ∃ b, cs[i]? = some b := ⟨_, List.getElem?_eq_getElem hlt⟩
          obtain ⟨g, rfl⟩ := hr3.head (by omega)
          have hcell := hr3.cellAt hS 3 rfl (bv_get _ i b ((turn_at _ _ _).trans hb))
          have hfree := hr3.freeAt hS 3 rfl i
          have hb0 : (b.toNat : Int) ≤ 255 := by have := b.toNat_lt; omega
          have HB := Lib.hid hb
          clear hb
          go_wp2_with fail
          go_roundg m
          case measure => omega
          case rel =>
            obtain ⟨c3', hr3', hS'⟩ := hr3.store hS 3 rfl rfl i (.int .u8 ((b + 1 : UInt8).toNat : Int))
            rw [← bv_set, turn_next _ _ _ _ HB.out] at hr3'
            have e : ((b + 1 : UInt8).toNat : Int) = ((b.toNat : Int) + 1) % 256 := by rw [UInt8.toNat_add]; simp
            rw [e] at hS'
            refine ⟨i + 1, by omega, by go_num, c3', hr3', ?_⟩
            exact hS'
        | zero =>
          have e : i = cs.length := by omega
          subst e
          rw [List.take_length, List.drop_length, List.append_nil] at hr3
          clear hi
          go_wp2_with fail
          go_loopg [9] cs.length (fun m s9 wr => ∃ i : Nat, i + m = cs.length ∧ s9 = .int .i64 (i : Int) ∧ ∃ c5, (∃ zs : List UInt8, zs.length = cs.length ∧ RowC 5 1 (.slice ao5 cs.length cap5) cs.length (bv zs) c5) ∧ St w.heap.size w wr [c5, cw, c4, c3])
          case atStart => exact ⟨0, by omega, rfl, c5, ⟨cs, rfl, hr5⟩, hS⟩
          case round =>
            clear hS hr5
            obtain ⟨i, hi, rfl, c5, ⟨zs, hzs, hr5⟩, hS⟩ := hrel
            have HZ := Lib.hid hzs
            clear hzs
            cases gk with
            | succ m =>
              have hlt : i < cs.length := by omega
              obtain ⟨b, hb⟩ : ∃ b, zs[i]? = some b := ⟨_, List.getElem?_eq_getElem (by have := HZ.out; omega)⟩
              obtain ⟨g, rfl⟩ := hr5.head (by omega)
              have hcell := hr5.cellAt hS 0 rfl (bv_get _ i b hb)
              have hfree := hr5.freeAt hS 0 rfl i
              have hb0 : (b.toNat : Int) ≤ 255 := by have := b.toNat_lt; omega
              clear hb
              go_wp2_with fail
              go_roundg m
              case measure => omega
              case rel =>
                obtain ⟨c5', hr5', hS'⟩ := hr5.store hS 0 rfl rfl i (.int .u8 ((b + 1 : UInt8).toNat : Int))
                rw [← bv_set] at hr5'
                have e : ((b + 1 : UInt8).toNat : Int) = ((b.toNat : Int) + 1) % 256 := by rw [UInt8.toNat_add]; simp
                rw [e] at hS'
                exact ⟨i + 1, by omega, by go_num, c5', ⟨_, by rw [List.length_set]; exact HZ.out, hr5'⟩, hS'⟩
            | zero =>
              obtain rfl : i = cs.length := by omega
              clear hi
              go_wp2_with fail
              replace hS := hS.pick [1, 0, 2, 3] (by decide) [_, _, _, _] rfl
              refine (wbytes_any _ _ hS hcw (by rw [bitsB_length]; omega)).mono ?_
              rintro e w6 ⟨v6, c6, ds, rfl, hr6, hs6, hl6, hp6⟩
              obtain rfl : ds = cs := packed_unique hp6 (packed_self cs) (by rw [hl6, bitsB_length]; omega)
              clear hl6 hp6
              replace hS := (hS.join hs6).pick [3, 0, 4] (by decide) [c4, c6, c3] rfl
              clear hs6
              obtain ⟨ao6, cap6, rfl⟩ := hr6.shape
              go_wp2_with fail
              go_loopg [11] ds.length (fun m s11 wr => ∃ i : Nat, i + m = ds.length ∧ s11 = .int .i64 (i : Int) ∧ ∃ c4, RdC p ds (8 * i) c4 ∧ St w.heap.size w wr [c4, c6, c3])
              case atStart => exact ⟨0, by omega, rfl, c4, hrc, hS⟩
              case round =>
                clear hS hrc
                obtain ⟨i, hi, rfl, c4, hrc, hS⟩ := hrel
                cases gk with
                | zero =>
                  obtain rfl : i = ds.length := by omega
                  clear hi
                  go_wp2_with fail
                  go_ret
                  exact ⟨by simp, hS.below⟩
                | succ m =>
                  have hlt : i < ds.length := by omega
                  obtain ⟨b, hb⟩ : ∃ b, ds[i]? = some b := ⟨_, List.getElem?_eq_getElem hlt⟩
                  obtain ⟨g, rfl⟩ := hr3.head (by omega)
                  obtain ⟨g6, rfl⟩ := hr6.head (by omega)
                  have hx := valOf_byte ds i b hb
                  have HX := Lib.hid hx
                  have HB := Lib.hid hb
                  have hb0 : (b.toNat : Int) ≤ 255 := by have := b.toNat_lt; omega
                  have hc1 : ((b + 1 : UInt8).toNat : Int) ≤ 255 := by have := (b + 1 : UInt8).toNat_lt; omega
                  have hsub : (((b + 1 : UInt8).toNat : Int) - 1) % 256 = (b.toNat : Int) := by rw [UInt8.toNat_add]; simp; omega
                  clear hx hb
                  go_wp2_with fail
                  refine (get_any p ds (8 * i) 8 hS hrc (by omega) (by omega) (by omega) (by omega)).mono ?_
                  rintro e w7 ⟨rfl, c4, hrc, hS⟩
                  have e1 : (valOf (((bitsB ds).drop (8 * i)).take (8 : Int).toNat) : Int) = (b.toNat : Int) := by
                    rw [show (8 : Int).toNat = 8 from rfl, HX.out]
                  rw [e1]
                  clear e1
                  have hcell := hr3.cellAt hS 2 rfl (bv_get _ i (b + 1) (by rw [List.getElem?_map, HB.out]; rfl))
                  have hcell6 := hr6.cellAt hS 1 rfl (bv_get _ i b HB.out)
                  generalize ((b + 1 : UInt8).toNat : Int) = y at *
                  go_wp2_with (first | ((with_reducible refine wpStill_plain ?_ ?_ (fun _ _ => ?_)); rfl; rfl) | ((with_reducible refine wpStill_want ?_ ?_ (fun _ _ => ?_)); rfl; rfl) | ((with_reducible refine wpStill_skip ?_ ?_); rfl) | (with_reducible refine wpStill_nil ?_) | ((with_reducible refine wp_draw_all (id := 25) mixed ?_ (fun _ _ => ?_)); kernel_rfl))
                  go_roundg m
                  case measure => omega
                  case rel => exact ⟨i + 1, by omega, by go_num, c4, by rw [show 8 * (i + 1) = 8 * i + (8 : Int).toNat from rfl]; exact hrc, hS.drew⟩
end Go.Proofs.Ytfnmbfhlfblkhaa

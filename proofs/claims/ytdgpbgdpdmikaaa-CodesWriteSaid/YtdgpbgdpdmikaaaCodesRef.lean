/-
  Contracts of the reference's Kraft, Codes.
-/
import Derived.Test.YtdgpbgdpdmikaaaCodesB
set_option linter.unusedVariables false
set_option linter.unusedSimpArgs false
namespace Go.Proofs.Ytdgpbgdpdmikaaa
open Go.RowKit
set_option maxRecDepth 100000
theorem kraft_step (r p : Nat) (h : r ≤ 16384000000) (hp : p ≤ 2 ^ 14) : Value.int .i64 (wrap64 ((r : Int) + wrap64 (p : Int))) = .int .i64 (((r + p : Nat) : Int)) := by
  rw [IntWalk.wrap64_in (p : Int) (by omega), IntWalk.wrap64_in _ (by omega)]
  congr 1
set_option maxHeartbeats 1000000 in
theorem refkraft_any (v : Value) (l : List Int) (w : World) (h : Rd w 1 v l.length (iv l)) (hn : l.length ≤ 1000000) :
    Calls Try.prog 33 #[v] w fun e w' => e = .returned (.int .i64 (kraftP l : Int)) ∧ w = w' := by
  obtain ⟨ao, cap, rfl⟩ := h.shape
  have hnl : (l.length : Int) ≤ 1000000 := by omega
  go_enter Try.func33, Try.ntmps33
  go_wp2_with fail
  go_loopg [3, 4] l.length (fun m s3 s4 wr => ∃ i : Nat, i + m = l.length ∧ s4 = .int .i64 (i : Int) ∧ s3 = .int .i64 (kraftP (l.take i) : Int) ∧ w = wr)
  case atStart => exact ⟨0, by omega, rfl, rfl, rfl⟩
  case round =>
    obtain ⟨i, hi, rfl, rfl, rfl⟩ := hrel
    cases gk with
    | zero =>
      obtain rfl : i = l.length := by omega
      clear hi
      rw [List.take_length] at *
      go_wp2_with fail
      go_ret
      exact ⟨rfl, rfl⟩
    | succ m =>
      have hlt : i < l.length := by omega
      obtain ⟨k, hk⟩ : ∃ k, l[i]? = some k := ⟨_, List.getElem?_eq_getElem hlt⟩
      obtain ⟨ad, rfl, hcell⟩ := h.at (iv_get l i k hk)
      have hkr := kraftP_take_succ l i k hk
      have hkl := kraftP_le (l.take i)
      have hll : (l.take i).length ≤ 1000000 := by rw [List.length_take]; omega
      have hkr16 : kraftP (l.take i) ≤ 16384000000 := by omega
      have HKR := Lib.hid hkr
      clear hkr hk hkl hll
      by_cases q1 : 1 ≤ k
      · by_cases q2 : k ≤ 15
        · obtain ⟨K, rfl⟩ := Int.eq_ofNat_of_zero_le (show 0 ≤ k by omega)
          have hK : 1 ≤ K := by omega
          have hp : 2 ^ (15 - K) ≤ 2 ^ 14 := Nat.pow_le_pow_right (by omega) (by omega)
          have HP := Lib.hid hp
          clear hp
          go_wp2_with fail
          go_roundg m
          case measure => omega
          case rel =>
            refine ⟨i + 1, by omega, by go_num, ?_, rfl⟩
            have e2 := HKR.out
            rw [if_pos ⟨q1, q2⟩, Int.toNat_natCast] at e2
            have e1 : ((2 : Int) ^ (15 - K)) = ((2 ^ (15 - K) : Nat) : Int) := by simp
            rw [e1, e2]
            exact kraft_step _ _ hkr16 HP.out
        · go_wp2_with fail
          go_roundg m
          case measure => omega
          case rel => exact ⟨i + 1, by omega, by go_num, by rw [HKR.out, if_neg (by omega)]; rfl, rfl⟩
      · go_wp2_with fail
        go_roundg m
        case measure => omega
        case rel => exact ⟨i + 1, by omega, by go_num, by rw [HKR.out, if_neg (by omega)]; rfl, rfl⟩
theorem infoU32 : (Try.prog.info? 32).map (fun i => (i.zero, i.size, i.bytes)) = some (some (.int .u32 0), 1, 4) := by kernel_rfl
/-- The reference's codes, as cells. -/
def codeU (l : List Int) (s : Nat) : Nat := if 0 < l.getD s 0 then codeP l s else 0
def uv (f : Nat → Nat) (n : Nat) : List Value := (List.range n).map fun s => .int .u32 (f s : Int)
theorem uv_length (f : Nat → Nat) (n : Nat) : (uv f n).length = n := by simp [uv]
theorem uv_get (f : Nat → Nat) (n i : Nat) (h : i < n) : (uv f n)[i]? = some (.int .u32 (f i : Int)) := by simp [uv, h]
theorem uv_set (f : Nat → Nat) (n i v : Nat) : (uv f n).set i (.int .u32 (v : Int)) = uv (fun s => if s = i then v else f s) n := by
  apply List.ext_getElem?
  intro j
  rw [List.getElem?_set, uv_length]
  by_cases hj : j < n
  · rw [uv_get _ _ _ hj, uv_get _ _ _ hj]
    by_cases e : i = j
    · subst e; simp [hj]
    · have e' : ¬ j = i := fun x => e x.symm
      simp [e, e']
  · rw [List.getElem?_eq_none (by rw [uv_length]; omega), List.getElem?_eq_none (by rw [uv_length]; omega)]
    by_cases e : i = j
    · subst e; simp [hj]
    · simp [e]
theorem uv_congr (f g : Nat → Nat) (n : Nat) (h : ∀ i, i < n → f i = g i) : uv f n = uv g n := by
  unfold uv
  apply List.map_congr_left
  intro i hi
  rw [h i (by simpa using hi)]
/-- What stands when lengths below k are done, and of length k the symbols below i. -/
def codeTo (l : List Int) (k i s : Nat) : Nat := if 0 < l.getD s 0 ∧ (l.getD s 0 < (k : Int) ∨ l.getD s 0 = (k : Int) ∧ s < i) then codeP l s else 0
theorem codeTo_hit (l : List Int) (k i : Nat) (hk : 1 ≤ k) (h : l[i]? = some (k : Int)) (n : Nat) : uv (fun s => if s = i then codeP l i else codeTo l k i s) n = uv (codeTo l k (i + 1)) n := by
  apply uv_congr
  intro s hs
  have hd : l.getD i 0 = (k : Int) := by rw [List.getD_eq_getElem?_getD, h]; rfl
  unfold codeTo
  by_cases e : s = i
  · subst e
    rw [if_pos rfl, if_pos (by omega)]
  · rw [if_neg e]
    congr 1
    rw [eq_iff_iff]
    omega
theorem codeTo_miss (l : List Int) (k i : Nat) (x : Int) (h : l[i]? = some x) (hx : x ≠ (k : Int)) (n : Nat) : uv (codeTo l k i) n = uv (codeTo l k (i + 1)) n := by
  apply uv_congr
  intro s hs
  have hd : l.getD i 0 = x := by rw [List.getD_eq_getElem?_getD, h]; rfl
  unfold codeTo
  congr 1
  rw [eq_iff_iff]
  by_cases e : s = i
  · subst e; omega
  · omega
theorem codeTo_next (l : List Int) (k : Nat) : uv (codeTo l k l.length) l.length = uv (codeTo l (k + 1) 0) l.length := by
  apply uv_congr
  intro s hs
  unfold codeTo
  congr 1
  rw [eq_iff_iff]
  omega
theorem codeTo_all (l : List Int) (h : ∀ k ∈ l, 0 ≤ k ∧ k ≤ 15) : uv (codeTo l 16 0) l.length = uv (codeU l) l.length := by
  apply uv_congr
  intro s hs
  have := h l[s] (List.getElem_mem _)
  unfold codeTo codeU
  have hd : l.getD s 0 = l[s] := by rw [List.getD_eq_getElem?_getD, List.getElem?_eq_getElem hs]; rfl
  congr 1
  rw [eq_iff_iff]
  omega
theorem codeTo_none (l : List Int) : uv (codeTo l 1 0) l.length = List.replicate l.length (.int .u32 0) := by
  unfold uv
  rw [List.eq_replicate_iff]
  refine ⟨by simp, ?_⟩
  intro v hv
  obtain ⟨s, _, rfl⟩ := List.mem_map.1 hv
  unfold codeTo
  rw [if_neg (by omega)]
  rfl
theorem refcodes_bad (v : Value) (l : List Int) (w : World) (h : Rd w 1 v l.length (iv l)) (hn : l.length ≤ 1000000) (hb : okLens l = false) :
    Calls Try.prog 18 #[v] w fun e w' => e = .returned (.tuple #[.slice none 0 0, .bool false]) ∧ w = w' := by
  obtain ⟨ao, cap, rfl⟩ := h.shape
  have hnl : (l.length : Int) ≤ 1000000 := by omega
  by_cases q1 : (300 : Int) < (l.length : Int)
  · clear hb
    go_enter Try.func18, Try.ntmps18
    go_wp2_with fail
    go_ret2
    exact ⟨rfl, rfl⟩
  by_cases q2 : (32768 : Int) < (kraftP l : Int)
  · clear hb
    go_enter Try.func18, Try.ntmps18
    go_wp2_with fail
    refine (refkraft_any _ l w h hn).mono ?_
    rintro e w1 ⟨rfl, rfl⟩
    go_wp2_with fail
    go_ret2
    exact ⟨rfl, rfl⟩
  have hex : ¬ ∀ k ∈ l, 0 ≤ k ∧ k ≤ 15 := by
    intro hall
    have := (okLens_iff l).2 ⟨by omega, by omega, hall⟩
    rw [this] at hb
    cases hb
  have HEX := Lib.hid hex
  clear hb hex
  go_enter Try.func18, Try.ntmps18
  go_wp2_with fail
  refine (refkraft_any _ l w h hn).mono ?_
  rintro e w1 ⟨rfl, rfl⟩
  go_wp2_with fail
  go_loopg [4] l.length (fun m s4 wr => ∃ i : Nat, i + m = l.length ∧ s4 = .int .i64 (i : Int) ∧ Hid (∀ k ∈ l.take i, 0 ≤ k ∧ k ≤ 15) ∧ w = wr)
  case atStart => exact ⟨0, by omega, rfl, Lib.hid (by simp), rfl⟩
  case round =>
    obtain ⟨i, hi, rfl, HA, rfl⟩ := hrel
    cases gk with
    | zero =>
      exfalso
      obtain rfl : i = l.length := by omega
      have := HA.out
      rw [List.take_length] at this
      exact HEX.out this
    | succ m =>
      have hlt : i < l.length := by omega
      obtain ⟨k, hk⟩ : ∃ k, l[i]? = some k := ⟨_, List.getElem?_eq_getElem hlt⟩
      obtain ⟨ad, rfl, hcell⟩ := h.at (iv_get l i k hk)
      have htk : l.take (i + 1) = l.take i ++ [k] := by rw [List.take_add_one, hk]; rfl
      have HT := Lib.hid htk
      clear hk htk
      by_cases q3 : k < 0
      · go_wp2_with fail
        go_ret2
        exact ⟨rfl, rfl⟩
      by_cases q4 : 15 < k
      · go_wp2_with fail
        go_ret2
        exact ⟨rfl, rfl⟩
      go_wp2_with fail
      go_roundg m
      case measure => omega
      case rel =>
        refine ⟨i + 1, by omega, by go_num, Lib.hid ?_, rfl⟩
        rw [HT.out]
        intro x hx
        rcases List.mem_append.1 hx with hx | hx
        · exact HA.out x hx
        · rw [List.mem_singleton.1 hx]; omega
def RefCodesOut (l : List Int) (w : World) (e : Ending) (w' : World) : Prop := ∃ u c, e = .returned (.tuple #[u, .bool true]) ∧ RowC 32 1 u l.length (uv (codeU l) l.length) c ∧ St w.heap.size w w' [c]
theorem count_take_succ (l : List Int) (i : Nat) (x z : Int) (h : l[i]? = some x) : (l.take (i + 1)).count z = (l.take i).count z + (if x = z then 1 else 0) := by
  rw [List.take_add_one, h, List.count_append]
  by_cases e : x = z <;> simp [e]
set_option maxHeartbeats 2000000 in
theorem refcodes_ok (v : Value) (l : List Int) (w : World) (h : Rd w 1 v l.length (iv l)) (hn : l.length ≤ 300) (hok : okLens l = true) :
    Calls Try.prog 18 #[v] w (RefCodesOut l w) := by
  obtain ⟨i0, i0a, i0b, i0c, i0d⟩ := info_parts infoU32
  have hok2 := (okLens_iff l).1 hok
  have hkr := hok2.2.1
  have HALL := Lib.hid hok2.2.2
  obtain ⟨ao, cap, rfl⟩ := h.shape
  have hnl : (l.length : Int) ≤ 300 := by omega
  have hk2 : (kraftP l : Int) ≤ 32768 := by omega
  clear hok hok2
  go_enter Try.func18, Try.ntmps18
  go_wp2_with fail
  refine (refkraft_any _ l w h (by omega)).mono ?_
  rintro e w1 ⟨rfl, rfl⟩
  go_wp2_with fail
  go_loopg [4] l.length (fun m s4 wr => ∃ i : Nat, i + m = l.length ∧ s4 = .int .i64 (i : Int) ∧ w = wr)
  case atStart => exact ⟨0, by omega, rfl, rfl⟩
  case round =>
    obtain ⟨i, hi, rfl, rfl⟩ := hrel
    cases gk with
    | zero =>
      obtain rfl : i = l.length := by omega
      clear hi
      have hS := St.init w
      go_wp2_with (at_make; (refine wpList_mk (n := l.length) 29 i0 (.int .u32 0) _ _ rfl rfl _ _ _ _ rfl rfl Try.underlying29 i0a i0b i0c i0d rfl ?_ ?_ ?_ ?_ hS ?_); omega; omega; omega; (unfold maxLen; omega); intro g c w1 hr hS1)
      have e0 := codeTo_none l
      rw [← e0] at hr
      clear hS e0
      go_loopg [6, 7] 15 (fun m s6 s7 wr => ∃ k : Nat, k + m = 15 ∧ s7 = .int .i64 ((k : Int) + 1) ∧ s6 = .int .u32 (endP l k : Int) ∧ ∃ c, RowC 32 1 (.slice (some ⟨g, 0, none⟩) l.length l.length) l.length (uv (codeTo l (k + 1) 0) l.length) c ∧ St w.heap.size w wr [c])
      case atStart => exact ⟨0, by omega, rfl, rfl, c, hr, hS1⟩
      case round =>
        clear hr hS1
        obtain ⟨k, hk, rfl, rfl, c, hr, hS⟩ := hrel
        cases gk with
        | zero =>
          obtain rfl : k = 15 := by omega
          rw [codeTo_all l HALL.out] at hr
          go_wp2_with fail
          go_ret2
          exact ⟨_, c, rfl, hr, hS⟩
        | succ m =>
          have hk15 : k < 15 := by omega
          have hk15' : (k : Int) + 1 ≤ 15 := by omega
          have hsm := fstP_small l hkr k (by omega)
          have hsm2 := fstP_small l hkr (k + 1) (by omega)
          have hfs := fstP_succ l k
          have b1 : (endP l k : Int) ≤ 32768 := by omega
          have HF := Lib.hid hfs
          clear hfs
          go_wp2_with fail
          go_loopg [6, 8] l.length (fun m s6 s8 wr => ∃ i : Nat, i + m = l.length ∧ s8 = .int .i64 (i : Int) ∧ s6 = .int .u32 ((fstP l (k + 1) + (l.take i).count ((k + 1 : Nat) : Int) : Nat) : Int) ∧ ∃ c, RowC 32 1 (.slice (some ⟨g, 0, none⟩) l.length l.length) l.length (uv (codeTo l (k + 1) i) l.length) c ∧ St w.heap.size w wr [c])
          case atStart =>
            refine ⟨0, by omega, rfl, ?_, c, hr, hS⟩
            rw [HF.out]
            simp
            omega
          case round =>
            clear hr hS
            obtain ⟨i, hi, rfl, rfl, c, hr, hS⟩ := hrel
            cases gk with
            | zero =>
              obtain rfl : i = l.length := by omega
              rw [List.take_length] at *
              rw [codeTo_next] at hr
              have hend : endP l (k + 1) = fstP l (k + 1) + l.count ((k + 1 : Nat) : Int) := by unfold endP cntP; rw [if_neg (by omega)]
              have HE := Lib.hid hend
              clear hend
              go_wp2_with fail
              go_roundg m
              case measure => omega
              case rel => exact ⟨k + 1, by omega, by go_num, by rw [HE.out], c, hr, hS⟩
            | succ j =>
              have hlt : i < l.length := by omega
              obtain ⟨x, hx⟩ : ∃ x, l[i]? = some x := ⟨_, List.getElem?_eq_getElem hlt⟩
              obtain ⟨ad, rfl, hcell⟩ := (h.st hS).at (iv_get l i x hx)
              have hcn : (l.take i).count ((k + 1 : Nat) : Int) ≤ 300 := Nat.le_trans List.count_le_length (by rw [List.length_take]; omega)
              have hcs := count_take_succ l i x ((k + 1 : Nat) : Int) hx
              have HC := Lib.hid hcs
              have HX := Lib.hid hx
              have b2 : ((fstP l (k + 1) + (l.take i).count ((k + 1 : Nat) : Int) : Nat) : Int) ≤ 40000 := by omega
              clear hcs hx
              by_cases q : x = ((k + 1 : Nat) : Int)
              · subst q
                have hcode := codeP_eq l i (k + 1) HX.out
                have HCo := Lib.hid hcode
                have hl1 := hr.cellAt hS 0 rfl (uv_get (codeTo l (k + 1) i) l.length i hlt)
                have hf1 := hr.freeAt hS 0 rfl i
                clear hcode
                generalize hN : fstP l (k + 1) + (l.take i).count ((k + 1 : Nat) : Int) = N at *
                have HN := Lib.hid hN
                clear hN hcn hsm2
                go_wp2_with fail
                go_roundg j
                case measure => omega
                case rel =>
                  obtain ⟨c2, hr2, hS2⟩ := hr.store hS 0 rfl rfl i (.int .u32 (N : Int))
                  rw [uv_set, ← HCo.out, codeTo_hit l (k + 1) i (by omega) HX.out] at hr2
                  refine ⟨i + 1, by omega, by go_num, ?_, c2, hr2, hS2⟩
                  have h1 := HC.out
                  have h2 := HN.out
                  simp only [if_true] at h1
                  rw [h1, ← Nat.add_assoc, h2]
                  simp
              · have q' : (x == ((k + 1 : Nat) : Int)) = false := by simpa using q
                have q2 : (x == (k : Int) + 1) = false := by simpa using q
                go_wp2_with fail
                go_roundg j
                case measure => omega
                case rel =>
                  rw [codeTo_miss l (k + 1) i x HX.out q] at hr
                  have h1 : (l.take (i + 1)).count ((k + 1 : Nat) : Int) = (l.take i).count ((k + 1 : Nat) : Int) := by
                    have := count_take_succ l i x ((k + 1 : Nat) : Int) HX.out
                    rw [if_neg q] at this
                    exact this
                  exact ⟨i + 1, by omega, by go_num, by rw [h1], c, hr, hS⟩
    | succ m =>
      have hlt : i < l.length := by omega
      obtain ⟨k, hk⟩ : ∃ k, l[i]? = some k := ⟨_, List.getElem?_eq_getElem hlt⟩
      obtain ⟨ad, rfl, hcell⟩ := h.at (iv_get l i k hk)
      obtain ⟨q1, q2⟩ := HALL.out k (List.mem_of_getElem? hk)
      clear hk
      go_wp2_with fail
      go_roundg m
      case measure => omega
      case rel => exact ⟨i + 1, by omega, by go_num, rfl⟩
end Go.Proofs.Ytdgpbgdpdmikaaa

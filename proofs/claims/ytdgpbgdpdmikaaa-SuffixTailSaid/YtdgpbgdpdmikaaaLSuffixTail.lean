/-
  The walk of SuffixTail.
-/
import Derived.Test.YtdgpbgdpdmikaaaSufBegun
set_option linter.unusedVariables false
set_option linter.unusedSimpArgs false
namespace Go.Proofs.Ytdgpbgdpdmikaaa
open Go.RowKit
set_option maxRecDepth 100000
theorem tail_last (cs : List UInt8) (n : Nat) (hn : cs.length = n) (h : ∀ (j : Nat) (x : UInt8), cs[j]? = some x → x.toNat < 255) (T : List Nat) (hT : IsSA (nb (cs ++ [255])) T) : ch T n = n := by
  have hl : (nb (cs ++ [255])).length = n + 1 := by rw [nb_length, List.length_append, hn]; rfl
  have hlast : ch (nb (cs ++ [255])) n = 255 := by
    rw [nb_at _ n 255 (by rw [List.getElem?_append_right (by omega), hn, Nat.sub_self]; rfl)]
    rfl
  have hless : ∀ a, a < n → rk T a < rk T n := by
    intro a ha
    refine hT.rk_less (by omega) (by omega) ?_
    have hx : (cs ++ [255])[a]? = some cs[a] := by rw [List.getElem?_append_left (by omega)]; exact List.getElem?_eq_getElem (by omega)
    rw [drop_ch _ a (by omega), drop_ch _ n (by omega), lexlt_cons, hlast, nb_at _ a _ hx]
    exact .inl (h a _ (List.getElem?_eq_getElem (by omega)))
  have h1 := hT.rk_lt (p := n) (by omega)
  have h2 : rk T n = n := by
    rcases Nat.lt_or_ge (rk T n) n with h3 | h3
    · have hb := ch_some T n (by rw [hT.len, hl]; omega)
      have hbl := hT.lt hb
      have hr := hT.rk_of hb
      rcases Nat.lt_or_ge (ch T n) n with h4 | h4
      · have := hless _ h4
        omega
      · have : ch T n = n := by omega
        rw [this] at hr
        omega
    · omega
  have h3 := hT.rk_get (p := n) (by omega)
  rw [h2] at h3
  exact ch_get h3
set_option maxHeartbeats 2000000 in
theorem SuffixTail_walk (w : World) (v : Value) (bs0 : List UInt8) (h : Rd w 1 v bs0.length (bv bs0)) (sz : bs0.length ≤ 140737488351232) :
    Calls Try.prog 12 #[v] w fun e w' => e = .returned (.bool true) ∧ Below w.heap.size w w' := by
  obtain ⟨i0, i0a, i0b, i0c, i0d⟩ := info_parts infoU8
  go_enter Try.func12, Try.ntmps12
  go_wp2_with fail
  refine (begun8 _).mono ?_
  rintro e w1 ⟨rfl, hbel⟩
  have hS := (St.init w).mono hbel
  have hr := h.keep hbel
  clear hbel h
  go_wp2_with fail
  refine (short_any v bs0 200 w1 hr (by omega)).mono ?_
  rintro e w2 ⟨v', rfl, hr', rfl⟩
  clear hr
  have hna : (bs0.take 200).length ≤ 200 := by simp; omega
  generalize bs0.take 200 = a at *
  clear sz
  obtain ⟨n, hn⟩ : ∃ n, n = a.length := ⟨_, rfl⟩
  rw [← hn] at hna hr'
  have HN := Lib.hid hn
  clear hn
  have hS0 := hS.one_nil
  obtain ⟨aoa, capa, rfl⟩ := hr'.shape
  have hni : (n : Int) ≤ 200 := by omega
  go_wp2_with (at_builtin; (refine wpList_app 0 37 i0 (.int .u8 0) _ _ rfl rfl rfl rfl Try.underlying37 i0a i0b i0c i0d rfl (by decide) hS0 rfl (RowC.nil 5 1) hr' (bv_one a) ?_ ?_ ?_); (unfold maxLen; omega); omega; intro v1 c1 w2 hr1 hS1)
  simp only [Nat.zero_add, List.nil_append] at hr1
  replace hS1 : St w.heap.size w w2 [c1] := hS1
  obtain ⟨ao1, cap1, rfl⟩ := hr1.shape
  have HQ : Hid (a.length = n ∧ (∀ (j : Nat) (x : UInt8), j < 0 → a[j]? = some x → x.toNat < 255) ∧ RowC 5 1 (.slice ao1 n cap1) n (bv a) c1 ∧ St w.heap.size w w2 [c1]) := Lib.hid ⟨HN.out.symm, fun j x h => by omega, hr1, hS1⟩
  clear hr1 hS1 hr' hS hS0 HN
  go_wp2_with fail
  go_loopg [5] n (fun m s5 wr => ∃ i : Nat, i + m = n ∧ s5 = .int .i64 (i : Int) ∧ ∃ cs c1, Hid (cs.length = n ∧ (∀ (j : Nat) (x : UInt8), j < i → cs[j]? = some x → x.toNat < 255) ∧ RowC 5 1 (.slice ao1 n cap1) n (bv cs) c1 ∧ St w.heap.size w wr [c1]))
  case atStart => exact ⟨0, by omega, rfl, a, c1, HQ⟩
  case round =>
    clear HQ
    obtain ⟨i, hi, rfl, cs, c1, HQ⟩ := hrel
    have hr := HQ.out.2.2.1
    have hS := HQ.out.2.2.2
    cases gk with
    | succ m =>
      have hlt : i < n := by omega
      have hil : (i : Int) < (n : Int) := by omega
      obtain ⟨g1, rfl⟩ := hr.head (by omega)
      obtain ⟨x, hx⟩ : ∃ x, cs[i]? = some x := ⟨_, List.getElem?_eq_getElem (by rw [HQ.out.1]; exact hlt)⟩
      have hl := hr.cellAt hS 0 rfl (bv_get _ i x hx)
      have hf := hr.freeAt hS 0 rfl i
      have hx3 := x.toNat_lt
      have HX := Lib.hid hx
      clear hx
      by_cases q : x.toNat = 255
      · have q1 : ((x.toNat : Int) == 255) = true := by simp; omega
        clear q
        go_wp2_with fail
        go_roundg m
        case measure => omega
        case rel =>
          obtain ⟨c', hr', hS'⟩ := hr.store hS 0 rfl rfl i (.int .u8 254)
          rw [show Value.int .u8 254 = .int .u8 (((254 : UInt8).toNat : Nat) : Int) from rfl, ← bv_set] at hr'
          refine ⟨i + 1, by omega, by go_num, cs.set i 254, c', Lib.hid ⟨by rw [List.length_set]; exact HQ.out.1, ?_, hr', hS'⟩⟩
          intro j y hj hy
          by_cases e : j = i
          · subst e
            rw [List.getElem?_set_self (by rw [HQ.out.1]; exact hlt)] at hy
            cases hy
            decide
          · rw [List.getElem?_set_ne (by omega)] at hy
            exact HQ.out.2.1 j y (by omega) hy
      · have q1 : ((x.toNat : Int) == 255) = false := by simp; omega
        have q2 : x.toNat < 255 := by omega
        clear q
        go_wp2_with fail
        go_roundg m
        case measure => omega
        case rel =>
          refine ⟨i + 1, by omega, by go_num, cs, c1, Lib.hid ⟨HQ.out.1, ?_, hr, hS⟩⟩
          intro j y hj hy
          by_cases e : j = i
          · subst e
            rw [HX.out] at hy
            cases hy
            exact q2
          · exact HQ.out.2.1 j y (by omega) hy
    | zero =>
      obtain rfl : i = n := by omega
      have hcs : ∀ (j : Nat) (x : UInt8), cs[j]? = some x → x.toNat < 255 := fun j x hx => HQ.out.2.1 j x (by have := (List.getElem?_eq_some_iff.1 hx).1; have := HQ.out.1; omega) hx
      have HC := Lib.hid (And.intro hcs HQ.out.1)
      have hrr := hr.rd hS 0 rfl
      have hS0 := hS.one_nil
      clear hcs HQ hi
      go_wp2_with (first | (at_builtin; (refine wpList_app 0 37 i0 (.int .u8 0) _ _ rfl rfl rfl rfl Try.underlying37 i0a i0b i0c i0d rfl (by decide) hS0 rfl (RowC.nil 5 1) hrr (bv_one cs) ?_ ?_ ?_); (unfold maxLen; omega); omega; intro v2 c2 w3 hr2 hS2) | (at_builtin; (refine wpList_app1 0 37 i0 (.int .u8 0) _ _ _ rfl rfl rfl rfl Try.underlying37 i0a i0b i0c i0d rfl hS2 rfl hr2 rfl ?_ ?_ ?_); (unfold maxLen; omega); omega; intro v3 c3 w4 hr3 hS3))
      simp only [Nat.zero_add, List.nil_append] at hr3
      have hl : (cs ++ [255]).length = i + 1 := by rw [List.length_append, HC.out.2]; rfl
      rw [show bv cs ++ [Value.int .u8 255] = bv (cs ++ [255]) from by simp [bv]] at hr3
      replace hS3 : St w.heap.size w w4 [c3, c1] := hS3
      have HR3 := Lib.hid (And.intro hl (And.intro hr3 hS3))
      clear hl hr2 hS2 hS0 hrr hS hr
      obtain ⟨ao3, cap3, rfl⟩ := hr3.shape
      clear hr3 hS3
      go_wp2_with fail
      refine (sort_any (cs ++ [255]) _ w4 (by rw [HR3.out.1]; omega) (by rw [HR3.out.1]; exact HR3.out.2.1.rd HR3.out.2.2 0 rfl)).mono ?_
      rintro e w5 ⟨v5, T, c5, rfl, hrT, hTl, hS5, hsa⟩
      have hti := tail_last cs i HC.out.2 HC.out.1 T hsa
      rw [HR3.out.1] at hrT hTl
      have hS6 := HR3.out.2.2.join hS5
      obtain ⟨g5, cap5, _, rfl, _⟩ := hrT.form (by omega)
      have hc := hrT.cellAt hS6 0 rfl (iv_get _ i _ (tI_get T i (by omega)))
      rw [hti] at hc
      have HB := Lib.hid hS6.below
      clear hti hTl hrT hS5 hS6 hsa
      go_wp2_with fail
      go_ret
      exact ⟨rfl, HB.out⟩
end Go.Proofs.Ytdgpbgdpdmikaaa

/-
  The walk of SuffixWords.
-/
import Derived.Test.YtdgpbgdpdmikaaaLSuffixRabbits
set_option linter.unusedVariables false
set_option linter.unusedSimpArgs false
namespace Go.Proofs.Ytdgpbgdpdmikaaa
open Go.RowKit
set_option maxRecDepth 100000
def rep (a : List UInt8) : Nat → List UInt8
  | 0 => []
  | k + 1 => rep a k ++ a
theorem rep_len (a : List UInt8) (h : a.length ≤ 8) : ∀ k, k ≤ 60 → (rep a k).length ≤ 480 := by
  have key : ∀ k, (rep a k).length ≤ k * 8 := by
    intro k
    induction k with
    | zero => exact Nat.le_refl _
    | succ k ih => rw [rep, List.length_append]; omega
  intro k hk
  have := key k
  omega
set_option maxHeartbeats 4000000 in
theorem SuffixWords_walk (w : World) (v : Value) (bs0 : List UInt8) (h : Rd w 1 v bs0.length (bv bs0)) (sz : bs0.length ≤ 140737488351232) (n : Int) (wf : (Lit.int .i64 n).wf = true) :
    Calls Try.prog 10 #[v, .int .i64 n] w fun e w' => e = .returned (.bool true) ∧ Below w.heap.size w w' := by
  obtain ⟨i0, i0a, i0b, i0c, i0d⟩ := info_parts infoU8
  obtain ⟨j0, j0a, j0b, j0c, j0d⟩ := info_parts infoB
  by_cases q1 : n < 0
  · go_enter Try.func10, Try.ntmps10
    go_wp2_with fail
    refine (begun8 _).mono ?_
    rintro e w1 ⟨rfl, hb⟩
    have hr := h.keep hb
    go_wp2_with fail
    refine (short_any v bs0 8 w1 hr (by omega)).mono ?_
    rintro e w2 ⟨v', rfl, hr', rfl⟩
    go_wp2_with fail
    go_ret
    exact ⟨rfl, hb⟩
  by_cases q2 : 60 < n
  · go_enter Try.func10, Try.ntmps10
    go_wp2_with fail
    refine (begun8 _).mono ?_
    rintro e w1 ⟨rfl, hb⟩
    have hr := h.keep hb
    go_wp2_with fail
    refine (short_any v bs0 8 w1 hr (by omega)).mono ?_
    rintro e w2 ⟨v', rfl, hr', rfl⟩
    go_wp2_with fail
    go_ret
    exact ⟨rfl, hb⟩
  obtain ⟨N, rfl⟩ := Int.eq_ofNat_of_zero_le (show 0 ≤ n by omega)
  have hN : N ≤ 60 := by omega
  have hNi : (N : Int) ≤ 60 := by omega
  clear q1 wf
  go_enter Try.func10, Try.ntmps10
  go_wp2_with fail
  refine (begun8 _).mono ?_
  rintro e w1 ⟨rfl, hb⟩
  have hS := (St.init w).mono hb
  have hr := h.keep hb
  clear h hb
  go_wp2_with fail
  refine (short_any v bs0 8 w1 hr (by omega)).mono ?_
  rintro e w2 ⟨v', rfl, hr', rfl⟩
  clear hr
  have hna : (bs0.take 8).length ≤ 8 := by simp; omega
  generalize bs0.take 8 = a at *
  clear sz
  obtain ⟨aoa, capa, rfl⟩ := hr'.shape
  have HA := Lib.hid (And.intro hr' (rep_len a hna))
  have HS0 := Lib.hid hS
  have HS1 := Lib.hid (St.init w1).one_nil
  clear hr' hS
  go_wp2_with fail
  go_loopg [6, 7] N (fun m s6 s7 wr => ∃ k : Nat, k + m = N ∧ s7 = .int .i64 (k : Int) ∧ ∃ cb, Hid (RowC 5 1 s6 (rep a k).length (bv (rep a k)) cb ∧ St w1.heap.size w1 wr [cb]))
  case atStart => exact ⟨0, by omega, rfl, [], Lib.hid ⟨RowC.nil _ _, HS1.out⟩⟩
  case round =>
    clear HS1
    obtain ⟨k, hk, rfl, cb, HQ⟩ := hrel
    have hrb := HQ.out.1
    have hS := HQ.out.2
    have hlb := HA.out.2 k (by omega)
    obtain ⟨aob, capb, rfl⟩ := hrb.shape
    cases gk with
    | succ m =>
      have hra := HA.out.1.keep hS.below
      go_wp2_with (at_builtin; (refine wpList_app 0 37 i0 (.int .u8 0) _ _ rfl rfl rfl rfl Try.underlying37 i0a i0b i0c i0d rfl (by decide) hS rfl hrb hra (bv_one a) ?_ ?_ ?_); (unfold maxLen; omega); omega; intro v2 c2 w3 hr2 hS2)
      go_roundg m
      case measure => omega
      case rel =>
        replace hS2 : St w1.heap.size w1 w3 [c2] := hS2
        refine ⟨k + 1, by omega, by go_num, c2, Lib.hid ⟨?_, hS2⟩⟩
        rw [rep, List.length_append, show bv (rep a k ++ a) = bv (rep a k) ++ bv a from by simp [bv]]
        exact hr2
    | zero =>
      obtain rfl : k = N := by omega
      generalize hb : rep a k = b at *
      have hS2 := (HS0.out.join hS).pick [0] (by decide) [cb] rfl
      have HRB := Lib.hid (And.intro hrb hS2)
      clear hrb hS HQ hb hk hS2
      go_wp2_with fail
      go_ways
      refine (sort_any b _ wr (by omega) (HRB.out.1.rd HRB.out.2 0 rfl)).mono ?_
      rintro e w5 ⟨v5, T, c5, rfl, hrT, hTl, hS5, hsa⟩
      obtain ⟨ao5, cap5, rfl⟩ := hrT.shape
      have hS6 : St w.heap.size w w5 [c5, cb] := HRB.out.2.join hS5
      have hli : (b.length : Int) ≤ 480 := by omega
      have HT := Lib.hid (And.intro hrT (And.intro hTl hsa))
      clear hrT hTl hS5 hsa
      go_wp2_with (at_make; (refine wpList_mk (n := b.length) 44 j0 (.bool false) _ _ rfl rfl _ _ _ _ rfl rfl Try.underlying44 j0a j0b j0c j0d rfl ?_ ?_ ?_ ?_ hS6 ?_); omega; omega; omega; (unfold maxLen; omega); intro g cs w6 hrs hS7)
      have HS := Lib.hid (And.intro (show RowC 4 1 (.slice (some ⟨g, 0, none⟩) b.length b.length) b.length (bl (mkB (fun p => decide (rk T p < 0)) b.length)) cs from by
        rw [mkB_congr _ (fun _ => false) _ (fun j _ => by simp), show bl (mkB (fun _ => false) b.length) = List.replicate b.length (.bool false) from by
          unfold mkB bl
          rw [List.eq_replicate_iff]
          refine ⟨by simp, ?_⟩
          intro x hx
          obtain ⟨y, hy, rfl⟩ := List.mem_map.1 hx
          obtain ⟨z, _, rfl⟩ := List.mem_map.1 hy
          rfl]
        exact hrs) hS7)
      clear hrs hS7 hS6
      go_wp2_with fail
      go_loopg [10] b.length (fun m s10 wr => ∃ i : Nat, i + m = b.length ∧ s10 = .int .i64 (i : Int) ∧ ∃ cs, Hid (RowC 4 1 (.slice (some ⟨g, 0, none⟩) b.length b.length) b.length (bl (mkB (fun p => decide (rk T p < i)) b.length)) cs ∧ St w.heap.size w wr [cs, c5, cb]))
      case atStart => exact ⟨0, by omega, rfl, cs, HS⟩
      case round =>
        clear HS
        obtain ⟨i, hi, rfl, cs, HQ⟩ := hrel
        have hrs := HQ.out.1
        have hS := HQ.out.2
        cases gk with
        | succ m =>
          have hlt : i < b.length := by omega
          have hil : (i : Int) < (b.length : Int) := by omega
          obtain ⟨g5, rfl⟩ := HT.out.1.head (by omega)
          have hTi := ch_some T i (by rw [HT.out.2.1]; exact hlt)
          have hri := HT.out.2.2.rk_of hTi
          have hql : ch T i < b.length := by have := HT.out.2.2.lt hTi; rwa [nb_length] at this
          have hc := HT.out.1.cellAt hS 1 rfl (iv_get _ i _ (tI_get T i (by rw [HT.out.2.1]; exact hlt)))
          have hs := hrs.cellAt hS 0 rfl (bl_get _ (ch T i) _ (mkB_get _ _ (ch T i) hql))
          rw [hri, show decide (i < i) = false from by simp] at hs
          have hf := hrs.freeAt hS 0 rfl (ch T i)
          have hqi : (ch T i : Int) < (b.length : Int) := by omega
          have hq0 : ¬ (ch T i : Int) < 0 := by omega
          have hq1 : ¬ (b.length : Int) ≤ (ch T i : Int) := by omega
          have HTi := Lib.hid (And.intro hTi hri)
          clear hTi hri
          go_wp2_with fail
          go_roundg m
          case measure => omega
          case rel =>
            obtain ⟨c', hr', hS'⟩ := hrs.store hS 0 rfl rfl (ch T i) (.bool true)
            rw [bl_set, mkB_set, mkB_congr _ (fun p => decide (rk T p < i + 1)) _ (fun p hp => by
              by_cases e : p = ch T i
              · rw [if_pos e, e, HTi.out.2]; simp
              · rw [if_neg e, decide_eq_decide]
                have hne : rk T p ≠ i := by
                  intro h
                  have := HT.out.2.2.rk_get (p := p) (by rw [nb_length]; exact hp)
                  rw [h] at this
                  exact e (ch_get this).symm
                omega)] at hr'
            exact ⟨i + 1, by omega, by go_num, c', Lib.hid ⟨hr', hS'⟩⟩
        | zero =>
          obtain rfl : i = b.length := by omega
          have H9 := Lib.hid hS
          clear hrs hS HQ hi
          go_wp2_with fail
          go_ways
          generalize wr = w9 at *
          go_loopg [11] (b.length - 1) (fun m s11 wr => ∃ k : Nat, k + m = b.length - 1 ∧ s11 = .int .i64 ((k : Int) + 1) ∧ Drew w9 wr)
          case atStart => exact ⟨0, by omega, rfl, Drew.refl _⟩
          case round =>
            obtain ⟨j, hj, rfl, hd⟩ := hrel
            obtain ⟨nd, rfl⟩ := hd.out
            have hS := H9.out.drewN nd
            cases gk with
            | zero =>
              have hge : (b.length : Int) ≤ (j : Int) + 1 := by omega
              have HB := Lib.hid hS.below
              clear hS hd
              go_wp2_with fail
              go_ret
              exact ⟨rfl, HB.out⟩
            | succ m =>
              have hlt : j + 1 < b.length := by omega
              have hjl : (j : Int) + 1 < (b.length : Int) := by omega
              obtain ⟨g5, rfl⟩ := HT.out.1.head (by omega)
              obtain ⟨gb, rfl⟩ := HRB.out.1.head (by omega)
              have hTl := HT.out.2.1
              have hc1 := HT.out.1.cellAt H9.out 1 rfl (iv_get _ j _ (tI_get T j (by omega)))
              have hc2 := HT.out.1.cellAt H9.out 1 rfl (iv_get _ (j + 1) _ (tI_get T (j + 1) (by omega)))
              have hpl : ch T j < b.length := by have := HT.out.2.2.lt (ch_some T j (by omega)); rwa [nb_length] at this
              have hql : ch T (j + 1) < b.length := by have := HT.out.2.2.lt (ch_some T (j + 1) (by omega)); rwa [nb_length] at this
              have hless := sa_less HT.out.2.2 (i := j) (by omega)
              clear hTl
              generalize ch T j = p at *
              generalize ch T (j + 1) = q at *
              have hcp := HRB.out.1.cap.1
              have hcp2 := HRB.out.1.cap.2
              have hdp := conv_str (bs := b.drop p) (by
                have := (HRB.out.1.rd (H9.out.drewN (nd + 1)) 2 rfl).drop p (by omega) (ao' := some ⟨gb, p, none⟩) (fun _ => by simp [Addr.add]) (fun e => by omega)
                rw [Nat.mul_one] at this
                simpa [bv] using this)
              have hdq := conv_str (bs := b.drop q) (by
                have := (HRB.out.1.rd (H9.out.drewN (nd + 1)) 2 rfl).drop q (by omega) (ao' := some ⟨gb, q, none⟩) (fun _ => by simp [Addr.add]) (fun e => by omega)
                rw [Nat.mul_one] at this
                simpa [bv] using this)
              have hpi : (p : Int) < (b.length : Int) := by omega
              have hqi : (q : Int) < (b.length : Int) := by omega
              clear hd
              go_wp2_with (first | ((with_reducible refine wpStill_plain ?_ ?_ (fun _ _ => ?_)); rfl; rfl) | (with_reducible refine wpStill_nil ?_) | ((with_reducible refine wp_draw_all (id := 25) mixed ?_ (fun _ _ => ?_)); kernel_rfl))
              go_roundg m
              case measure => omega
              case rel => exact ⟨j + 1, by omega, by go_num, Drew.then _ _⟩
end Go.Proofs.Ytdgpbgdpdmikaaa

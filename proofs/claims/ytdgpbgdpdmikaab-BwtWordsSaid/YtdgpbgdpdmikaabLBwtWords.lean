/-
  The walk of BwtWords.
-/
import Derived.Test.YtdgpbgdpdmikaabBwtBegun
import Derived.Test.YtdgpbgdpdmikaabShort
set_option linter.unusedVariables false
set_option linter.unusedSimpArgs false
namespace Go.Proofs.Ytdgpbgdpdmikaab
open Go.RowKit
set_option maxRecDepth 100000
def repw (a : List UInt8) : Nat → List UInt8
  | 0 => []
  | k + 1 => repw a k ++ a
theorem repw_len (a : List UInt8) (h : a.length ≤ 10) : ∀ k, k ≤ 80 → (repw a k).length ≤ 800 := by
  have key : ∀ k, (repw a k).length ≤ k * 10 := by
    intro k
    induction k with
    | zero => exact Nat.le_refl _
    | succ k ih => rw [repw, List.length_append]; omega
  intro k hk
  have := key k
  omega
set_option maxHeartbeats 4000000 in
theorem BwtWords_walk (w : World) (v : Value) (bs0 : List UInt8) (h : Rd w 1 v bs0.length (bv bs0)) (sz : bs0.length ≤ 140737488351232) (n : Int) (wf : (Lit.int .i64 n).wf = true) :
    Calls Try.prog 7 #[v, .int .i64 n] w fun e w' => e = .returned (.bool true) ∧ Below w.heap.size w w' := by
  obtain ⟨i0, i0a, i0b, i0c, i0d⟩ := info_parts infoU8
  by_cases q1 : n < 0
  · go_enter Try.func7, Try.ntmps7
    go_wp2_with fail
    refine (begun9 _).mono ?_
    rintro e w1 ⟨rfl, hb⟩
    have hr := h.keep hb
    go_wp2_with fail
    refine (short_any v bs0 10 w1 hr (by omega)).mono ?_
    rintro e w2 ⟨v', rfl, hr', rfl⟩
    go_wp2_with fail
    go_ret
    exact ⟨rfl, hb⟩
  by_cases q2 : 80 < n
  · go_enter Try.func7, Try.ntmps7
    go_wp2_with fail
    refine (begun9 _).mono ?_
    rintro e w1 ⟨rfl, hb⟩
    have hr := h.keep hb
    go_wp2_with fail
    refine (short_any v bs0 10 w1 hr (by omega)).mono ?_
    rintro e w2 ⟨v', rfl, hr', rfl⟩
    go_wp2_with fail
    go_ret
    exact ⟨rfl, hb⟩
  obtain ⟨N, rfl⟩ := Int.eq_ofNat_of_zero_le (show 0 ≤ n by omega)
  have hN : N ≤ 80 := by omega
  have hNi : (N : Int) ≤ 80 := by omega
  clear q1 wf
  go_enter Try.func7, Try.ntmps7
  go_wp2_with fail
  refine (begun9 _).mono ?_
  rintro e w1 ⟨rfl, hb⟩
  have hS := (St.init w).mono hb
  have hr := h.keep hb
  clear h hb
  go_wp2_with fail
  refine (short_any v bs0 10 w1 hr (by omega)).mono ?_
  rintro e w2 ⟨v', rfl, hr', rfl⟩
  clear hr
  have hna : (bs0.take 10).length ≤ 10 := by simp; omega
  generalize bs0.take 10 = a at *
  clear sz
  obtain ⟨aoa, capa, rfl⟩ := hr'.shape
  have HA := Lib.hid (And.intro hr' (repw_len a hna))
  have HS0 := Lib.hid hS
  have HS1 := Lib.hid (St.init w1).one_nil
  clear hr' hS
  go_wp2_with fail
  go_loopg [6, 7] N (fun m s6 s7 wr => ∃ k : Nat, k + m = N ∧ s7 = .int .i64 (k : Int) ∧ ∃ cb, Hid (RowC 5 1 s6 (repw a k).length (bv (repw a k)) cb ∧ St w1.heap.size w1 wr [cb]))
  case atStart => exact ⟨0, by omega, rfl, [], Lib.hid ⟨RowC.nil _ _, HS1.out⟩⟩
  case round =>
    clear HS1
    obtain ⟨k, hk, rfl, cb, HQ⟩ := hrel
    have hrb := HQ.out.1
    have hSb := HQ.out.2
    obtain ⟨aob, capb, rfl⟩ := hrb.shape
    cases gk with
    | succ m =>
      have hlb := HA.out.2 k (by omega)
      have hra := HA.out.1.keep hSb.below
      go_wp2_with (at_builtin; (refine wpList_app 0 22 i0 (.int .u8 0) _ _ rfl rfl rfl rfl Try.underlying22 i0a i0b i0c i0d rfl (by decide) hSb rfl hrb hra (bv_one a) ?_ ?_ ?_); (unfold maxLen; omega); omega; intro v2 c2 w3 hr2 hS2)
      go_roundg m
      case measure => omega
      case rel =>
        replace hS2 : St w1.heap.size w1 w3 [c2] := hS2
        refine ⟨k + 1, by omega, by go_num, c2, Lib.hid ⟨?_, hS2⟩⟩
        rw [repw, List.length_append, show bv (repw a k ++ a) = bv (repw a k) ++ bv a from by simp [bv]]
        exact hr2
    | zero =>
      obtain rfl : k = N := by omega
      have hlen := HA.out.2 k hN
      have hz : ¬ (k : Int) < (k : Int) := by omega
      have hS0 := HS0.out.join hSb
      generalize repw a k = b at *
      clear hk HQ
      have H0 := Lib.hid (And.intro hrb hS0)
      clear hrb hS0 hSb
      go_wp2_with fail
      refine (forward_any b _ wr (by omega) (H0.out.1.rd H0.out.2 0 rfl)).mono ?_
      rintro e w2 ⟨T, v2, c2, L, hsa, rfl, hr2, hL, hS2⟩
      have hg := FwdOut.good hsa hL
      obtain ⟨ao2, cap2, rfl⟩ := hr2.shape
      have hS3 := H0.out.2.join hS2
      have hLl : L.length = b.length := by have h1 := hsa.one; rw [nb_length] at h1; have := congrArg List.length hL; rw [nb_length, fwdN_length h1, nb_length] at this; exact this
      have H2 := Lib.hid (And.intro hg (And.intro hr2 (And.intro hS3 hLl)))
      clear hsa hr2 hL hS2 hg hS3 hLl
      go_wp2_with fail
      refine (back_any L _ _ w2 (by have := H2.out.2.2.2; omega) (H2.out.2.1.rd H2.out.2.2.1 0 rfl)).mono ?_
      rintro e w4 (⟨_, v4, c4, x, rfl, hr4, hx, hS6⟩ | ⟨hn, _⟩)
      · obtain rfl : x = b := nb_inj (hx.trans H2.out.1.2)
        obtain ⟨ao4, cap4, rfl⟩ := hr4.shape
        have hS7 := H2.out.2.2.1.join hS6
        have hc1 := conv_str (hr4.rd hS7 0 rfl)
        have hc2 := conv_str (H0.out.1.rd hS7 2 rfl)
        have HE := Lib.hid hS7.below
        clear hS6 hS7 hr4 hx
        go_wp2_with fail
        go_ret
        exact ⟨by simp, HE.out⟩
      · exact absurd H2.out.1.1 hn
end Go.Proofs.Ytdgpbgdpdmikaab

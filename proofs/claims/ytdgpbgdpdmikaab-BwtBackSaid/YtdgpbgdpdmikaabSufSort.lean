/-
  Contract of suffix.Sort.
-/
import Derived.Test.YtdgpbgdpdmikaabSufOrd
set_option linter.unusedVariables false
set_option linter.unusedSimpArgs false
namespace Go.Proofs.Ytdgpbgdpdmikaab
open Go.RowKit
set_option maxRecDepth 100000
/-- Bytes as numbers. -/
def nb (b : List UInt8) : List Nat := b.map UInt8.toNat
theorem nb_length (b : List UInt8) : (nb b).length = b.length := by simp [nb]
theorem nb_le (b : List UInt8) : ∀ x ∈ nb b, x ≤ 255 := by
  intro x hx
  obtain ⟨y, _, rfl⟩ := List.mem_map.1 hx
  have := y.toNat_lt
  omega
theorem nb_at (b : List UInt8) (i : Nat) (x : UInt8) (h : b[i]? = some x) : ch (nb b) i = x.toNat := by
  unfold ch nb
  rw [List.getD_eq_getElem?_getD, List.getElem?_map, h]
  rfl
def SortOut (b : List UInt8) (w : World) (e : Ending) (w' : World) : Prop :=
  ∃ (v : Value) (T : List Nat) (c : HL), e = .returned v ∧ RowC 3 1 v b.length (iv (tI T)) c ∧ T.length = b.length ∧ St w.heap.size w w' [c] ∧ IsSA (nb b) T
theorem mk_whole (s : List Nat) (n : Nat) (h : s.length = n) : mkI (fun j => if j < n then (ch s j : Int) else 0) n = tI s := by
  apply List.ext_getElem?
  intro i
  by_cases hi : i < n
  · rw [mkI_get _ _ _ hi, if_pos hi, tI_get _ _ (by omega)]
  · rw [List.getElem?_eq_none (by rw [mkI_length]; omega), List.getElem?_eq_none (by rw [tI_length]; omega)]
set_option maxHeartbeats 4000000 in
theorem sort_any (b : List UInt8) (v : Value) (w : World) (hn : b.length ≤ 1000000) (hb : Rd w 1 v b.length (bv b)) :
    Calls Try.prog 29 #[v] w (SortOut b w) := by
  obtain ⟨i0, i0a, i0b, i0c, i0d⟩ := info_parts infoInt
  obtain ⟨ao, cap, rfl⟩ := hb.shape
  have hS := St.init w
  have HB := Lib.hid hb
  have hnl : (b.length : Int) ≤ 1000000 := by omega
  clear hb
  go_enter Try.func29, Try.ntmps29
  go_wp2_with (at_make; (refine wpList_mk (n := b.length) 37 i0 (.int .i64 0) _ _ rfl rfl _ _ _ _ rfl rfl Try.underlying37 i0a i0b i0c i0d rfl ?_ ?_ ?_ ?_ hS ?_); omega; omega; omega; (unfold maxLen; omega); intro g cl w1 hr hS1)
  have HQ : Hid (RowC 3 1 (.slice (some ⟨g, 0, none⟩) b.length b.length) b.length (iv (mkI (fun j => if j < 0 then (ch (nb b) j : Int) else 0) b.length)) cl ∧ St w.heap.size w w1 [cl]) := Lib.hid ⟨by
    rw [mkI_congr _ (fun _ => 0) _ (fun j _ => if_neg (by omega)), mkI_const, iv_replicate]
    exact hr, hS1⟩
  clear hr hS1 hS
  go_wp2_with fail
  go_loopg [11] b.length (fun m s11 wr => ∃ i : Nat, i + m = b.length ∧ s11 = .int .i64 (i : Int) ∧ ∃ cl, Hid (RowC 3 1 (.slice (some ⟨g, 0, none⟩) b.length b.length) b.length (iv (mkI (fun j => if j < i then (ch (nb b) j : Int) else 0) b.length)) cl ∧ St w.heap.size w wr [cl]))
  case atStart => exact ⟨0, by omega, rfl, cl, HQ⟩
  case round =>
    clear HQ
    obtain ⟨i, hi, rfl, cl, HQ⟩ := hrel
    have hr := HQ.out.1
    have hS := HQ.out.2
    cases gk with
    | zero =>
      obtain rfl : i = b.length := by omega
      rw [mk_whole (nb b) b.length (nb_length b)] at hr
      have HR := Lib.hid (And.intro hr hS)
      clear hr hS HQ hi
      go_wp2_with fail
      go_ways
      refine (order_any (nb b).length (nb b) 255 _ wr (Nat.le_refl _) (by rw [nb_length]; exact hn) (by omega) (nb_le b) (by rw [nb_length]; exact HR.out.1.rd HR.out.2 0 rfl)).mono ?_
      rintro e w3 ⟨v, T, c, rfl, hT, hTl, hS3, hsa⟩
      rw [nb_length] at hT hTl
      have hS4 := (HR.out.2.join hS3).pick [0] (by decide) [c] rfl
      have HZ := Lib.hid (And.intro hT (And.intro hTl (And.intro hS4 hsa)))
      clear hT hTl hS4 hsa hS3
      go_wp2_with fail
      go_ret
      exact ⟨_, T, c, rfl, HZ.out⟩
    | succ m =>
      have hlt : i < b.length := by omega
      have hil : (i : Int) < (b.length : Int) := by omega
      have hbi : b[i]? = some b[i] := List.getElem?_eq_getElem hlt
      obtain ⟨ad, rfl, hc⟩ := (HB.out.keep hS.below).at (bv_get b i _ hbi)
      have hch := nb_at b i _ hbi
      have h255 : b[i].toNat < 256 := b[i].toNat_lt
      generalize b[i] = x at *
      have hx2 : (x.toNat : Int) < 256 := by omega
      have hlr := hr.cellAt hS 0 rfl (iv_get _ i _ (mkI_get _ _ i hlt))
      rw [if_neg (Nat.lt_irrefl i)] at hlr
      have hfr := hr.freeAt hS 0 rfl i
      have HC := Lib.hid hch
      clear hch hbi
      go_wp2_with fail
      go_roundg m
      case measure => omega
      case rel =>
        obtain ⟨c', hr', hS'⟩ := hr.store hS 0 rfl rfl i (.int .i64 (x.toNat : Int))
        rw [iv_set, mkI_set, mkI_congr _ (fun j => if j < i + 1 then (ch (nb b) j : Int) else 0) _ (fun j _ => by
          by_cases hj : j = i
          · subst hj
            rw [if_pos rfl, if_pos (by omega), HC.out]
          · rw [if_neg hj]
            by_cases h2 : j < i
            · rw [if_pos h2, if_pos (by omega)]
            · rw [if_neg h2, if_neg (by omega)])] at hr'
        exact ⟨i + 1, by omega, by go_num, c', Lib.hid ⟨hr', hS'⟩⟩
end Go.Proofs.Ytdgpbgdpdmikaab

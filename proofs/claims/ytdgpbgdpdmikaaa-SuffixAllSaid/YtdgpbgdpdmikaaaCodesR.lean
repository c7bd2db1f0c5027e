/-
  Contracts of codes.reader.symbol and codes.Read.
-/
import Derived.Test.YtdgpbgdpdmikaaaCodesB
import Derived.Test.YtdgpbgdpdmikaaaBitsR
set_option linter.unusedVariables false
set_option linter.unusedSimpArgs false
namespace Go.Proofs.Ytdgpbgdpdmikaaa
open Go.RowKit
set_option maxRecDepth 100000
/-- A code reader at block q: how many codes there are, the first ones, and the symbols as slices. -/
structure CrOk (w : World) (q : Nat) (l : List Int) (sv : Nat → Value) : Prop where
  n : ∀ k, k < 16 → w.cell? ⟨q, k, none⟩ = some (.int .i64 (cntP l k : Int))
  f : ∀ k, k < 16 → w.cell? ⟨q, 16 + k, none⟩ = some (.int .i64 (fstP l k : Int))
  s : ∀ k, k < 16 → w.cell? ⟨q, 32 + k, none⟩ = some (sv k)
  r : ∀ k, k < 16 → Rd w 1 (sv k) (symsP l k).length (iv (symsP l k))
theorem or_bit (V : Nat) (b : Bool) (h : V < 4611686018427387904) : bits .or .i64 ((V : Int) * 2) (b.toNat : Int) = ((2 * V + b.toNat : Nat) : Int) := by
  have e3 : ((V : Int) * 2) = ((2 * V : Nat) : Int) := by omega
  have hb2 : b.toNat < 2 := by cases b <;> simp
  rw [e3]
  show IntKind.i64.wrap ((BitVec.ofInt 64 ((2 * V : Nat) : Int) ||| BitVec.ofInt 64 (b.toNat : Int)).toNat : Int) = _
  rw [BitVec.toNat_or, ofInt_u64 _ (by omega), ofInt_u64 _ (by omega)]
  have e4 : 2 * V ||| b.toNat = 2 * V + b.toNat := by
    have := Nat.two_pow_add_eq_or_of_lt (i := 1) (b := b.toNat) (by omega) V
    simp at this
    exact this.symm
  rw [e4, IntKind.wrap_i64]
  omega
section
variable {B : Nat} {w0 w : World} {F : List HL} {c : HL}
/-- What one symbol comes to. -/
def symInt (o : Option (Nat × Nat)) : Int := match o with | none => -1 | some (s, _) => (s : Int)
set_option maxHeartbeats 2000000 in
theorem symbol_any (p q : Nat) (l : List Int) (sv : Nat → Value) (bs : List UInt8) (at_ : Nat) (hS : St B w0 w (c :: F)) (hc : RdC p bs at_ c) (hn : bs.length ≤ 140737488355328) (hk : kraftP l ≤ 32768) (hln : l.length ≤ 300)
    (hcr : ∀ w' c', St B w0 w' (c' :: F) → CrOk w' q l sv) :
    Calls Try.prog 42 #[.pointer (some ⟨q, 0, none⟩), .pointer (some ⟨p, 0, none⟩)] w fun e w' => e = .returned (.int .i64 (symInt (symP l 15 0 0 ((bitsB bs).drop at_)))) ∧
      ∃ c' n, RdC p bs (at_ + n) c' ∧ St B w0 w' (c' :: F) ∧ (∀ s m, symP l 15 0 0 ((bitsB bs).drop at_) = some (s, m) → m = n) := by
  have HR := Lib.hid hcr
  have HC := Lib.hid (And.intro hS hc)
  clear hcr hS hc
  go_enter Try.func42, Try.ntmps42
  go_wp2_with fail
  go_loopg [5, 6] 15 (fun m s5 s6 wr => ∃ k v : Nat, k + m = 15 ∧ s6 = .int .i64 ((k : Int) + 1) ∧ s5 = .int .i64 (v : Int) ∧ v < 2 ^ k ∧ ∃ c', RdC p bs (at_ + k) c' ∧ St B w0 wr (c' :: F) ∧ Hid (symP l m k v ((bitsB bs).drop (at_ + k)) = symP l 15 0 0 ((bitsB bs).drop at_)))
  case atStart => exact ⟨0, 0, by omega, rfl, rfl, by simp, c, by simpa using HC.out.2, HC.out.1, Lib.hid (by simp)⟩
  case round =>
    clear HC
    obtain ⟨k, v, hkm, rfl, rfl, hv, c', hc, hS, HE⟩ := hrel
    cases gk with
    | zero =>
      obtain rfl : k = 15 := by omega
      have he := HE.out
      rw [symP] at he
      have HE2 := Lib.hid he
      clear he HE hkm
      go_wp2_with fail
      go_ret
      rw [← HE2.out]
      exact ⟨rfl, c', 15, hc, hS, fun s m h => by cases h⟩
    | succ m =>
      have hk15 : k < 15 := by omega
      have hvb : v < 2 ^ 15 := Nat.lt_of_lt_of_le hv (Nat.pow_le_pow_right (by omega) (by omega))
      go_wp2_with fail
      by_cases hend : 8 * bs.length ≤ at_ + k
      · have hd : (bitsB bs).drop (at_ + k) = [] := List.drop_of_length_le (by rw [bitsB_length]; exact hend)
        have he := HE.out
        rw [hd, symP] at he
        have HE2 := Lib.hid he
        refine (get_bad p bs (at_ + k) 1 hS hc hn (.inr (.inr (by omega)))).mono ?_
        rintro e w2 ⟨rfl, nd, rfl⟩
        clear he hd HE
        go_wp2_with fail
        go_ret
        rw [← HE2.out]
        exact ⟨rfl, c', k, hc, hS.drewN nd, fun s m h => by cases h⟩
      · obtain ⟨b, hb⟩ : ∃ b, (bitsB bs)[at_ + k]? = some b := ⟨_, List.getElem?_eq_getElem (by rw [bitsB_length]; omega)⟩
        obtain ⟨hbl, hb2⟩ := List.getElem?_eq_some_iff.1 hb
        have hd : (bitsB bs).drop (at_ + k) = b :: (bitsB bs).drop (at_ + k + 1) := by rw [List.drop_eq_getElem_cons hbl, hb2]
        have he := HE.out
        have hv1 : (valOf (((bitsB bs).drop (at_ + k)).take (1 : Int).toNat) : Int) = (b.toNat : Int) := by rw [hd]; simp [valOf]
        rw [hd, symP] at he
        have HE2 := Lib.hid he
        refine (get_any p bs (at_ + k) 1 hS hc hn (by omega) (by omega) (by omega)).mono ?_
        rintro e w2 ⟨rfl, c2, hc2, hS2⟩
        rw [hv1]
        have hor := or_bit v b (by omega)
        have hv2 : 2 * v + b.toNat < 2 ^ (k + 1) := by rw [Nat.pow_succ]; cases b <;> simp <;> omega
        have hvb2 : 2 * v + b.toNat < 65536 := by cases b <;> simp <;> omega
        have hcr := HR.out _ _ hS2
        have hn1 := hcr.n (k + 1) (by omega)
        have hf1 := hcr.f (k + 1) (by omega)
        have hs1 := hcr.s (k + 1) (by omega)
        have hsm := fstP_small l hk (k + 1) (by omega)
        have hrd := hcr.r (k + 1) (by omega)
        obtain ⟨N, hN⟩ : ∃ N, 2 * v + b.toNat = N := ⟨_, rfl⟩
        rw [hN] at hor hv2 hvb2 HE2
        have hNi : (N : Int) ≤ 65535 := by omega
        have hb1 : (b.toNat : Int) ≤ 1 := by cases b <;> simp
        have hlook := lookP_syms l (k + 1) N (by omega)
        have HH := Lib.hid (And.intro hv2 hc2)
        have HN := Lib.hid hN
        obtain ⟨aos, caps, hsv⟩ := hrd.shape
        rw [hsv] at hs1 hrd
        clear he hd HE hb hb2 hv1 hc hS hcr hv2 hvb2 hend hbl hc2 hN hsv
        rcases hlook with ⟨hl, hnot⟩ | ⟨s, hl, hge, hlt, hsy⟩
        · have he := HE2.out
          rw [hl] at he
          have HE3 := Lib.hid he
          clear he HE2 hl
          by_cases q1 : N < fstP l (k + 1)
          · go_wp2_with fail
            go_roundg m
            case measure => omega
            case rel => exact ⟨k + 1, N, by omega, by go_num, rfl, HH.out.1, c2, HH.out.2, hS2, Lib.hid (by rw [← HN.out, ← HE3.out, HN.out]; rfl)⟩
          · have q2 : endP l (k + 1) ≤ N := by omega
            have q3 : endP l (k + 1) = fstP l (k + 1) + cntP l (k + 1) := rfl
            have q4 : ¬ (N : Int) - (fstP l (k + 1) : Int) < (cntP l (k + 1) : Int) := by omega
            clear q3
            go_wp2_with fail
            go_roundg m
            case measure => omega
            case rel => exact ⟨k + 1, N, by omega, by go_num, rfl, HH.out.1, c2, HH.out.2, hS2, Lib.hid (by rw [← HN.out, ← HE3.out, HN.out]; rfl)⟩
        · have he := HE2.out
          rw [hl] at he
          have HE3 := Lib.hid he
          clear he HE2 hl
          have q3 : endP l (k + 1) = fstP l (k + 1) + cntP l (k + 1) := rfl
          obtain ⟨j, hj⟩ : ∃ j, N = fstP l (k + 1) + j := ⟨N - fstP l (k + 1), by omega⟩
          have hjI : (N : Int) - (fstP l (k + 1) : Int) = (j : Int) := by omega
          rw [show N - fstP l (k + 1) = j from by omega] at hsy
          have hjc : j < cntP l (k + 1) := by omega
          have hjl : j < (symsP l (k + 1)).length := (List.getElem?_eq_some_iff.1 hsy).1
          obtain ⟨ad, rfl, hcell⟩ := hrd.at (iv_get _ j _ hsy)
          clear q3 hj hsy
          go_wp2_with fail
          go_ret
          rw [← HE3.out]
          refine ⟨rfl, c2, k + 1, HH.out.2, hS2, fun s m h => ?_⟩
          simp at h
          exact h.2.symm
end
end Go.Proofs.Ytdgpbgdpdmikaaa

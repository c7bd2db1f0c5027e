/-
  Of a packed text one byte is changed: what is unpacked is what was packed, or nothing.
-/
import Derived.Test.YtdhnmcdgiddhdaaCg2
set_option linter.unusedVariables false
set_option linter.unusedSimpArgs false
namespace Go.Proofs.Ytdhnmcdgiddhdaa
open Go.RowKit
set_option maxRecDepth 100000
theorem crcB_top {x : Nat} (h : x < 4294967296) : (crcB x).testBit 31 = decide (x % 2 = 1) := by
  have h2 : (x / 2).testBit 31 = false := Nat.testBit_lt_two_pow (show x / 2 < 2 ^ 31 by omega)
  unfold crcB
  split
  · rename_i q
    rw [Nat.testBit_xor, h2, show (3988292384 : Nat).testBit 31 = true from by decide, decide_eq_true q]
    rfl
  · rename_i q
    rw [h2, decide_eq_false q]
theorem xor_cancel (a b c : Nat) (h : a ^^^ c = b ^^^ c) : a = b := by
  have := congrArg (· ^^^ c) h
  simp only [Nat.xor_assoc, Nat.xor_self, Nat.xor_zero] at this
  exact this
theorem crcB_inj {x y : Nat} (hx : x < 4294967296) (hy : y < 4294967296) (h : crcB x = crcB y) : x = y := by
  have h1 := crcB_top hx
  rw [h, crcB_top hy] at h1
  have hp : x % 2 = 1 ↔ y % 2 = 1 := by
    constructor
    · intro q; rw [decide_eq_true q] at h1; exact of_decide_eq_true h1
    · intro q; rw [decide_eq_true q] at h1; exact of_decide_eq_true h1.symm
  unfold crcB at h
  by_cases q : x % 2 = 1
  · rw [if_pos q, if_pos (hp.1 q)] at h
    have := xor_cancel _ _ _ h
    have := hp.1 q
    omega
  · rw [if_neg q, if_neg (fun z => q (hp.2 z))] at h
    have : ¬ y % 2 = 1 := fun z => q (hp.2 z)
    omega
theorem crcC_inj : ∀ (n : Nat) {x y : Nat}, x < 4294967296 → y < 4294967296 → crcC x n = crcC y n → x = y
  | 0, _, _, _, _, h => h
  | n + 1, x, y, hx, hy, h => crcB_inj hx hy (crcC_inj n (crcB_lt hx) (crcB_lt hy) h)
theorem xor_lt32 {x : Nat} (hx : x < 4294967296) (c : UInt8) : x ^^^ c.toNat < 4294967296 := Nat.xor_lt_two_pow (n := 32) hx (by have := c.toNat_lt; omega)
theorem crcS_inj {x y : Nat} (hx : x < 4294967296) (hy : y < 4294967296) (c : UInt8) (h : crcS x c = crcS y c) : x = y :=
  xor_cancel _ _ _ (crcC_inj 8 (xor_lt32 hx c) (xor_lt32 hy c) h)
theorem crcS_byte {x : Nat} (hx : x < 4294967296) (c d : UInt8) (h : crcS x c = crcS x d) : c = d := by
  have h1 := crcC_inj 8 (xor_lt32 hx c) (xor_lt32 hx d) h
  rw [Nat.xor_comm x, Nat.xor_comm x] at h1
  exact UInt8.toNat_inj.1 (xor_cancel _ _ _ h1)
theorem crcL_inj : ∀ (b : List UInt8) {x y : Nat}, x < 4294967296 → y < 4294967296 → crcL x b = crcL y b → x = y
  | [], _, _, _, _, h => h
  | c :: b, x, y, hx, hy, h => crcS_inj hx hy c (crcL_inj b (crcS_lt hx c) (crcS_lt hy c) h)
theorem crcL_set : ∀ (b : List UInt8) (k : Nat) (u v : UInt8) {x : Nat}, x < 4294967296 → b[k]? = some u → v ≠ u → crcL x (b.set k v) ≠ crcL x b
  | [], k, u, v, x, _, h, _ => by cases h
  | c :: b, 0, u, v, x, hx, h, hne => by
    simp at h
    subst h
    intro e
    exact hne (crcS_byte hx v c (crcL_inj b (crcS_lt hx v) (crcS_lt hx c) e))
  | c :: b, k + 1, u, v, x, hx, h, hne => crcL_set b k u v (crcS_lt hx c) (by simpa using h) hne
theorem crcP_set (b : List UInt8) (k : Nat) (u v : UInt8) (h : b[k]? = some u) (hne : v ≠ u) : crcP (b.set k v) ≠ crcP b := by
  intro e
  refine crcL_set b k u v (x := 4294967295) (by decide) h hne ?_
  have h1 := crcL_lt (x := 4294967295) (by decide) b
  have h2 := crcL_lt (x := 4294967295) (by decide) (b.set k v)
  unfold crcP at e
  omega
theorem getB_far (b : List UInt8) (k : Nat) (v : UInt8) (h : 4 ≤ k) : getB (b.set k v) = getB b := by
  unfold getB
  simp only [List.getD_eq_getElem?_getD]
  rw [List.getElem?_set_ne (by omega), List.getElem?_set_ne (by omega), List.getElem?_set_ne (by omega), List.getElem?_set_ne (by omega)]
theorem getB_near (b : List UInt8) (k : Nat) (u v : UInt8) (h : b[k]? = some u) (hne : v ≠ u) (hk : k < 4) : getB (b.set k v) ≠ getB b := by
  have hl : k < b.length := by
    rcases Nat.lt_or_ge k b.length with q | q
    · exact q
    · rw [List.getElem?_eq_none q] at h; cases h
  have hnat : v.toNat ≠ u.toNat := fun e => hne (UInt8.toNat_inj.1 e)
  have a0 := (b.getD 0 0).toNat_lt
  have a1 := (b.getD 1 0).toNat_lt
  have a2 := (b.getD 2 0).toNat_lt
  have a3 := (b.getD 3 0).toNat_lt
  have hv := v.toNat_lt
  have hu := u.toNat_lt
  have hs : ∀ i, (b.set k v).getD i 0 = if k = i then v else b.getD i 0 := fun i => by
    rw [List.getD_eq_getElem?_getD, List.getD_eq_getElem?_getD, List.getElem?_set]
    by_cases e : k = i
    · rw [if_pos e, if_pos hl, if_pos e]; rfl
    · rw [if_neg e, if_neg e]
  have hu' : b.getD k 0 = u := by rw [List.getD_eq_getElem?_getD, h]; rfl
  unfold getB
  rw [hs, hs, hs, hs]
  rcases (show k = 0 ∨ k = 1 ∨ k = 2 ∨ k = 3 by omega) with rfl | rfl | rfl | rfl
  · rw [if_pos rfl, if_neg (by omega), if_neg (by omega), if_neg (by omega), hu']; omega
  · rw [if_neg (by omega), if_pos rfl, if_neg (by omega), if_neg (by omega), hu']; omega
  · rw [if_neg (by omega), if_neg (by omega), if_pos rfl, if_neg (by omega), hu']; omega
  · rw [if_neg (by omega), if_neg (by omega), if_neg (by omega), if_pos rfl, hu']; omega
/-- Sums that stand ahead of what they are of: no one byte changes unseen. -/
theorem sum_rot (b : List UInt8) (k : Nat) (u v : UInt8) (h : b[k]? = some u) (hne : v ≠ u) (hok : getB b = crcP (b.drop 4)) : getB (b.set k v) ≠ crcP ((b.set k v).drop 4) := by
  rw [List.drop_set]
  by_cases hk : k < 4
  · rw [if_pos hk, ← hok]
    exact getB_near b k u v h hne hk
  · rw [if_neg hk, getB_far b k v (by omega), hok]
    exact (crcP_set (b.drop 4) (k - 4) u v (by rw [List.getElem?_drop, show 4 + (k - 4) = k by omega]; exact h) hne).symm
/-- The seal at the beginning, one byte changed: it is what it was, or none. -/
theorem first_rot (b : List UInt8) (h0 : List UInt8) (k : Nat) (u v : UInt8) (hk : b[k]? = some u) (hne : v ≠ u) (hf : firstP b = some h0) {h' : List UInt8} (hf' : firstP (b.set k v) = some h') : h' = h0 ∧ 12 + h0.length ≤ k := by
  have hkl : k < b.length := by
    rcases Nat.lt_or_ge k b.length with q | q
    · exact q
    · rw [List.getElem?_eq_none q] at hk; cases hk
  unfold firstP at hf hf'
  split at hf
  · cases hf
  rename_i q
  split at hf'
  · cases hf'
  rename_i q'
  injection hf with hf
  injection hf' with hf'
  have q1 : ¬ b.length < 12 := fun h => q (.inl h)
  have q2 : getB (b.drop 4) = crcP (b.take 4) := Classical.byContradiction fun h => q (.inr (.inl h))
  have q3 : ¬ b.length - 12 < getB b := fun h => q (.inr (.inr (.inl h)))
  have q4 : getB (b.drop 8) = crcP ((b.drop 12).take (getB b)) := Classical.byContradiction fun h => q (.inr (.inr (.inr h)))
  have p2 : getB ((b.set k v).drop 4) = crcP ((b.set k v).take 4) := Classical.byContradiction fun h => q' (.inr (.inl h))
  have p3 : ¬ (b.set k v).length - 12 < getB (b.set k v) := fun h => q' (.inr (.inr (.inl h)))
  have p4 : getB ((b.set k v).drop 8) = crcP (((b.set k v).drop 12).take (getB (b.set k v))) := Classical.byContradiction fun h => q' (.inr (.inr (.inr h)))
  have k4 : 4 ≤ k := by
    rcases Nat.lt_or_ge k 4 with z | z
    · exfalso
      rw [List.drop_set, if_pos z, List.take_set, q2] at p2
      exact crcP_set (b.take 4) k u v (by rw [List.getElem?_take, if_pos z]; exact hk) hne p2.symm
    · exact z
  have k8 : 8 ≤ k := by
    rcases Nat.lt_or_ge k 8 with z | z
    · exfalso
      have e4 : (b.take 4).set k v = b.take 4 := List.set_eq_of_length_le (by rw [List.length_take]; omega)
      rw [List.drop_set, if_neg (by omega), List.take_set, e4, ← q2] at p2
      exact getB_near (b.drop 4) (k - 4) u v (by rw [List.getElem?_drop, show 4 + (k - 4) = k by omega]; exact hk) hne (by omega) p2
    · exact z
  have hg : getB (b.set k v) = getB b := getB_far b k v k4
  rw [hg] at p4 hf'
  have k12 : 12 ≤ k := by
    rcases Nat.lt_or_ge k 12 with z | z
    · exfalso
      rw [List.drop_set, if_neg (by omega), List.drop_set, if_pos z, ← q4] at p4
      exact getB_near (b.drop 8) (k - 8) u v (by rw [List.getElem?_drop, show 8 + (k - 8) = k by omega]; exact hk) hne (by omega) p4
    · exact z
  rw [List.drop_set, if_neg (by omega), getB_far _ _ _ (by omega), q4, List.drop_set, if_neg (by omega), List.take_set] at p4
  rw [List.drop_set, if_neg (by omega), List.take_set] at hf'
  have hl : ((b.drop 12).take (getB b)).length = getB b := by rw [List.length_take, List.length_drop]; omega
  have kn : 12 + getB b ≤ k := by
    rcases Nat.lt_or_ge (k - 12) (getB b) with z | z
    · exfalso
      refine crcP_set ((b.drop 12).take (getB b)) (k - 12) u v ?_ hne p4.symm
      rw [List.getElem?_take, if_pos z, List.getElem?_drop, show 12 + (k - 12) = k by omega]
      exact hk
    · omega
  rw [List.set_eq_of_length_le (by rw [hl]; omega)] at hf'
  rw [← hf', ← hf, hl]
  exact ⟨rfl, kn⟩
/-- A block of which one byte is changed is spoilt. -/
theorem opn_rot (b : List UInt8) (k : Nat) (u v : UInt8) (hk : b[k]? = some u) (hne : v ≠ u) {x z : List UInt8} (hx : OpnR b x) (hz : OpnR (b.set k v) z) : False :=
  sum_rot b k u v hk hne hx.2.1 hz.2.1
theorem blk_rot (b : List UInt8) (at0 : Nat) (ls : List Nat) (j k : Nat) (u v : UInt8) (hk : b[k]? = some u) :
    blkB (b.set k v) at0 ls j = blkB b at0 ls j ∨ ∃ i, (blkB b at0 ls j)[i]? = some u ∧ blkB (b.set k v) at0 ls j = (blkB b at0 ls j).set i v := by
  unfold blkB
  rw [List.drop_set]
  by_cases h1 : k < at0 + (ls.take j).sum
  · rw [if_pos h1]; exact .inl rfl
  · rw [if_neg h1, List.take_set]
    by_cases h2 : k - (at0 + (ls.take j).sum) < ls.getD j 0
    · refine .inr ⟨_, ?_, rfl⟩
      rw [List.getElem?_take, if_pos h2, List.getElem?_drop, show at0 + (ls.take j).sum + (k - (at0 + (ls.take j).sum)) = k by omega]
      exact hk
    · left
      exact List.set_eq_of_length_le (by rw [List.length_take]; omega)
theorem PlanR.rot {b : List UInt8} {k : Nat} {u v : UInt8} (hk : b[k]? = some u) (hne : v ≠ u) {s s' : Nat} {l l' : List Nat} {a a' : Nat} (hp : PlanR b s l a) (hp' : PlanR (b.set k v) s' l' a') : s' = s ∧ l' = l ∧ a' = a := by
  obtain ⟨h, x, g1, g2, g3, g4, g5, g6⟩ := id hp
  obtain ⟨h', x', g1', g2', g3', g4', g5', g6'⟩ := hp'
  obtain ⟨rfl, _⟩ := first_rot b h k u v hk hne g1 g1'
  have : PlanR b s' l' a' := ⟨h', x', g1, g2', g3', g4', by rw [g5', List.length_set], g6'⟩
  exact this.one hp
theorem PartR.rot {x c : List UInt8} {k : Nat} {u v : UInt8} (hp : PackR x c) (hx : x.length ≤ 100000) (hk : c[k]? = some u) (hne : v ≠ u) {f n : Nat} {y : List UInt8} (h : PartR (c.set k v) f n y) : f + n ≤ x.length ∧ y = (x.drop f).take n := by
  obtain ⟨X, hX, hc⟩ := id hp
  have hpl := pack_plan hX hc hx
  obtain ⟨s, l, a, h1, h2, h3⟩ := h
  obtain ⟨rfl, rfl, rfl⟩ := hpl.rot hk hne h1
  refine ⟨h2, ?_⟩
  refine PartR.one (b := c) (f := f) (n := n) ⟨_, _, _, hpl, h2, ?_⟩ (hp.part hx h2)
  rcases h3 with h3 | ⟨h4, xs, h5, h6, h7⟩
  · exact .inl h3
  · refine .inr ⟨h4, xs, h5, fun i z hz => ?_, h7⟩
    have h8 := h6 i z hz
    have hi : i < nBlk f n := by
      rcases Nat.lt_or_ge i xs.length with q | q
      · omega
      · rw [List.getElem?_eq_none q] at hz; cases hz
    have hall := hX.all
    have hkx : f / 1000 + i < X.length := by unfold nBlk at hi; omega
    obtain ⟨w, hw⟩ : ∃ w, X[f / 1000 + i]? = some w := ⟨_, List.getElem?_eq_getElem hkx⟩
    have hb := pack_blk (x := x) hc (f / 1000 + i) w hw
    have ho := (hall.2 _ w hw).open
    rcases blk_rot c (12 + (headP x.length X).length) (X.map List.length) (f / 1000 + i) k u v hk with e | ⟨j, e1, e2⟩
    · rw [e] at h8
      exact h8
    · exfalso
      rw [e2, hb] at h8
      rw [hb] at e1
      exact opn_rot w j u v e1 hne ho h8.1
theorem UnpR.rot {x c : List UInt8} {k : Nat} {u v : UInt8} (hp : PackR x c) (hx : x.length ≤ 100000) (hk : c[k]? = some u) (hne : v ≠ u) {y : List UInt8} (h : UnpR (c.set k v) y) : y = x := by
  obtain ⟨⟨l, a, h1⟩, h2⟩ := h
  obtain ⟨X, hX, hc⟩ := id hp
  obtain ⟨e, _, _⟩ := (pack_plan hX hc hx).rot hk hne h1
  have h3 := (h2.rot hp hx hk hne).2
  rw [h3, List.drop_zero, e, List.take_length]
end Go.Proofs.Ytdhnmcdgiddhdaa

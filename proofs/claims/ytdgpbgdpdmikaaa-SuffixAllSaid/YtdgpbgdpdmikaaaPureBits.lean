/-
  Bits as lists of Bools: plain Lean, no program in sight.
-/
set_option linter.unusedVariables false
set_option linter.unusedSimpArgs false
namespace Go.Proofs.Ytdgpbgdpdmikaaa

/-- The lowest n bits of v, the highest first. -/
def bitsOf (v n : Nat) : List Bool := (List.range n).map fun j => v.testBit (n - 1 - j)
/-- The number that bits make, the highest first. -/
def valOf (l : List Bool) : Nat := l.foldl (fun a b => 2 * a + b.toNat) 0
/-- The bits of bytes. -/
def bitsB (bs : List UInt8) : List Bool := bs.flatMap fun b => bitsOf b.toNat 8

theorem bitsOf_length (v n : Nat) : (bitsOf v n).length = n := by simp [bitsOf]
theorem bitsOf_get (v n j : Nat) (h : j < n) : (bitsOf v n)[j]? = some (v.testBit (n - 1 - j)) := by simp [bitsOf, h]
theorem bitsB_length (bs : List UInt8) : (bitsB bs).length = 8 * bs.length := by
  induction bs with
  | nil => rfl
  | cons b bs ih => simp only [bitsB, List.flatMap_cons, List.length_append, bitsOf_length, List.length_cons] at ih ⊢; omega
theorem bitsB_append (a b : List UInt8) : bitsB (a ++ b) = bitsB a ++ bitsB b := by simp [bitsB]
theorem bitsB_cons (b : UInt8) (bs : List UInt8) : bitsB (b :: bs) = bitsOf b.toNat 8 ++ bitsB bs := by simp [bitsB]
theorem bitsB_get (bs : List UInt8) (k : Nat) (b : UInt8) (h : bs[k / 8]? = some b) : (bitsB bs)[k]? = some (b.toNat.testBit (7 - k % 8)) := by
  induction bs generalizing k with
  | nil => simp at h
  | cons c bs ih =>
    rw [bitsB_cons, List.getElem?_append, bitsOf_length]
    by_cases hk : k < 8
    · rw [if_pos hk, bitsOf_get _ _ _ hk]
      have h0 : k / 8 = 0 := by omega
      rw [h0] at h
      simp at h
      subst h
      congr 2
      omega
    · rw [if_neg hk]
      have e : k / 8 = (k - 8) / 8 + 1 := by omega
      rw [e, List.getElem?_cons_succ] at h
      rw [ih (k - 8) h]
      congr 3
      omega
/-- One bit of a byte is set. -/
theorem bitsB_set (bs : List UInt8) (k : Nat) (b c : UInt8) (x : Bool) (h : bs[k / 8]? = some b)
    (hc : ∀ j, j < 8 → c.toNat.testBit j = (b.toNat.testBit j || (x && j == 7 - k % 8))) (hx : (bitsB bs)[k]? = some false) : bitsB (bs.set (k / 8) c) = (bitsB bs).set k x := by
  have hlt : k / 8 < bs.length := (List.getElem?_eq_some_iff.1 h).1
  apply List.ext_getElem?
  intro i
  by_cases hi : i < 8 * bs.length
  · have hi8 : i / 8 < bs.length := by omega
    obtain ⟨d, hd⟩ : ∃ d, bs[i / 8]? = some d := ⟨_, List.getElem?_eq_getElem hi8⟩
    rw [List.getElem?_set]
    by_cases e : k / 8 = i / 8
    · have hd' : (bs.set (k / 8) c)[i / 8]? = some c := by rw [e, List.getElem?_set_self hi8]
      rw [bitsB_get _ _ _ hd', hc _ (by omega)]
      have hbd : b = d := by rw [e, hd] at h; simpa using h.symm
      subst hbd
      by_cases e2 : k = i
      · subst e2
        rw [if_pos rfl, if_pos (by rw [bitsB_length]; omega)]
        rw [bitsB_get _ _ _ h] at hx
        simp only [Option.some.injEq] at hx
        simp [hx]
      · rw [if_neg e2, bitsB_get _ _ _ hd]
        have : (7 - i % 8 == 7 - k % 8) = false := by rw [beq_eq_false_iff_ne]; omega
        simp [this]
    · have hd' : (bs.set (k / 8) c)[i / 8]? = some d := by rw [List.getElem?_set_ne e]; exact hd
      rw [bitsB_get _ _ _ hd', if_neg (by intro e2; subst e2; exact e rfl), bitsB_get _ _ _ hd]
  · rw [List.getElem?_eq_none (by rw [bitsB_length, List.length_set]; omega), List.getElem?_eq_none (by rw [List.length_set, bitsB_length]; omega)]
theorem bitsB_zero : bitsB [0] = List.replicate 8 false := by decide

theorem valOf_snoc (l : List Bool) (b : Bool) : valOf (l ++ [b]) = 2 * valOf l + b.toNat := by simp [valOf, List.foldl_append]
theorem valOf_go (l : List Bool) (a : Nat) : l.foldl (fun a b => 2 * a + b.toNat) a = a * 2 ^ l.length + valOf l := by
  induction l generalizing a with
  | nil => simp [valOf]
  | cons b l ih =>
    have h1 := ih (2 * a + b.toNat)
    have h2 := ih (2 * 0 + b.toNat)
    simp only [valOf, List.foldl_cons, List.length_cons, Nat.pow_succ] at h1 h2 ⊢
    rw [h1, h2, Nat.add_mul, Nat.mul_zero, Nat.zero_add]
    have : 2 * a * 2 ^ l.length = a * (2 ^ l.length * 2) := by rw [Nat.mul_comm 2 a, Nat.mul_assoc, Nat.mul_comm 2]
    omega
theorem valOf_cons (b : Bool) (l : List Bool) : valOf (b :: l) = b.toNat * 2 ^ l.length + valOf l := by
  have := valOf_go l (2 * 0 + b.toNat)
  simp only [Nat.mul_zero, Nat.zero_add] at this
  simpa [valOf] using this
theorem valOf_lt (l : List Bool) : valOf l < 2 ^ l.length := by
  induction l with
  | nil => simp [valOf]
  | cons b l ih => rw [valOf_cons, List.length_cons, Nat.pow_succ]; cases b <;> simp <;> omega
theorem valOf_bitsOf (v n : Nat) : valOf (bitsOf v n) = v % 2 ^ n := by
  induction n with
  | zero => simp [bitsOf, valOf, Nat.mod_one]
  | succ n ih =>
    have e : bitsOf v (n + 1) = v.testBit n :: bitsOf v n := by
      simp only [bitsOf, List.range_succ_eq_map, List.map_cons, List.map_map]
      congr 1
      apply List.map_congr_left
      intro j hj
      simp only [Function.comp]
      congr 1
      omega
    rw [e, valOf_cons, bitsOf_length, ih, Nat.mod_pow_succ, Nat.testBit_eq_decide_div_mod_eq]
    have h2 : v / 2 ^ n % 2 < 2 := Nat.mod_lt _ (by omega)
    by_cases h : v / 2 ^ n % 2 = 1
    · simp [h]; omega
    · have : v / 2 ^ n % 2 = 0 := by omega
      simp [this]
theorem bitsOf_succ (v n : Nat) : bitsOf v (n + 1) = v.testBit n :: bitsOf v n := by
  simp only [bitsOf, List.range_succ_eq_map, List.map_cons, List.map_map]
  congr 1
  apply List.map_congr_left
  intro j hj
  simp only [Function.comp]
  congr 1
  omega
/-- One bit laid into a byte. -/
def setb (b : UInt8) (x : Bool) (s : Nat) : UInt8 := UInt8.ofNat (b.toNat ||| x.toNat * 2 ^ s)
theorem setb_toNat (b : UInt8) (x : Bool) (s : Nat) (hs : s ≤ 7) : (setb b x s).toNat = b.toNat ||| x.toNat * 2 ^ s := by
  unfold setb
  have h1 : x.toNat * 2 ^ s < 2 ^ 8 := by
    have : 2 ^ s ≤ 2 ^ 7 := Nat.pow_le_pow_right (by omega) hs
    cases x <;> simp <;> omega
  have h2 : b.toNat < 2 ^ 8 := b.toNat_lt
  have := Nat.or_lt_two_pow h2 h1
  simp only [UInt8.toNat_ofNat']
  omega
theorem setb_bit (b : UInt8) (x : Bool) (s : Nat) (hs : s ≤ 7) (j : Nat) : (setb b x s).toNat.testBit j = (b.toNat.testBit j || (x && j == s)) := by
  rw [setb_toNat b x s hs, Nat.testBit_or]
  cases x with
  | false => simp
  | true =>
    simp only [Bool.toNat_true, Nat.one_mul, Nat.testBit_two_pow, Bool.true_and]
    congr 1
    rw [Bool.eq_iff_iff]
    simp
    omega
/-- The bytes that hold bits, with noughts behind. -/
def Packed (bits : List Bool) (cs : List UInt8) : Prop := bitsB cs = bits ++ List.replicate (8 * cs.length - bits.length) false
instance (bits : List Bool) (cs : List UInt8) : Decidable (Packed bits cs) := inferInstanceAs (Decidable (_ = _))
theorem packed_zero {bits : List Bool} {cs : List UInt8} (h : Packed bits cs) (hl : bits.length ≤ 8 * cs.length) : Packed bits (cs ++ [0]) := by
  unfold Packed at *
  rw [bitsB_append, h, bitsB_zero, List.append_assoc, List.replicate_append_replicate]
  congr 2
  simp
  omega
theorem packed_set {bits : List Bool} {cs : List UInt8} (h : Packed bits cs) (x : Bool) (hl : bits.length < 8 * cs.length) (b : UInt8) (hb : cs[bits.length / 8]? = some b) :
    Packed (bits ++ [x]) (cs.set (bits.length / 8) (setb b x (7 - bits.length % 8))) := by
  have h0 : (bitsB cs)[bits.length]? = some false := by
    rw [h, List.getElem?_append_right (Nat.le_refl _), Nat.sub_self, List.getElem?_replicate]
    rw [if_pos (by omega)]
  unfold Packed
  rw [bitsB_set cs bits.length b _ x hb (fun j _ => setb_bit b x _ (by omega) j) h0, h, List.set_append_right _ _ (Nat.le_refl _), Nat.sub_self, List.length_set, List.length_append]
  obtain ⟨m, hm⟩ : ∃ m, 8 * cs.length - bits.length = m + 1 := ⟨8 * cs.length - bits.length - 1, by omega⟩
  rw [hm, List.replicate_succ, List.set_cons_zero]
  have : 8 * cs.length - (bits.length + [x].length) = m := by simp; omega
  rw [this]
  simp
/-- The bit that a reader meets. -/
theorem bitsB_at {cs : List UInt8} {k : Nat} (h : k < 8 * cs.length) : ∃ b, cs[k / 8]? = some b ∧ (bitsB cs)[k]? = some (b.toNat.testBit (7 - k % 8)) := by
  have h1 : k / 8 < cs.length := by omega
  exact ⟨_, List.getElem?_eq_getElem h1, bitsB_get _ _ _ (List.getElem?_eq_getElem h1)⟩
theorem bitsOf_inj (a b : UInt8) (h : bitsOf a.toNat 8 = bitsOf b.toNat 8) : a = b := by
  have h1 := congrArg valOf h
  rw [valOf_bitsOf, valOf_bitsOf] at h1
  have h2 := a.toNat_lt
  have h3 := b.toNat_lt
  apply UInt8.toNat_inj.1
  omega
theorem bitsB_inj : ∀ (a b : List UInt8), bitsB a = bitsB b → a = b
  | [], [], _ => rfl
  | [], b :: bs, h => by have := congrArg List.length h; rw [bitsB_length, bitsB_length] at this; simp at this
  | a :: as, [], h => by have := congrArg List.length h; rw [bitsB_length, bitsB_length] at this; simp at this
  | a :: as, b :: bs, h => by
    rw [bitsB_cons, bitsB_cons] at h
    have h1 := List.append_inj h (by rw [bitsOf_length, bitsOf_length])
    rw [bitsOf_inj a b h1.1, bitsB_inj as bs h1.2]
theorem packed_unique {bits : List Bool} {a b : List UInt8} (ha : Packed bits a) (hb : Packed bits b) (hl : a.length = b.length) : a = b := by
  apply bitsB_inj
  rw [ha, hb, hl]
theorem bitsOf_split (v n m : Nat) (h : m ≤ n) : bitsOf v n = bitsOf (v / 2 ^ m) (n - m) ++ bitsOf v m := by
  apply List.ext_getElem?
  intro j
  by_cases hj : j < n
  · rw [bitsOf_get _ _ _ hj]
    by_cases h2 : j < n - m
    · rw [List.getElem?_append_left (by rw [bitsOf_length]; exact h2), bitsOf_get _ _ _ h2, Nat.testBit_div_two_pow]
      congr 2
      omega
    · rw [List.getElem?_append_right (by rw [bitsOf_length]; omega), bitsOf_length, bitsOf_get _ _ _ (by omega)]
      congr 2
      omega
  · rw [List.getElem?_eq_none (by rw [bitsOf_length]; omega), List.getElem?_eq_none (by rw [List.length_append, bitsOf_length, bitsOf_length]; omega)]
theorem packed_self (bs : List UInt8) : Packed (bitsB bs) bs := by
  unfold Packed
  rw [bitsB_length, Nat.sub_self]
  simp
theorem bitsB_take_succ (bs : List UInt8) (i : Nat) (b : UInt8) (h : bs[i]? = some b) : bitsB (bs.take (i + 1)) = bitsB (bs.take i) ++ bitsOf b.toNat 8 := by
  rw [List.take_add_one, h, bitsB_append]
  simp [bitsB]
/-- The eight bits of a byte. -/
theorem valOf_byte (bs : List UInt8) (i : Nat) (b : UInt8) (h : bs[i]? = some b) : valOf (((bitsB bs).drop (8 * i)).take 8) = b.toNat := by
  obtain ⟨hlt, e⟩ := List.getElem?_eq_some_iff.1 h
  have e1 : bs = bs.take i ++ (b :: bs.drop (i + 1)) := by
    rw [← e, ← List.drop_eq_getElem_cons hlt, List.take_append_drop]
  rw [e1, bitsB_append, bitsB_cons]
  have hl : (bitsB (bs.take i)).length = 8 * i := by rw [bitsB_length, List.length_take]; omega
  rw [List.drop_append_of_le_length (by omega), ← hl, List.drop_length, List.nil_append, List.take_append_of_le_length (by rw [bitsOf_length]; exact Nat.le_refl _), List.take_of_length_le (by rw [bitsOf_length]; exact Nat.le_refl _), valOf_bitsOf]
  have := b.toNat_lt
  omega
/-- One element after the other is turned. -/
theorem turn_next {α : Type} (f : α → α) (l : List α) (i : Nat) (x : α) (h : l[i]? = some x) : ((l.take i).map f ++ l.drop i).set i (f x) = (l.take (i + 1)).map f ++ l.drop (i + 1) := by
  obtain ⟨hlt, e⟩ := List.getElem?_eq_some_iff.1 h
  have hl : ((l.take i).map f).length = i := by simp; omega
  rw [List.set_append_right _ _ (by omega), hl, Nat.sub_self, List.drop_eq_getElem_cons hlt, List.set_cons_zero, List.take_add_one, h, List.map_append, List.append_assoc]
  rfl
theorem turn_at {α : Type} (f : α → α) (l : List α) (i : Nat) : ((l.take i).map f ++ l.drop i)[i]? = l[i]? := by
  by_cases h : i < l.length
  · rw [List.getElem?_append_right (by simp; omega)]
    simp [Nat.min_eq_left (Nat.le_of_lt h)]
  · rw [List.getElem?_eq_none (by simp; omega), List.getElem?_eq_none (by omega)]
theorem packed_false {bits : List Bool} {cs : List UInt8} (h : Packed bits cs) (hl : bits.length < 8 * cs.length) : Packed (bits ++ [false]) cs := by
  unfold Packed at *
  obtain ⟨m, hm⟩ : ∃ m, 8 * cs.length - bits.length = m + 1 := ⟨8 * cs.length - bits.length - 1, by omega⟩
  rw [h, hm, List.replicate_succ, List.append_assoc]
  congr 2
  simp
  congr 1
  omega
theorem packed_none (n : Nat) : Packed [] (List.replicate n 0) := by
  unfold Packed
  rw [List.length_replicate, List.nil_append, List.length_nil, Nat.sub_zero]
  induction n with
  | zero => rfl
  | succ n ih =>
    rw [List.replicate_succ, bitsB_cons, ih, show 8 * (n + 1) = 8 + 8 * n from by omega, ← List.replicate_append_replicate]
    rfl
end Go.Proofs.Ytdgpbgdpdmikaaa

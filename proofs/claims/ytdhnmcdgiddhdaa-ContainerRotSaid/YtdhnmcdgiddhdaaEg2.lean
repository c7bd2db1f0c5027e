/-
  Texts joined: PureLen, PureLenB, PureLenC, AppG, Guard, Coin, CoinB.
-/
import Derived.Test.YtdhnmcdgiddhdaaEg1
import Derived.Deep.RegionLaw
/-
  Lengths of codes, plain: coins, packages, the merging of lists; how many leaves are taken at each level; Kraft; the least cost.
-/
set_option linter.unusedVariables false
set_option linter.unusedSimpArgs false
namespace Go.Proofs.Ytdhnmcdgiddhdaa
inductive Coin where
  | leaf (w s : Nat) : Coin
  | pack (a b : Coin) : Coin
deriving DecidableEq
def Coin.worth : Coin → Nat
  | .leaf w _ => w
  | .pack a b => a.worth + b.worth
/-- How often a symbol stands in a coin. -/
def Coin.cnt (s : Nat) : Coin → Nat
  | .leaf _ t => if t = s then 1 else 0
  | .pack a b => a.cnt s + b.cnt s
section
variable {α : Type}
def mergeF (key : α → Nat) : Nat → List α → List α → List α
  | 0, a, b => a ++ b
  | _ + 1, [], b => b
  | _ + 1, x :: a, [] => x :: a
  | n + 1, x :: a, y :: b => if key x ≤ key y then x :: mergeF key n a (y :: b) else y :: mergeF key n (x :: a) b
def mergeK (key : α → Nat) (a b : List α) : List α := mergeF key (a.length + b.length) a b
theorem mergeF_nil (key : α → Nat) (n : Nat) (b : List α) : mergeF key n [] b = b := by cases n <;> rfl
theorem mergeF_nil2 (key : α → Nat) (n : Nat) (a : List α) : mergeF key n a [] = a := by cases n <;> cases a <;> simp [mergeF]
theorem mergeK_nil (key : α → Nat) (b : List α) : mergeK key [] b = b := mergeF_nil _ _ _
theorem mergeK_nil2 (key : α → Nat) (a : List α) : mergeK key a [] = a := mergeF_nil2 _ _ _
theorem mergeK_cons (key : α → Nat) (x y : α) (a b : List α) : mergeK key (x :: a) (y :: b) = if key x ≤ key y then x :: mergeK key a (y :: b) else y :: mergeK key (x :: a) b := by
  unfold mergeK
  have e : (x :: a).length + (y :: b).length = (a.length + (y :: b).length) + 1 := by simp; omega
  have e2 : (x :: a).length + b.length = a.length + (y :: b).length := by simp; omega
  rw [e, e2, mergeF]
theorem mergeK_ind {P : List α → List α → Prop} (h1 : ∀ b, P [] b) (h2 : ∀ x a, P (x :: a) []) (h3 : ∀ x a y b, P a (y :: b) → P (x :: a) b → P (x :: a) (y :: b)) : ∀ a b, P a b
  | [], b => h1 b
  | x :: a, [] => h2 x a
  | x :: a, y :: b => h3 x a y b (mergeK_ind h1 h2 h3 a (y :: b)) (mergeK_ind h1 h2 h3 (x :: a) b)
termination_by a b => a.length + b.length
theorem mergeK_perm (key : α → Nat) : ∀ a b : List α, (mergeK key a b).Perm (a ++ b) := by
  apply mergeK_ind
  · intro b; rw [mergeK_nil]; exact List.Perm.refl _
  · intro x a; rw [mergeK_nil2, List.append_nil]
  · intro x a y b h1 h2
    rw [mergeK_cons]
    split
    · exact h1.cons x
    · refine (h2.cons y).trans ?_
      exact (List.perm_middle (l₁ := x :: a) (a := y) (l₂ := b)).symm
theorem mergeK_length (key : α → Nat) (a b : List α) : (mergeK key a b).length = a.length + b.length := by
  rw [(mergeK_perm key a b).length_eq, List.length_append]
def SortK (key : α → Nat) (l : List α) : Prop := l.Pairwise fun x y => key x ≤ key y
theorem mergeK_sorted (key : α → Nat) : ∀ a b : List α, SortK key a → SortK key b → SortK key (mergeK key a b) := by
  apply mergeK_ind
  · intro b _ h; rw [mergeK_nil]; exact h
  · intro x a h _; rw [mergeK_nil2]; exact h
  · intro x a y b h1 h2 ha hb
    unfold SortK at *
    rw [mergeK_cons]
    rw [List.pairwise_cons] at ha hb
    split
    · rename_i hle
      rw [List.pairwise_cons]
      refine ⟨fun z hz => ?_, h1 ha.2 (List.pairwise_cons.2 hb)⟩
      have := (mergeK_perm key a (y :: b)).subset hz
      rw [List.mem_append, List.mem_cons] at this
      rcases this with h | rfl | h
      · exact ha.1 z h
      · exact hle
      · exact Nat.le_trans hle (hb.1 z h)
    · rename_i hle
      rw [List.pairwise_cons]
      refine ⟨fun z hz => ?_, h2 (List.pairwise_cons.2 ha) hb.2⟩
      have := (mergeK_perm key (x :: a) b).subset hz
      rw [List.mem_append, List.mem_cons] at this
      rcases this with (rfl | h) | h
      · omega
      · have := ha.1 z h; omega
      · exact hb.1 z h
/-- The first m of a merged list: the first ones of both, and where they part. -/
theorem mergeK_take (key : α → Nat) : ∀ (a b : List α), ∀ m, m ≤ a.length + b.length → ∃ c p, c + p = m ∧ c ≤ a.length ∧ p ≤ b.length ∧ ((mergeK key a b).take m).Perm (a.take c ++ b.take p) ∧
    (∀ x y, SortK key a → SortK key b → a[c]? = some x → 0 < p → b[p - 1]? = some y → key y < key x) ∧ (∀ x y, SortK key a → SortK key b → 0 < c → a[c - 1]? = some x → b[p]? = some y → key x ≤ key y) := by
  apply mergeK_ind
  · intro b m hm
    simp only [List.length_nil, Nat.zero_add] at hm
    exact ⟨0, m, by omega, Nat.le_refl _, hm, by rw [mergeK_nil]; simp, by simp, by simp⟩
  · intro x a m hm
    simp only [List.length_nil, Nat.add_zero] at hm
    exact ⟨m, 0, by omega, hm, Nat.le_refl _, by rw [mergeK_nil2]; simp, by simp, by simp⟩
  · intro x a y b h1 h2 m hm
    rw [mergeK_cons]
    cases m with
    | zero => exact ⟨0, 0, rfl, Nat.zero_le _, Nat.zero_le _, by simp, by simp, by simp⟩
    | succ m =>
      simp only [List.length_cons] at hm
      split
      · rename_i hle
        obtain ⟨c, p, e1, e2, e3, e4, e5, e6⟩ := h1 m (by simp; omega)
        refine ⟨c + 1, p, by omega, by simp; omega, e3, by simpa using e4.cons x, ?_, ?_⟩
        · intro u v ha hb hu hp hv
          exact e5 u v (List.pairwise_cons.1 ha).2 hb (by simpa using hu) hp hv
        · intro u v ha hb _ hu hv
          cases c with
          | succ c => exact e6 u v (List.pairwise_cons.1 ha).2 hb (Nat.succ_pos _) (by simpa using hu) hv
          | zero =>
            simp at hu
            subst hu
            cases p with
            | zero => simp at hv; subst hv; exact hle
            | succ p =>
              simp only [List.getElem?_cons_succ] at hv
              have := (List.pairwise_cons.1 hb).1 v (List.mem_of_getElem? hv)
              omega
      · rename_i hle
        obtain ⟨c, p, e1, e2, e3, e4, e5, e6⟩ := h2 m (by simp; omega)
        refine ⟨c, p + 1, by omega, e2, by simp; omega, ?_, ?_, ?_⟩
        · rw [List.take_succ_cons, List.take_succ_cons]
          exact (e4.cons y).trans (List.perm_middle (l₁ := (x :: a).take c) (a := y) (l₂ := b.take p)).symm
        · intro u v ha hb hu _ hv
          cases p with
          | succ p => exact e5 u v ha (List.pairwise_cons.1 hb).2 hu (Nat.succ_pos _) (by simpa using hv)
          | zero =>
            simp at hv
            subst hv
            cases c with
            | zero => simp at hu; subst hu; omega
            | succ c =>
              simp only [List.getElem?_cons_succ] at hu
              have := (List.pairwise_cons.1 ha).1 u (List.mem_of_getElem? hu)
              omega
        · intro u v ha hb hc hu hv
          exact e6 u v ha (List.pairwise_cons.1 hb).2 hc hu (by simpa using hv)
end
def pairsC : List Coin → List Coin
  | x :: y :: l => .pack x y :: pairsC l
  | _ => []
def levelC (l : List Coin) : Nat → List Coin
  | 0 => l
  | k + 1 => mergeK Coin.worth l (pairsC (levelC l k))
theorem pairsC_length : ∀ l : List Coin, (pairsC l).length = l.length / 2
  | [] => rfl
  | [_] => by simp [pairsC]
  | _ :: _ :: l => by simp only [pairsC, List.length_cons, pairsC_length l]; omega
theorem pairsC_take : ∀ (l : List Coin) (p : Nat), 2 * p ≤ l.length → (pairsC l).take p = pairsC (l.take (2 * p))
  | _, 0, _ => by simp [pairsC]
  | [], p + 1, h => by simp at h
  | [_], p + 1, h => by simp at h; omega
  | x :: y :: l, p + 1, h => by
    rw [show 2 * (p + 1) = 2 * p + 1 + 1 from by omega]
    simp only [List.take_succ_cons, pairsC]
    rw [pairsC_take l p (by simp at h; omega)]
theorem pairsC_get : ∀ (l : List Coin) (p : Nat), 2 * p + 1 < l.length → ∃ x y, l[2 * p]? = some x ∧ l[2 * p + 1]? = some y ∧ (pairsC l)[p]? = some (.pack x y)
  | [], p, h => by simp at h
  | [_], p, h => by simp at h
  | x :: y :: l, 0, _ => ⟨x, y, rfl, rfl, rfl⟩
  | x :: y :: l, p + 1, h => by
    obtain ⟨u, v, h1, h2, h3⟩ := pairsC_get l p (by simp at h; omega)
    exact ⟨u, v, by rw [show 2 * (p + 1) = 2 * p + 1 + 1 from by omega]; simpa using h1, by rw [show 2 * (p + 1) + 1 = 2 * p + 1 + 1 + 1 from by omega]; simpa using h2, by simpa [pairsC] using h3⟩
theorem pairsC_sorted : ∀ l : List Coin, SortK Coin.worth l → SortK Coin.worth (pairsC l)
  | [], _ => List.Pairwise.nil
  | [_], _ => List.Pairwise.nil
  | x :: y :: l, h => by
    unfold SortK at *
    rw [pairsC]
    rw [List.pairwise_cons, List.pairwise_cons] at h
    rw [List.pairwise_cons]
    refine ⟨fun z hz => ?_, pairsC_sorted l h.2.2⟩
    obtain ⟨p, hp⟩ := List.mem_iff_getElem?.1 hz
    have hl := (List.getElem?_eq_some_iff.1 hp).1
    rw [pairsC_length] at hl
    obtain ⟨u, v, h1, h2, h3⟩ := pairsC_get l p (by omega)
    rw [hp] at h3
    cases h3
    have a1 := h.1 u (List.mem_cons_of_mem _ (List.mem_of_getElem? h1))
    have a2 := h.2.1 v (List.mem_of_getElem? h2)
    simp only [Coin.worth]
    omega
theorem levelC_sorted {l : List Coin} (h : SortK Coin.worth l) : ∀ k, SortK Coin.worth (levelC l k)
  | 0 => h
  | k + 1 => mergeK_sorted _ _ _ h (pairsC_sorted _ (levelC_sorted h k))
theorem levelC_length (l : List Coin) (k : Nat) : (levelC l (k + 1)).length = l.length + (levelC l k).length / 2 := by
  rw [levelC, mergeK_length, pairsC_length]
theorem level14_length (l : List Coin) (h1 : 2 ≤ l.length) (h : l.length ≤ 300) : 2 * l.length - 2 ≤ (levelC l 14).length := by
  have e := levelC_length l
  have h0 : (levelC l 0).length = l.length := rfl
  have s0 : 2 * l.length ≤ (levelC l 0).length + 300 := by omega
  have s1 : 2 * l.length ≤ (levelC l 1).length + 150 := by have q : (levelC l 1).length = l.length + (levelC l 0).length / 2 := e 0; omega
  have s2 : 2 * l.length ≤ (levelC l 2).length + 75 := by have q : (levelC l 2).length = l.length + (levelC l 1).length / 2 := e 1; omega
  have s3 : 2 * l.length ≤ (levelC l 3).length + 38 := by have q : (levelC l 3).length = l.length + (levelC l 2).length / 2 := e 2; omega
  have s4 : 2 * l.length ≤ (levelC l 4).length + 19 := by have q : (levelC l 4).length = l.length + (levelC l 3).length / 2 := e 3; omega
  have s5 : 2 * l.length ≤ (levelC l 5).length + 10 := by have q : (levelC l 5).length = l.length + (levelC l 4).length / 2 := e 4; omega
  have s6 : 2 * l.length ≤ (levelC l 6).length + 5 := by have q : (levelC l 6).length = l.length + (levelC l 5).length / 2 := e 5; omega
  have s7 : 2 * l.length ≤ (levelC l 7).length + 3 := by have q : (levelC l 7).length = l.length + (levelC l 6).length / 2 := e 6; omega
  have s8 : 2 * l.length ≤ (levelC l 8).length + 2 := by have q : (levelC l 8).length = l.length + (levelC l 7).length / 2 := e 7; omega
  have s9 : 2 * l.length ≤ (levelC l 9).length + 1 := by have q : (levelC l 9).length = l.length + (levelC l 8).length / 2 := e 8; omega
  have s10 : 2 * l.length ≤ (levelC l 10).length + 1 := by have q : (levelC l 10).length = l.length + (levelC l 9).length / 2 := e 9; omega
  have s11 : 2 * l.length ≤ (levelC l 11).length + 1 := by have q : (levelC l 11).length = l.length + (levelC l 10).length / 2 := e 10; omega
  have s12 : 2 * l.length ≤ (levelC l 12).length + 1 := by have q : (levelC l 12).length = l.length + (levelC l 11).length / 2 := e 11; omega
  have s13 : 2 * l.length ≤ (levelC l 13).length + 1 := by have q : (levelC l 13).length = l.length + (levelC l 12).length / 2 := e 12; omega
  have s14 : 2 * l.length ≤ (levelC l 14).length + 1 := by have q : (levelC l 14).length = l.length + (levelC l 13).length / 2 := e 13; omega
  omega
/-- Sums over lists of coins. -/
def sumC (g : Coin → Nat) (l : List Coin) : Nat := (l.map g).sum
theorem sumC_append (g : Coin → Nat) (a b : List Coin) : sumC g (a ++ b) = sumC g a + sumC g b := by simp [sumC]
theorem sumC_perm (g : Coin → Nat) {a b : List Coin} (h : a.Perm b) : sumC g a = sumC g b := (h.map g).sum_nat
theorem sumC_pairs (g : Coin → Nat) (hg : ∀ x y, g (.pack x y) = g x + g y) : ∀ (l : List Coin), l.length % 2 = 0 → sumC g (pairsC l) = sumC g l
  | [], _ => rfl
  | [_], h => by simp at h
  | x :: y :: l, h => by
    have := sumC_pairs g hg l (by simp at h; omega)
    simp only [pairsC, sumC, List.map_cons, List.sum_cons, hg] at *
    omega
theorem worth_get {l : List Coin} (h : SortK Coin.worth l) {i j : Nat} {x y : Coin} (hx : l[i]? = some x) (hy : l[j]? = some y) (hij : i ≤ j) : x.worth ≤ y.worth := by
  obtain ⟨h1, e1⟩ := List.getElem?_eq_some_iff.1 hx
  obtain ⟨h2, e2⟩ := List.getElem?_eq_some_iff.1 hy
  rcases Nat.lt_or_ge i j with q | q
  · have := List.pairwise_iff_getElem.1 h i j h1 h2 q
    rw [e1, e2] at this
    exact this
  · have : i = j := by omega
    subst this
    rw [hx] at hy
    cases hy
    exact Nat.le_refl _
def wsum : List Nat → Nat
  | [] => 0
  | c :: cs => c * 2 ^ cs.length + wsum cs
/-- The leaves that are taken, level by level from above: how many; each level takes no more than the one above. -/
theorem chain {l : List Coin} (h : SortK Coin.worth l) : ∀ (k m : Nat), m ≤ (levelC l k).length → ∃ cs : List Nat, cs.length = k + 1 ∧ (∀ c ∈ cs, c ≤ l.length) ∧ cs.Pairwise (fun a b => b ≤ a) ∧ m * 2 ^ k = wsum cs ∧
    (∀ g : Coin → Nat, (∀ x y, g (.pack x y) = g x + g y) → sumC g ((levelC l k).take m) = (cs.map fun c => sumC g (l.take c)).sum) ∧
    (∀ c, cs.head? = some c → ∀ i x, i < c → l[i]? = some x → x ∈ (levelC l k).take m) ∧
    (∀ c, cs.head? = some c → k = 0 → c = m) ∧
    (∀ c, cs.head? = some c → ∀ j, k = j + 1 → ∃ p, c + p = m ∧ p ≤ (pairsC (levelC l j)).length ∧ ∀ x y, l[c]? = some x → 0 < p → (pairsC (levelC l j))[p - 1]? = some y → y.worth < x.worth)
  | 0, m, hm => by
    refine ⟨[m], rfl, by simpa [levelC] using hm, List.pairwise_singleton _ _, by simp [wsum], fun g _ => by simp [levelC], ?_, fun c hc _ => by simpa using hc.symm, fun c _ j hj => by omega⟩
    intro c hc i x hi hx
    simp at hc
    subst hc
    exact List.mem_of_getElem? (i := i) (by rw [levelC, List.getElem?_take, if_pos hi]; exact hx)
  | k + 1, m, hm => by
    have hlen := hm
    rw [levelC, mergeK_length] at hlen
    obtain ⟨c, p, e1, e2, e3, e4, e5, e6⟩ := mergeK_take Coin.worth l (pairsC (levelC l k)) m hlen
    have hp2 : 2 * p ≤ (levelC l k).length := by rw [pairsC_length] at e3; omega
    obtain ⟨cs, f1, f2, f3, f4, f5, f6, f7, f8⟩ := chain h k (2 * p) hp2
    have hps := pairsC_sorted _ (levelC_sorted h k)
    have hhead : ∀ d, cs.head? = some d → d ≤ c := by
      intro d hd
      rcases Nat.lt_or_ge c d with q | q
      · exfalso
        have hdl : d ≤ l.length := f2 d (List.mem_of_mem_head? hd)
        obtain ⟨x, hx⟩ : ∃ x, l[c]? = some x := ⟨_, List.getElem?_eq_getElem (by omega)⟩
        have hmem := f6 d hd c x q hx
        obtain ⟨i, hi⟩ := List.mem_iff_getElem?.1 hmem
        rw [List.getElem?_take] at hi
        split at hi
        · rename_i hi2
          have hp0 : 0 < p := by omega
          obtain ⟨u, v, g1, g2, g3⟩ := pairsC_get (levelC l k) (p - 1) (by omega)
          have := e5 x _ h hps hx hp0 g3
          have hw := worth_get (levelC_sorted h k) hi g2 (by omega)
          simp only [Coin.worth] at this
          omega
        · cases hi
      · exact q
    refine ⟨c :: cs, by simp [f1], ?_, ?_, ?_, ?_, ?_, ?_, ?_⟩
    · intro d hd
      rcases List.mem_cons.1 hd with rfl | hd
      · exact e2
      · exact f2 d hd
    · rw [List.pairwise_cons]
      refine ⟨fun d hd => ?_, f3⟩
      cases cs with
      | nil => cases hd
      | cons z zs =>
        have hz := hhead z rfl
        rcases List.mem_cons.1 hd with rfl | hd
        · exact hz
        · exact Nat.le_trans ((List.pairwise_cons.1 f3).1 d hd) hz
    · rw [wsum, f1, ← f4, ← e1, Nat.pow_succ, Nat.add_mul, Nat.mul_assoc 2 p, Nat.mul_comm 2 (p * 2 ^ k), Nat.mul_assoc p]
    · intro g hg
      rw [levelC, sumC_perm g e4, sumC_append, pairsC_take _ _ hp2, sumC_pairs g hg _ (by rw [List.length_take]; omega), f5 g hg]
      simp
    · intro d hd i x hi hx
      simp at hd
      subst hd
      rw [levelC]
      exact e4.symm.subset (List.mem_append_left _ (List.mem_of_getElem? (i := i) (by rw [List.getElem?_take, if_pos hi]; exact hx)))
    · intro _ _ h0
      omega
    · intro d hd j hj
      simp at hd
      subst hd
      have : j = k := by omega
      subst this
      exact ⟨p, e1, e3, fun x y hx hp hy => e5 x y h hps hx hp hy⟩
/-- Not many packages are worth less than the last leaf. -/
theorem packs_few {l : List Coin} (h : SortK Coin.worth l) (hn : 2 ≤ l.length) {z : Coin} (hz : l[l.length - 1]? = some z) : ∀ (k p : Nat) (y : Coin), 0 < p → (pairsC (levelC l k))[p - 1]? = some y → y.worth < z.worth → p ≤ l.length - 2 := by
  have key : ∀ k p y, 0 < p → (pairsC (levelC l k))[p - 1]? = some y → y.worth < z.worth → ∀ i x, i < 2 * p → (levelC l k)[i]? = some x → x.worth < z.worth := by
    intro k p y hp hy hw i x hi hx
    have hl := (List.getElem?_eq_some_iff.1 hy).1
    rw [pairsC_length] at hl
    obtain ⟨u, v, g1, g2, g3⟩ := pairsC_get (levelC l k) (p - 1) (by omega)
    rw [hy] at g3
    cases g3
    have := worth_get (levelC_sorted h k) hx g2 (by omega)
    simp only [Coin.worth] at hw
    omega
  intro k
  induction k with
  | zero =>
    intro p y hp hy hw
    have hl := (List.getElem?_eq_some_iff.1 hy).1
    rw [pairsC_length, levelC] at hl
    have := key 0 p y hp hy hw
    rcases Nat.lt_or_ge (l.length - 1) (2 * p) with q | q
    · have := this (l.length - 1) z q hz
      omega
    · omega
  | succ k ih =>
    intro p y hp hy hw
    have hl := (List.getElem?_eq_some_iff.1 hy).1
    rw [pairsC_length] at hl
    have hall := key (k + 1) p y hp hy hw
    obtain ⟨c, q, e1, e2, e3, e4, _, _⟩ := mergeK_take Coin.worth l (pairsC (levelC l k)) (2 * p) (by rw [pairsC_length, ← levelC_length]; omega)
    have hmem : ∀ x ∈ (levelC l (k + 1)).take (2 * p), x.worth < z.worth := by
      intro x hx
      obtain ⟨i, hi⟩ := List.mem_iff_getElem?.1 hx
      rw [List.getElem?_take] at hi
      split at hi
      · exact hall i x (by assumption) hi
      · cases hi
    rw [levelC] at hmem
    have hc : c ≤ l.length - 1 := by
      rcases Nat.lt_or_ge (l.length - 1) c with q2 | q2
      · have := hmem z (e4.symm.subset (List.mem_append_left _ (List.mem_of_getElem? (i := l.length - 1) (by rw [List.getElem?_take, if_pos q2]; exact hz))))
        omega
      · exact q2
    have hq : q ≤ l.length - 2 := by
      cases q with
      | zero => omega
      | succ q =>
        obtain ⟨y2, hy2⟩ : ∃ y2, (pairsC (levelC l k))[q]? = some y2 := ⟨_, List.getElem?_eq_getElem (by omega)⟩
        refine ih (q + 1) y2 (Nat.succ_pos _) hy2 ?_
        exact hmem y2 (e4.symm.subset (List.mem_append_right _ (List.mem_of_getElem? (i := q) (by rw [List.getElem?_take, if_pos (Nat.lt_succ_self _)]; exact hy2))))
    omega
end Go.Proofs.Ytdhnmcdgiddhdaa
/-
  Lengths of codes, plain: how long each leaf's code is, and that Kraft's sum is whole; that no other lengths are cheaper.
-/
set_option linter.unusedVariables false
set_option linter.unusedSimpArgs false
namespace Go.Proofs.Ytdhnmcdgiddhdaa
/-- At how many levels a place is taken. -/
def li (cs : List Nat) (i : Nat) : Nat := cs.countP fun c => decide (i < c)
theorem li_le (cs : List Nat) (i : Nat) : li cs i ≤ cs.length := List.countP_le_length
theorem li_cons (c : Nat) (cs : List Nat) (i : Nat) : li (c :: cs) i = li cs i + if i < c then 1 else 0 := by
  unfold li
  rw [List.countP_cons]
  simp
theorem li_anti (cs : List Nat) {i j : Nat} (h : i ≤ j) : li cs j ≤ li cs i := by
  unfold li
  apply List.countP_mono_left
  intro c _ hc
  simp only [decide_eq_true_eq] at hc ⊢
  omega
theorem sum_map_add (l : List Nat) (f g : Nat → Nat) : (l.map fun i => f i + g i).sum = (l.map f).sum + (l.map g).sum := by
  induction l with
  | nil => rfl
  | cons x l ih => simp only [List.map_cons, List.sum_cons, ih]; omega
theorem sum_map_congr (l : List Nat) (f g : Nat → Nat) (h : ∀ i ∈ l, f i = g i) : (l.map f).sum = (l.map g).sum := by rw [List.map_congr_left h]
theorem sum_const (n k : Nat) : ((List.range n).map fun _ => k).sum = n * k := by
  induction n with
  | zero => simp
  | succ n ih => rw [List.range_succ, List.map_append, List.sum_append_nat, ih, Nat.add_mul]; simp
theorem sum_below (n c k : Nat) (h : c ≤ n) : ((List.range n).map fun i => if i < c then k else 0).sum = c * k := by
  induction n with
  | zero => have : c = 0 := by omega
            subst this; simp
  | succ n ih =>
    rw [List.range_succ, List.map_append, List.sum_append_nat]
    by_cases q : c ≤ n
    · rw [ih q]; simp; omega
    · have : c = n + 1 := by omega
      subst this
      rw [sum_map_congr _ _ (fun _ => k) (fun i hi => by rw [if_pos]; simp at hi; omega), sum_const, Nat.add_mul]
      simp
theorem kraft_cs (n : Nat) : ∀ cs : List Nat, (∀ c ∈ cs, c ≤ n) → cs.Pairwise (fun a b => b ≤ a) → ((List.range n).map fun i => 2 ^ cs.length - 2 ^ (cs.length - li cs i)).sum = wsum cs
  | [], _, _ => by simp [wsum, li, sum_const]
  | c :: cs, hle, hp => by
    rw [List.pairwise_cons] at hp
    have ih := kraft_cs n cs (fun d hd => hle d (List.mem_cons_of_mem _ hd)) hp.2
    have hc := hle c (List.mem_cons_self ..)
    rw [wsum, ← ih, ← sum_below n c (2 ^ cs.length) hc, ← sum_map_add]
    apply sum_map_congr
    intro i _
    rw [li_cons, List.length_cons]
    by_cases q : i < c
    · rw [if_pos q, if_pos q]
      have h1 := li_le cs i
      have h2 : 2 ^ (cs.length - li cs i) ≤ 2 ^ cs.length := Nat.pow_le_pow_right (by omega) (by omega)
      rw [show cs.length + 1 - (li cs i + 1) = cs.length - li cs i from by omega, Nat.pow_succ]
      omega
    · rw [if_neg q, if_neg q]
      have : li cs i = 0 := by
        unfold li
        rw [List.countP_eq_zero]
        intro d hd
        have := hp.1 d hd
        simp
        omega
      rw [this]
      simp
/-- What is taken of the leaves of a sorted list. -/
theorem taken {l : List Coin} (h : SortK Coin.worth l) (hn : 2 ≤ l.length) (hn2 : l.length ≤ 300) : ∃ cs : List Nat, cs.length = 15 ∧ cs.head? = some l.length ∧ (∀ c ∈ cs, c ≤ l.length) ∧ cs.Pairwise (fun a b => b ≤ a) ∧
    (2 * l.length - 2) * 2 ^ 14 = wsum cs ∧ ∀ g : Coin → Nat, (∀ x y, g (.pack x y) = g x + g y) → sumC g ((levelC l 14).take (2 * l.length - 2)) = (cs.map fun c => sumC g (l.take c)).sum := by
  obtain ⟨cs, h1, h2, h3, h4, h5, h6, h7, h8⟩ := chain h 14 (2 * l.length - 2) (level14_length l hn hn2)
  refine ⟨cs, h1, ?_, h2, h3, h4, h5⟩
  cases cs with
  | nil => simp at h1
  | cons c cs =>
    have hc := h2 c (List.mem_cons_self ..)
    obtain ⟨p, e1, e2, e3⟩ := h8 c rfl 13 rfl
    rcases Nat.lt_or_ge c l.length with q | q
    · exfalso
      have hp : 0 < p := by omega
      obtain ⟨x, hx⟩ : ∃ x, l[c]? = some x := ⟨_, List.getElem?_eq_getElem q⟩
      obtain ⟨y, hy⟩ : ∃ y, (pairsC (levelC l 13))[p - 1]? = some y := ⟨_, List.getElem?_eq_getElem (by omega)⟩
      obtain ⟨z, hz⟩ : ∃ z, l[l.length - 1]? = some z := ⟨_, List.getElem?_eq_getElem (by omega)⟩
      have hw := e3 x y hx hp hy
      have hxz := worth_get h hx hz (by omega)
      have := packs_few h hn hz 13 p y hp hy (by omega)
      omega
    · have : c = l.length := by omega
      subst this
      rfl
theorem kraft_whole {l : List Coin} {cs : List Nat} (h1 : cs.length = 15) (h2 : ∀ c ∈ cs, c ≤ l.length) (h3 : cs.Pairwise (fun a b => b ≤ a)) (hn : 2 ≤ l.length) (h4 : (2 * l.length - 2) * 2 ^ 14 = wsum cs) :
    ((List.range l.length).map fun i => 2 ^ (15 - li cs i)).sum = 2 ^ 15 := by
  have hk := kraft_cs l.length cs h2 h3
  rw [h1] at hk
  have hs : ((List.range l.length).map fun i => 2 ^ (15 - li cs i)).sum + ((List.range l.length).map fun i => 2 ^ 15 - 2 ^ (15 - li cs i)).sum = l.length * 2 ^ 15 := by
    rw [← sum_map_add, ← sum_const]
    apply sum_map_congr
    intro i _
    have : 2 ^ (15 - li cs i) ≤ 2 ^ 15 := Nat.pow_le_pow_right (by omega) (by omega)
    omega
  rw [hk, ← h4] at hs
  omega
/-! No other lengths are cheaper -/
def worths (l : List Coin) (m : Nat) : Nat := sumC Coin.worth (l.take m)
theorem sumC_take_split (g : Coin → Nat) (l : List Coin) {i j : Nat} (h : i ≤ j) : sumC g (l.take j) = sumC g (l.take i) + sumC g ((l.take j).drop i) := by
  rw [← sumC_append]
  congr 1
  have := List.take_append_drop i (l.take j)
  rw [List.take_take, Nat.min_eq_left h] at this
  exact this.symm
theorem sumC_le_of (l : List Coin) (z : Nat) (h : ∀ x ∈ l, x.worth ≤ z) : sumC Coin.worth l ≤ l.length * z := by
  induction l with
  | nil => simp [sumC]
  | cons x l ih =>
    have h1 := h x (List.mem_cons_self ..)
    have h2 := ih fun y hy => h y (List.mem_cons_of_mem _ hy)
    simp only [sumC, List.map_cons, List.sum_cons, List.length_cons, Nat.add_mul] at *
    omega
theorem sumC_ge_of (l : List Coin) (z : Nat) (h : ∀ x ∈ l, z ≤ x.worth) : l.length * z ≤ sumC Coin.worth l := by
  induction l with
  | nil => simp
  | cons x l ih =>
    have h1 := h x (List.mem_cons_self ..)
    have h2 := ih fun y hy => h y (List.mem_cons_of_mem _ hy)
    simp only [sumC, List.map_cons, List.sum_cons, List.length_cons, Nat.add_mul] at *
    omega
/-- The stretch of a sorted list ahead of a place is not worth more than as long a stretch behind a dearer one. -/
theorem stretch {a b : List Coin} (ha : SortK Coin.worth a) (hb : SortK Coin.worth b) {i c p j : Nat} (h1 : i ≤ c) (hc : c ≤ a.length) (h2 : p ≤ j) (hj : j ≤ b.length) (he : c - i = j - p)
    (hx : ∀ x y, 0 < c → a[c - 1]? = some x → b[p]? = some y → x.worth ≤ y.worth) : worths a c + worths b p ≤ worths a i + worths b j := by
  unfold worths
  rw [sumC_take_split Coin.worth a h1, sumC_take_split Coin.worth b h2]
  rcases Nat.eq_or_lt_of_le h1 with q | q
  · have e1 : (a.take c).drop i = [] := by rw [List.drop_eq_nil_iff, List.length_take]; omega
    rw [e1]
    simp only [sumC, List.map_nil, List.sum_nil]
    omega
  · obtain ⟨x, hx1⟩ : ∃ x, a[c - 1]? = some x := ⟨_, List.getElem?_eq_getElem (by omega)⟩
    obtain ⟨y, hy1⟩ : ∃ y, b[p]? = some y := ⟨_, List.getElem?_eq_getElem (by omega)⟩
    have hxy := hx x y (by omega) hx1 hy1
    have s1 := sumC_le_of ((a.take c).drop i) x.worth (by
      intro u hu
      obtain ⟨k, hk⟩ := List.mem_iff_getElem?.1 hu
      rw [List.getElem?_drop, List.getElem?_take] at hk
      split at hk
      · exact worth_get ha hk hx1 (by omega)
      · cases hk)
    have s2 := sumC_ge_of ((b.take j).drop p) y.worth (by
      intro u hu
      obtain ⟨k, hk⟩ := List.mem_iff_getElem?.1 hu
      rw [List.getElem?_drop, List.getElem?_take] at hk
      split at hk
      · exact worth_get hb hy1 hk (by omega)
      · cases hk)
    have l1 : ((a.take c).drop i).length = c - i := by rw [List.length_drop, List.length_take]; omega
    have l2 : ((b.take j).drop p).length = c - i := by rw [List.length_drop, List.length_take]; omega
    rw [l1] at s1
    rw [l2] at s2
    have := Nat.mul_le_mul_left (c - i) hxy
    omega
/-- The first ones of a merged list are the cheapest. -/
theorem merge_cheap {a b : List Coin} (ha : SortK Coin.worth a) (hb : SortK Coin.worth b) {i j : Nat} (hi : i ≤ a.length) (hj : j ≤ b.length) : worths (mergeK Coin.worth a b) (i + j) ≤ worths a i + worths b j := by
  obtain ⟨c, p, e1, e2, e3, e4, e5, e6⟩ := mergeK_take Coin.worth a b (i + j) (by omega)
  have e : worths (mergeK Coin.worth a b) (i + j) = worths a c + worths b p := by
    unfold worths
    rw [sumC_perm _ e4, sumC_append]
  rw [e]
  rcases Nat.lt_or_ge i c with q | q
  · exact stretch ha hb (by omega) e2 (by omega) hj (by omega) (fun x y h1 h2 h3 => e6 x y ha hb h1 h2 h3)
  · have := stretch hb ha (i := j) (c := p) (p := c) (j := i) (by omega) e3 (by omega) hi (by omega) (fun x y h1 h2 h3 => Nat.le_of_lt (e5 y x ha hb h3 h1 h2))
    omega
/-- Any choice of leaves, level by level (ds: how many at each level, from below). -/
theorem level_cheap {l : List Coin} (h : SortK Coin.worth l) : ∀ (k : Nat) (ds : Nat → Nat) (ms : Nat → Nat), (∀ j, j ≤ k → ds j ≤ l.length) → ms 0 = ds 0 → (∀ j, j < k → ms (j + 1) = ds (j + 1) + ms j / 2) →
    ms k ≤ (levelC l k).length ∧ worths (levelC l k) (ms k) ≤ ((List.range (k + 1)).map fun j => worths l (ds j)).sum
  | 0, ds, ms, h1, h2, _ => by
    rw [h2]
    exact ⟨h1 0 (Nat.le_refl _), by simp [levelC]⟩
  | k + 1, ds, ms, h1, h2, h3 => by
    obtain ⟨i1, i2⟩ := level_cheap h k ds ms (fun j hj => h1 j (by omega)) h2 (fun j hj => h3 j (by omega))
    have hp : ms k / 2 ≤ (pairsC (levelC l k)).length := by rw [pairsC_length]; omega
    have hd := h1 (k + 1) (Nat.le_refl _)
    have hm := merge_cheap h (pairsC_sorted _ (levelC_sorted h k)) hd hp
    rw [h3 k (Nat.lt_succ_self _)]
    refine ⟨by rw [levelC_length]; rw [pairsC_length] at hp; omega, ?_⟩
    rw [levelC, List.range_succ, List.map_append, List.sum_append_nat]
    have hw : worths (pairsC (levelC l k)) (ms k / 2) ≤ worths (levelC l k) (ms k) := by
      unfold worths
      rw [pairsC_take _ _ (by omega), sumC_pairs Coin.worth (fun _ _ => rfl) _ (by rw [List.length_take]; omega)]
      rw [sumC_take_split Coin.worth (levelC l k) (show 2 * (ms k / 2) ≤ ms k by omega)]
      omega
    simp only [List.map_cons, List.map_nil, List.sum_cons, List.sum_nil]
    omega
end Go.Proofs.Ytdhnmcdgiddhdaa
/-
  Lengths of codes, plain: from frequencies to lengths: bounds, Kraft, cost, order, the least cost.
-/
set_option linter.unusedVariables false
set_option linter.unusedSimpArgs false
namespace Go.Proofs.Ytdhnmcdgiddhdaa
def Coin.sym : Coin → Nat
  | .leaf _ s => s
  | .pack _ _ => 0
def leavesP (F : List Nat) : List Coin := ((List.range F.length).filter fun s => decide (0 < F.getD s 0)).map fun s => Coin.leaf (F.getD s 0) s
/-- In order, equal ones by their symbols. -/
def lexC (x y : Coin) : Prop := x.worth < y.worth ∨ (x.worth = y.worth ∧ x.sym < y.sym)
def insC (x : Coin) : List Coin → List Coin
  | [] => [x]
  | y :: l => if x.worth < y.worth then x :: y :: l else y :: insC x l
def sortC (l : List Coin) : List Coin := l.foldl (fun acc x => insC x acc) []
theorem insC_perm (x : Coin) : ∀ l, (insC x l).Perm (x :: l)
  | [] => List.Perm.refl _
  | y :: l => by
    rw [insC]
    split
    · exact List.Perm.refl _
    · exact ((insC_perm x l).cons y).trans (List.Perm.swap x y l)
theorem insC_lex (x : Coin) : ∀ l, l.Pairwise lexC → (∀ y ∈ l, y.sym < x.sym) → (insC x l).Pairwise lexC
  | [], _, _ => List.pairwise_singleton _ _
  | y :: l, h, hs => by
    rw [insC]
    rw [List.pairwise_cons] at h
    split
    · rename_i hlt
      rw [List.pairwise_cons, List.pairwise_cons]
      refine ⟨fun z hz => ?_, h⟩
      rcases List.mem_cons.1 hz with rfl | hz
      · exact .inl hlt
      · rcases h.1 z hz with q | ⟨q, _⟩
        · exact .inl (by omega)
        · exact .inl (by omega)
    · rename_i hlt
      rw [List.pairwise_cons]
      refine ⟨fun z hz => ?_, insC_lex x l h.2 fun z hz => hs z (List.mem_cons_of_mem _ hz)⟩
      rcases List.mem_cons.1 ((insC_perm x l).subset hz) with rfl | hz
      · have := hs y (List.mem_cons_self ..)
        rcases Nat.lt_or_ge y.worth z.worth with q | q
        · exact .inl q
        · exact .inr ⟨by omega, this⟩
      · exact h.1 z hz
theorem foldl_ins : ∀ (l acc : List Coin), acc.Pairwise lexC → l.Pairwise (fun x y => x.sym < y.sym) → (∀ x ∈ acc, ∀ y ∈ l, x.sym < y.sym) → (l.foldl (fun acc x => insC x acc) acc).Perm (l ++ acc) ∧ (l.foldl (fun acc x => insC x acc) acc).Pairwise lexC
  | [], acc, h, _, _ => ⟨List.Perm.refl _, h⟩
  | x :: l, acc, h, h2, h3 => by
    rw [List.pairwise_cons] at h2
    obtain ⟨p, q⟩ := foldl_ins l (insC x acc) (insC_lex x acc h fun y hy => h3 y hy x (List.mem_cons_self ..)) h2.2 (by
      intro y hy z hz
      rcases List.mem_cons.1 ((insC_perm x acc).subset hy) with rfl | hy
      · exact h2.1 z hz
      · exact h3 y hy z (List.mem_cons_of_mem _ hz))
    refine ⟨p.trans ?_, q⟩
    refine (List.Perm.append_left l (insC_perm x acc)).trans ?_
    exact List.perm_middle
theorem leavesP_syms (F : List Nat) : (leavesP F).Pairwise fun x y => x.sym < y.sym := by
  unfold leavesP
  rw [List.pairwise_map]
  exact List.Pairwise.filter _ List.pairwise_lt_range
theorem sortC_spec (F : List Nat) : (sortC (leavesP F)).Perm (leavesP F) ∧ (sortC (leavesP F)).Pairwise lexC := by
  have := foldl_ins (leavesP F) [] List.Pairwise.nil (leavesP_syms F) (by simp)
  rw [List.append_nil] at this
  exact this
theorem lexC_unique {a b : List Coin} (h : a.Perm b) (ha : a.Pairwise lexC) (hb : b.Pairwise lexC) : a = b := by
  refine List.Perm.eq_of_pairwise (le := lexC) ?_ ha hb h
  intro x y _ _ h1 h2
  unfold lexC at h1 h2
  omega
/-- The leaves in order. -/
def srt (F : List Nat) : List Coin := sortC (leavesP F)
theorem srt_perm (F : List Nat) : (srt F).Perm (leavesP F) := (sortC_spec F).1
theorem srt_lex (F : List Nat) : (srt F).Pairwise lexC := (sortC_spec F).2
theorem srt_sorted (F : List Nat) : SortK Coin.worth (srt F) := (srt_lex F).imp fun h => by unfold lexC at h; omega
theorem srt_mem {F : List Nat} {x : Coin} (h : x ∈ srt F) : ∃ s, s < F.length ∧ 0 < F.getD s 0 ∧ x = .leaf (F.getD s 0) s := by
  have := (srt_perm F).subset h
  unfold leavesP at this
  rw [List.mem_map] at this
  obtain ⟨s, hs, rfl⟩ := this
  rw [List.mem_filter] at hs
  exact ⟨s, by simpa using hs.1, by simpa using hs.2, rfl⟩
theorem srt_has {F : List Nat} {s : Nat} (h : 0 < F.getD s 0) : ∃ i : Nat, (srt F)[i]? = some (Coin.leaf (F.getD s 0) s) := by
  apply List.mem_iff_getElem?.1
  refine (srt_perm F).symm.subset ?_
  unfold leavesP
  rw [List.mem_map]
  refine ⟨s, ?_, rfl⟩
  rw [List.mem_filter]
  refine ⟨?_, by simpa using h⟩
  rw [List.mem_range]
  rcases Nat.lt_or_ge s F.length with q | q
  · exact q
  · rw [List.getD_eq_getElem?_getD, List.getElem?_eq_none q] at h
    simp at h
theorem srt_nodup (F : List Nat) : ((srt F).map Coin.sym).Nodup := by
  refine (List.Perm.nodup_iff ((srt_perm F).map Coin.sym)).2 ?_
  have := leavesP_syms F
  rw [List.Nodup, List.pairwise_map]
  exact this.imp fun h => by omega
theorem srt_length_le (F : List Nat) : (srt F).length ≤ F.length := by
  rw [(srt_perm F).length_eq]
  unfold leavesP
  rw [List.length_map]
  exact Nat.le_trans (List.length_filter_le _ _) (by simp)
def lenP (F : List Nat) (s : Nat) : Nat :=
  if (srt F).length < 2 then (if 0 < F.getD s 0 then 1 else 0) else sumC (Coin.cnt s) ((levelC (srt F) 14).take (2 * (srt F).length - 2))
/-- A symbol's leaf among the first ones. -/
theorem cnt_take : ∀ (l : List Coin) (i c w s : Nat), (∀ x ∈ l, ∃ v t, x = .leaf v t) → (l.map Coin.sym).Nodup → l[i]? = some (.leaf w s) → sumC (Coin.cnt s) (l.take c) = if i < c then 1 else 0
  | [], i, c, w, s, _, _, h => by simp at h
  | x :: l, i, 0, w, s, _, _, _ => by simp [sumC]
  | x :: l, 0, c + 1, w, s, hl, hn, h => by
    simp at h
    subst h
    rw [List.map_cons, List.nodup_cons] at hn
    rw [List.take_succ_cons, if_pos (Nat.succ_pos _)]
    have h0 : sumC (Coin.cnt s) (l.take c) = 0 := by
      unfold sumC
      rw [List.sum_eq_zero_iff_forall_eq_nat]
      intro z hz
      obtain ⟨y, hy, rfl⟩ := List.mem_map.1 hz
      have hy' := List.mem_of_mem_take hy
      obtain ⟨v, t, rfl⟩ := hl y (List.mem_cons_of_mem _ hy')
      have : t ≠ s := by
        rintro rfl
        exact hn.1 (List.mem_map.2 ⟨_, hy', rfl⟩)
      simp [Coin.cnt, this]
    unfold sumC at *
    rw [List.map_cons, List.sum_cons, h0]
    simp [Coin.cnt]
  | x :: l, i + 1, c + 1, w, s, hl, hn, h => by
    rw [List.map_cons, List.nodup_cons] at hn
    have h' : l[i]? = some (.leaf w s) := by simpa using h
    have ih := cnt_take l i c w s (fun y hy => hl y (List.mem_cons_of_mem _ hy)) hn.2 h'
    obtain ⟨v, t, rfl⟩ := hl x (List.mem_cons_self ..)
    have : t ≠ s := by
      rintro rfl
      exact hn.1 (List.mem_map.2 ⟨_, List.mem_of_getElem? h', rfl⟩)
    rw [List.take_succ_cons]
    unfold sumC at *
    rw [List.map_cons, List.sum_cons, ih]
    simp [Coin.cnt, this]
theorem cnt_none (l : List Coin) (s c : Nat) (h : ∀ x ∈ l, ∃ v t, x = Coin.leaf v t ∧ t ≠ s) : sumC (Coin.cnt s) (l.take c) = 0 := by
  unfold sumC
  rw [List.sum_eq_zero_iff_forall_eq_nat]
  intro z hz
  obtain ⟨y, hy, rfl⟩ := List.mem_map.1 hz
  obtain ⟨v, t, rfl, ht⟩ := h y (List.mem_of_mem_take hy)
  simp [Coin.cnt, ht]
theorem sum_li (cs : List Nat) (i : Nat) : (cs.map fun c => if i < c then 1 else 0).sum = li cs i := by
  induction cs with
  | nil => rfl
  | cons c cs ih => rw [List.map_cons, List.sum_cons, ih, li_cons]; omega
/-- How long each symbol's code is. -/
theorem lenP_chain {F : List Nat} (h2 : 2 ≤ (srt F).length) (h3 : (srt F).length ≤ 300) : ∃ cs : List Nat, cs.length = 15 ∧ cs.head? = some (srt F).length ∧ (∀ c ∈ cs, c ≤ (srt F).length) ∧ cs.Pairwise (fun a b => b ≤ a) ∧ (2 * (srt F).length - 2) * 2 ^ 14 = wsum cs ∧
    sumC Coin.worth ((levelC (srt F) 14).take (2 * (srt F).length - 2)) = (cs.map fun c => worths (srt F) c).sum ∧ (∀ i s, (srt F)[i]? = some (.leaf (F.getD s 0) s) → lenP F s = li cs i) ∧ ∀ s, F.getD s 0 = 0 → lenP F s = 0 := by
  obtain ⟨cs, h4, h5, h6, h7, h8, h9⟩ := taken (srt_sorted F) h2 h3
  refine ⟨cs, h4, h5, h6, h7, h8, h9 Coin.worth (fun _ _ => rfl), ?_, ?_⟩
  · intro i s hi
    unfold lenP
    rw [if_neg (by omega), h9 (Coin.cnt s) (fun _ _ => rfl), ← sum_li]
    congr 1
    apply List.map_congr_left
    intro c _
    exact cnt_take (srt F) i c _ s (fun x hx => by obtain ⟨t, _, _, rfl⟩ := srt_mem hx; exact ⟨_, _, rfl⟩) (srt_nodup F) hi
  · intro s hs
    unfold lenP
    rw [if_neg (by omega), h9 (Coin.cnt s) (fun _ _ => rfl), List.sum_eq_zero_iff_forall_eq_nat]
    intro z hz
    obtain ⟨c, _, rfl⟩ := List.mem_map.1 hz
    refine cnt_none _ _ _ fun x hx => ?_
    obtain ⟨t, _, ht, rfl⟩ := srt_mem hx
    exact ⟨_, _, rfl, by rintro rfl; omega⟩
theorem lenP_zero {F : List Nat} (hF : F.length ≤ 300) {s : Nat} (h : F.getD s 0 = 0) : lenP F s = 0 := by
  rcases Nat.lt_or_ge (srt F).length 2 with q | q
  · unfold lenP; rw [if_pos q, if_neg (by omega)]
  · obtain ⟨cs, _, _, _, _, _, _, _, h9⟩ := lenP_chain q (Nat.le_trans (srt_length_le F) hF)
    exact h9 s h
theorem lenP_bounds {F : List Nat} (hF : F.length ≤ 300) {s : Nat} (h : 0 < F.getD s 0) : 1 ≤ lenP F s ∧ lenP F s ≤ 15 := by
  rcases Nat.lt_or_ge (srt F).length 2 with q | q
  · unfold lenP; rw [if_pos q, if_pos h]; omega
  · obtain ⟨cs, h4, h5, _, _, _, _, h8, _⟩ := lenP_chain q (Nat.le_trans (srt_length_le F) hF)
    obtain ⟨i, hi⟩ := srt_has h
    rw [h8 i s hi]
    have hl := (List.getElem?_eq_some_iff.1 hi).1
    refine ⟨?_, by rw [← h4]; exact li_le cs i⟩
    cases cs with
    | nil => simp at h4
    | cons c cs =>
      simp at h5
      rw [li_cons, if_pos (by omega)]
      omega
theorem lenP_order {F : List Nat} (hF : F.length ≤ 300) {i k : Nat} (h1 : F.getD k 0 < F.getD i 0) (h2 : 0 < F.getD k 0) : lenP F i ≤ lenP F k := by
  rcases Nat.lt_or_ge (srt F).length 2 with q | q
  · unfold lenP; rw [if_pos q, if_pos q, if_pos h2, if_pos (by omega)]; omega
  · obtain ⟨cs, _, _, _, _, _, _, h8, _⟩ := lenP_chain q (Nat.le_trans (srt_length_le F) hF)
    obtain ⟨a, ha⟩ := srt_has (show 0 < F.getD i 0 by omega)
    obtain ⟨b, hb⟩ := srt_has h2
    rw [h8 a i ha, h8 b k hb]
    apply li_anti
    rcases Nat.lt_or_ge a b with c | c
    · have := worth_get (srt_sorted F) ha hb (by omega)
      simp only [Coin.worth] at this
      omega
    · exact c
/-! Sums over the symbols -/
theorem sum_syms (F : List Nat) (g : Nat → Nat) (h : ∀ s, F.getD s 0 = 0 → g s = 0) : ((List.range F.length).map g).sum = ((srt F).map fun x => g x.sym).sum := by
  have e : ((srt F).map fun x => g x.sym).sum = ((leavesP F).map fun x => g x.sym).sum := ((srt_perm F).map _).sum_nat
  rw [e]
  unfold leavesP
  rw [List.map_map]
  have key : ∀ l : List Nat, (l.map g).sum = ((l.filter fun s => decide (0 < F.getD s 0)).map ((fun x : Coin => g x.sym) ∘ fun s => Coin.leaf (F.getD s 0) s)).sum := by
    intro l
    induction l with
    | nil => rfl
    | cons s l ih =>
      rw [List.map_cons, List.sum_cons, ih, List.filter_cons]
      by_cases q : 0 < F.getD s 0
      · rw [if_pos (by simpa using q)]
        rfl
      · rw [if_neg (by simpa using q), h s (by omega), Nat.zero_add]
  exact key _
theorem sum_index (l : List Coin) (h : Coin → Nat) (g : Nat → Nat) (hg : ∀ i x, l[i]? = some x → h x = g i) : (l.map h).sum = ((List.range l.length).map g).sum := by
  congr 1
  apply List.ext_getElem?
  intro i
  by_cases hi : i < l.length
  · have e : l[i]? = some (l[i]'hi) := List.getElem?_eq_getElem hi
    rw [List.getElem?_map, List.getElem?_map, e, List.getElem?_range hi]
    simp only [Option.map_some]
    rw [hg i _ e]
  · rw [List.getElem?_eq_none (by simpa using hi), List.getElem?_eq_none (by simpa using hi)]
def krP (L : Nat) : Nat := if 1 ≤ L ∧ L ≤ 15 then 2 ^ (15 - L) else 0
theorem kraft_lenP {F : List Nat} (hF : F.length ≤ 300) : ((List.range F.length).map fun s => krP (lenP F s)).sum = if (srt F).length = 0 then 0 else if (srt F).length = 1 then 2 ^ 14 else 2 ^ 15 := by
  rw [sum_syms F _ (fun s h => by rw [lenP_zero hF h]; rfl)]
  rcases Nat.lt_or_ge (srt F).length 2 with q | q
  · match hs : srt F, q with
    | [], _ => rfl
    | [x], _ =>
      obtain ⟨s, _, h2, rfl⟩ := srt_mem (F := F) (x := x) (by rw [hs]; exact List.mem_cons_self ..)
      have : lenP F s = 1 := by unfold lenP; rw [hs, if_pos (by simp), if_pos h2]
      simp [Coin.sym, this, krP]
  · obtain ⟨cs, h4, h5, h6, h7, h8, _, h10, _⟩ := lenP_chain q (Nat.le_trans (srt_length_le F) hF)
    rw [if_neg (by omega), if_neg (by omega), ← kraft_whole h4 h6 h7 q h8]
    apply sum_index
    intro i x hi
    obtain ⟨s, _, h2, rfl⟩ := srt_mem (List.mem_of_getElem? hi)
    obtain ⟨b1, b2⟩ := lenP_bounds hF h2
    show krP (lenP F s) = _
    unfold krP
    rw [if_pos ⟨b1, b2⟩, h10 i s hi]
/-- What all takes. -/
def costP (F : List Nat) (L : Nat → Nat) : Nat := ((List.range F.length).map fun s => F.getD s 0 * L s).sum
def leastP (F : List Nat) : Nat := if (srt F).length < 2 then sumC Coin.worth (srt F) else worths (levelC (srt F) 14) (2 * (srt F).length - 2)
theorem worths_index (l : List Coin) (c : Nat) (hc : c ≤ l.length) : worths l c = ((List.range l.length).map fun i => if i < c then (l.map Coin.worth).getD i 0 else 0).sum := by
  induction l generalizing c with
  | nil => simp [worths, sumC]
  | cons x l ih =>
    rw [List.length_cons, List.range_succ_eq_map, List.map_cons, List.sum_cons, List.map_map]
    cases c with
    | zero =>
      have e : (List.map ((fun i => if i < 0 then (x.worth :: l.map Coin.worth).getD i 0 else 0) ∘ Nat.succ) (List.range l.length)).sum = 0 := by
        rw [sum_map_congr _ _ (fun _ => 0) (fun i _ => by simp), sum_const, Nat.mul_zero]
      rw [List.map_cons, e]
      simp [worths, sumC]
    | succ c =>
      have := ih c (by simpa using hc)
      unfold worths sumC at *
      rw [List.take_succ_cons, List.map_cons, List.sum_cons, this]
      congr 1
      apply sum_map_congr
      intro i _
      simp
theorem cost_cs (l : List Coin) : ∀ cs : List Nat, (∀ c ∈ cs, c ≤ l.length) → ((List.range l.length).map fun i => (l.map Coin.worth).getD i 0 * li cs i).sum = (cs.map fun c => worths l c).sum
  | [], _ => by simp [li, sum_const]
  | c :: cs, h => by
    rw [List.map_cons, List.sum_cons, ← cost_cs l cs fun d hd => h d (List.mem_cons_of_mem _ hd), worths_index l c (h c (List.mem_cons_self ..)), ← sum_map_add]
    apply sum_map_congr
    intro i _
    rw [li_cons]
    split
    · rw [Nat.mul_add]; omega
    · rw [Nat.add_zero]; omega
theorem cost_lenP {F : List Nat} (hF : F.length ≤ 300) : costP F (lenP F) = leastP F := by
  unfold costP leastP
  rw [sum_syms F _ (fun s h => by rw [h, Nat.zero_mul])]
  rcases Nat.lt_or_ge (srt F).length 2 with q | q
  · rw [if_pos q]
    unfold sumC
    congr 1
    apply List.map_congr_left
    intro x hx
    obtain ⟨s, _, h2, rfl⟩ := srt_mem hx
    have : lenP F s = 1 := by unfold lenP; rw [if_pos q, if_pos h2]
    simp [Coin.sym, this, Coin.worth]
  · obtain ⟨cs, h4, h5, h6, h7, h8, h9, h10, _⟩ := lenP_chain q (Nat.le_trans (srt_length_le F) hF)
    rw [if_neg (by omega)]
    unfold worths
    rw [h9, ← cost_cs _ cs h6]
    apply sum_index
    intro i x hi
    obtain ⟨s, _, h2, rfl⟩ := srt_mem (List.mem_of_getElem? hi)
    show F.getD s 0 * lenP F s = _
    rw [h10 i s hi, List.getD_eq_getElem?_getD (l := (srt F).map Coin.worth), List.getElem?_map, hi]
    rfl
/-! No other lengths are cheaper -/
theorem worths_shift {x : Coin} {l : List Coin} (h : SortK Coin.worth (x :: l)) : ∀ c, c ≤ l.length → worths (x :: l) c ≤ worths l c := by
  intro c hc
  cases c with
  | zero => simp [worths, sumC]
  | succ c =>
    unfold SortK at h
    rw [List.pairwise_cons] at h
    have e1 : worths (x :: l) (c + 1) = x.worth + worths l c := by simp [worths, sumC]
    have hy : l[c]? = some (l[c]'hc) := List.getElem?_eq_getElem hc
    have e2 : worths l (c + 1) = worths l c + (l[c]'hc).worth := by
      unfold worths
      rw [List.take_add_one, hy, sumC_append]
      simp [sumC]
    have := h.1 _ (List.mem_of_getElem? hy)
    omega
theorem worths_subset (p : Coin → Bool) : ∀ l : List Coin, SortK Coin.worth l → worths l (l.countP p) ≤ sumC Coin.worth (l.filter p)
  | [], _ => by simp [worths, sumC]
  | x :: l, h => by
    have h' := h
    unfold SortK at h'
    rw [List.pairwise_cons] at h'
    have ih := worths_subset p l h'.2
    rw [List.countP_cons, List.filter_cons]
    cases q : p x with
    | true =>
      rw [if_pos rfl, if_pos rfl]
      have e1 : worths (x :: l) (l.countP p + 1) = x.worth + worths l (l.countP p) := by simp [worths, sumC]
      have e2 : sumC Coin.worth (x :: l.filter p) = x.worth + sumC Coin.worth (l.filter p) := by simp [sumC]
      omega
    | false =>
      simp only [Bool.false_eq_true, if_false, Nat.add_zero]
      exact Nat.le_trans (worths_shift h _ List.countP_le_length) ih
theorem sum_if (l : List Nat) (p : Nat → Bool) (w : Nat) : (l.map fun j => if p j then w else 0).sum = w * (l.filter p).length := by
  induction l with
  | nil => simp
  | cons x l ih =>
    rw [List.map_cons, List.sum_cons, ih, List.filter_cons]
    cases p x
    · simp
    · simp [Nat.mul_add]; omega
theorem fifteen : ∀ L, L ≤ 15 → ((List.range 15).filter fun j => decide (15 - j ≤ L)).length = L ∧ ((List.range 15).map fun j => if 15 - j ≤ L then 2 ^ j else 0).sum = 2 ^ 15 - 2 ^ (15 - L) := by decide
theorem sum_swap (Lx : Coin → Nat) : ∀ l : List Coin, (∀ x ∈ l, Lx x ≤ 15) →
    ((List.range 15).map fun j => sumC Coin.worth (l.filter fun x => decide (15 - j ≤ Lx x))).sum = sumC (fun x => x.worth * Lx x) l ∧
    ((List.range 15).map fun j => (l.countP fun x => decide (15 - j ≤ Lx x)) * 2 ^ j).sum = sumC (fun x => 2 ^ 15 - 2 ^ (15 - Lx x)) l
  | [], _ => by simp [sumC, sum_const]
  | x :: l, h => by
    obtain ⟨i1, i2⟩ := sum_swap Lx l fun y hy => h y (List.mem_cons_of_mem _ hy)
    obtain ⟨f1, f2⟩ := fifteen (Lx x) (h x (List.mem_cons_self ..))
    constructor
    · have e : sumC (fun x => x.worth * Lx x) (x :: l) = x.worth * Lx x + sumC (fun x => x.worth * Lx x) l := by simp [sumC]
      have e2 := sum_if (List.range 15) (fun j => decide (15 - j ≤ Lx x)) x.worth
      rw [f1] at e2
      rw [e, ← i1, ← e2, ← sum_map_add]
      apply sum_map_congr
      intro j _
      rw [List.filter_cons]
      by_cases q : 15 - j ≤ Lx x
      · simp [q, sumC]
      · simp [q]
    · have e : sumC (fun x => 2 ^ 15 - 2 ^ (15 - Lx x)) (x :: l) = (2 ^ 15 - 2 ^ (15 - Lx x)) + sumC (fun x => 2 ^ 15 - 2 ^ (15 - Lx x)) l := by simp [sumC]
      rw [e, ← i2, ← f2, ← sum_map_add]
      apply sum_map_congr
      intro j _
      rw [List.countP_cons]
      by_cases q : 15 - j ≤ Lx x
      · simp [q, Nat.add_mul]; omega
      · simp [q]
def msP (ds : Nat → Nat) : Nat → Nat
  | 0 => ds 0
  | k + 1 => ds (k + 1) + msP ds k / 2
theorem msP_eq (ds : Nat → Nat) : ∀ k, msP ds k = ((List.range (k + 1)).map fun j => ds j * 2 ^ j).sum / 2 ^ k
  | 0 => by simp [msP]
  | k + 1 => by
    rw [msP, msP_eq ds k, Nat.div_div_eq_div_mul, ← Nat.pow_succ, List.range_succ (n := k + 1), List.map_append, List.sum_append_nat]
    simp only [List.map_cons, List.map_nil, List.sum_cons, List.sum_nil, Nat.add_zero]
    rw [Nat.add_mul_div_right _ _ (Nat.two_pow_pos _)]
    simp only [Nat.succ_eq_add_one]
    omega
/-- The cost is the least of all lengths that may be. -/
theorem lenP_least {F : List Nat} (hF : F.length ≤ 300) (h2 : 2 ≤ (srt F).length) (L : Nat → Nat) (hL : ∀ s, 0 < F.getD s 0 → L s ≤ 15) (hK : ((List.range F.length).map fun s => if 0 < F.getD s 0 then 2 ^ (15 - L s) else 0).sum ≤ 2 ^ 15) : costP F (lenP F) ≤ costP F L := by
  rw [cost_lenP hF]
  unfold leastP
  rw [if_neg (by omega)]
  have hx : ∀ x ∈ srt F, L x.sym ≤ 15 := fun x hx => by obtain ⟨s, _, h, rfl⟩ := srt_mem hx; exact hL s h
  obtain ⟨s1, s2⟩ := sum_swap (fun x => L x.sym) (srt F) hx
  obtain ⟨ds, hds⟩ : ∃ ds : Nat → Nat, ∀ j, ds j = (srt F).countP fun x => decide (15 - j ≤ L x.sym) := ⟨_, fun _ => rfl⟩
  obtain ⟨_, hc⟩ := level_cheap (srt_sorted F) 14 ds (msP ds) (fun j _ => by rw [hds]; exact List.countP_le_length) rfl (fun j _ => rfl)
  have hm : 2 * (srt F).length - 2 ≤ msP ds 14 := by
    rw [msP_eq]
    rw [Nat.le_div_iff_mul_le (Nat.two_pow_pos _)]
    have e : ((List.range 15).map fun j => ds j * 2 ^ j).sum = sumC (fun x => 2 ^ 15 - 2 ^ (15 - L x.sym)) (srt F) := by
      rw [← s2]
      apply sum_map_congr
      intro j _
      rw [hds]
    rw [show 14 + 1 = 15 from rfl, e]
    have hK2 : sumC (fun x => 2 ^ (15 - L x.sym)) (srt F) ≤ 2 ^ 15 := by
      rw [sum_syms F _ (fun s h => by rw [if_neg (by omega)])] at hK
      unfold sumC
      rw [List.map_congr_left (g := fun x => if 0 < F.getD x.sym 0 then 2 ^ (15 - L x.sym) else 0)]
      · exact hK
      · intro x hx
        obtain ⟨s, _, h, rfl⟩ := srt_mem hx
        show _ = if 0 < F.getD s 0 then _ else _
        rw [if_pos h]
    have hsum : ∀ l : List Coin, sumC (fun x => 2 ^ 15 - 2 ^ (15 - L x.sym)) l + sumC (fun x => 2 ^ (15 - L x.sym)) l = l.length * 2 ^ 15 := by
      intro l
      induction l with
      | nil => simp [sumC]
      | cons x l ih =>
        have : 2 ^ (15 - L x.sym) ≤ 2 ^ 15 := Nat.pow_le_pow_right (by omega) (by omega)
        simp only [sumC, List.map_cons, List.sum_cons, List.length_cons, Nat.add_mul] at *
        omega
    have := hsum (srt F)
    omega
  have h3 : worths (levelC (srt F) 14) (2 * (srt F).length - 2) ≤ worths (levelC (srt F) 14) (msP ds 14) := by
    unfold worths
    rw [sumC_take_split Coin.worth _ hm]
    omega
  rw [show 14 + 1 = 15 from rfl] at hc
  refine Nat.le_trans h3 (Nat.le_trans hc ?_)
  have h4 : ((List.range 15).map fun j => worths (srt F) (ds j)).sum ≤ ((List.range 15).map fun j => sumC Coin.worth ((srt F).filter fun x => decide (15 - j ≤ L x.sym))).sum := by
    have : ∀ l : List Nat, (l.map fun j => worths (srt F) (ds j)).sum ≤ (l.map fun j => sumC Coin.worth ((srt F).filter fun x => decide (15 - j ≤ L x.sym))).sum := by
      intro l
      induction l with
      | nil => exact Nat.le_refl _
      | cons j l ih =>
        rw [List.map_cons, List.map_cons, List.sum_cons, List.sum_cons]
        have := worths_subset (fun x => decide (15 - j ≤ L x.sym)) (srt F) (srt_sorted F)
        rw [← hds] at this
        exact Nat.add_le_add this ih
    exact this _
  refine Nat.le_trans h4 ?_
  rw [s1]
  unfold costP
  rw [sum_syms F _ (fun s h => by rw [h, Nat.zero_mul])]
  unfold sumC
  refine Nat.le_of_eq (congrArg List.sum ?_)
  apply List.map_congr_left
  intro x hx
  obtain ⟨s, _, h, rfl⟩ := srt_mem hx
  rfl
end Go.Proofs.Ytdhnmcdgiddhdaa
/-
  append at a slice that has no room: always a new row.
-/
set_option linter.unusedVariables false
set_option linter.unusedSimpArgs false
namespace Go.Proofs.Ytdhnmcdgiddhdaa
open Go.RowKit
set_option maxRecDepth 100000
/-- 'x[:k:k]'. -/
theorem Rd.capTo {w : World} {sz n cap : Nat} {ao : Option Addr} {xs : List Value} (h : Rd w sz (.slice ao n cap) n xs) (k : Nat) (hk : k ≤ n) : Rd w sz (.slice ao k k) k (xs.take (k * sz)) := by
  obtain ⟨ao', cap', h1, h2, h3, h4, h5⟩ := h
  simp only [Value.slice.injEq, true_and] at h1
  obtain ⟨rfl, rfl⟩ := h1
  refine ⟨ao, k, rfl, ⟨by omega, by omega⟩, ?_, fun e => ?_, fun ad e j u hu => ?_⟩
  · rw [List.length_take, h3]
    exact Nat.min_eq_left (Nat.mul_le_mul_right _ hk)
  · have := h4 e
    omega
  · rw [List.getElem?_take] at hu
    split at hu
    · exact h5 ad e j u hu
    · simp at hu
section
variable {P : Program} {B : Nat} {w0 w : World} {L : List HL} {T : TypeId} {v vx : Value} {n m sz by_ : Nat} {xs news : List Value}
/-- 'append(s, x...)' where s has no room: always a new row. -/
theorem run_appG (t ty : TypeId) (i : TypeInfo) (z : Value) (ht : P.underlying t = some (.slice T)) (hi : P.info? T = some i) (hz : i.zero = some z) (hsize : i.size = sz) (hby : i.bytes = by_) (hzs : z.cells.size = sz) (hsz : 0 < sz)
    (hS : St B w0 w L) {ao : Option Addr} {cp : Nat} (hr : Rd w sz (.slice ao n cp) n xs) (hx : Rd w sz vx m news) (hm : 0 < m) (hcp : cp < n + m) (h63 : n + m ≤ maxLen) (hbytes : (n + m) * by_ ≤ 140737488355328) :
    ∃ v' w' c', (Builtin.append_ #[t, t] ty #[.slice ao n cp, vx]).run P w = .ok v' w' ∧ RowC T sz v' (n + m) (xs ++ news) c' ∧ St B w0 w' (c' :: L) := by
  have hrl := hr.len
  obtain ⟨ax, capx, rfl, hmx, hl, hnone, hcell⟩ := hx
  subst hsize
  subst hby
  have hsmall : n + m ≤ 9223372036854775807 := by simp only [maxLen] at h63; omega
  have hlen : (xs ++ news).length = (n + m) * i.size := by rw [List.length_append, hrl, hl, Nat.add_mul]
  have grown : ∀ (old : Nat),
      RowC T i.size (.slice (some ⟨w.heap.size, 0, none⟩) (n + m) (grownCap w (n + m) old T)) (n + m) (xs ++ news)
        [(w.heap.size, .cells (xs.toArray ++ news.toArray ++ Builtin.zeroCells z.cells (grownCap w (n + m) old T - (n + m))) T (0, 0))] := by
    intro old
    have hge := grownCap_ge w (n + m) old T
    refine RowC.fresh _ _ hlen hge (grownCap_le_maxLen w (n + m) old T h63) ?_ ?_
    · simp only [Array.size_append, List.size_toArray, size_zeroCells, hzs, hrl, hl, ← Nat.add_mul]
      congr 1
      omega
    · simp only [Array.toList_append, List.append_assoc]
      rw [← List.append_assoc, ← hlen]
      exact List.take_left
  obtain ⟨ad, rfl⟩ : ∃ ad, ax = some ad := by
    cases ax with
    | none => have := (hnone rfl).1; omega
    | some ad => exact ⟨ad, rfl⟩
  have hnews := hcell ad rfl
  have hnew : ∀ X : Array Value, St B w0 (w.drew.alloc (.cells X T)) ([(w.heap.size, .cells X T (0, 0))] :: L) := fun X => hS.drew.alloc _
  cases ao with
  | none =>
    obtain ⟨rfl, rfl, rfl⟩ := hr.none_iff
    have hrun := run_append_nil (P := P) w t ty T i z ht hi hz ad m capx news hl hnews (by omega) (by omega) (by have hb := hbytes; simp only [Nat.zero_add] at hb; omega)
    have hgr := grown 0
    simp only [Nat.zero_add, List.nil_append, Array.empty_append] at hgr ⊢
    exact ⟨_, _, _, hrun, hgr, hnew _⟩
  | some g =>
    have holds : ∀ j u, xs[j]? = some u → w.cell? (g.add j) = some u := by
      intro j u hu
      obtain ⟨g', e, hc⟩ := hr.at hu
      cases e
      exact hc
    have hrun := run_append_grow (P := P) w t ty T i z ht hi hz g n cp xs hrl holds ad m capx news hl hnews (by omega) (by omega) (growslice_fits (by omega) hbytes)
    exact ⟨_, _, _, hrun, grown cp, hnew _⟩
variable {ops : Array Oper} {rest : List Oper} {o : Oper} {a : Act} {Q : Exit → Act → World → Prop}
theorem wpList_appG (t : TypeId) (i : TypeInfo) (z : Value) (s x : Operand) (hgd : o.guard = none) (ho : o.op = .call { callee := .builtin .append, args := #[s, x], argTypes := #[t, t] })
    {ao : Option Addr} {cp : Nat} (hs : a.eval s = .slice ao n cp) (hx : a.eval x = vx)
    (ht : P.underlying t = some (.slice T)) (hi : P.info? T = some i) (hz : i.zero = some z) (hsize : i.size = sz) (hby : i.bytes = by_) (hzs : z.cells.size = sz) (hsz : 0 < sz)
    (hS : St B w0 w L) (hr : Rd w sz (.slice ao n cp) n xs) (hrd : Rd w sz vx m news) (hm : 0 < m) (hcp : cp < n + m) (h63 : n + m ≤ maxLen) (hbytes : (n + m) * by_ ≤ 140737488355328)
    (h : ∀ v' c' w', RowC T sz v' (n + m) (xs ++ news) c' → St B w0 w' (c' :: L) → wpList P ops Q rest (a.put o.dst v') w') : wpList P ops Q (o :: rest) a w := by
  refine wpList_plain hgd fun K hK => ?_
  obtain ⟨v', w', c', hrun, h2, h3⟩ := run_appG (P := P) t o.type i z ht hi hz hsize hby hzs hsz hS hr hrd hm hcp h63 hbytes
  unfold Oper.wp execOp
  simp only [ho, resolve, invoke, builtin, Sem.run_bind, Sem.run_pure, Result.andThen_ok, List.map_toArray, List.map_cons, List.map_nil, hs, hx, hrun]
  exact hK _ _ (h v' c' w' h2 h3)
/-- The same, as a step of a region that draws. -/
theorem step_appG {E : Prop} {K : Act → World → Prop} (t : TypeId) (i : TypeInfo) (z : Value) (s x : Operand) (hgd : o.guard = none) (ho : o.op = .call { callee := .builtin .append, args := #[s, x], argTypes := #[t, t] })
    {ao : Option Addr} {cp : Nat} (hs : a.eval s = .slice ao n cp) (hx : a.eval x = vx)
    (ht : P.underlying t = some (.slice T)) (hi : P.info? T = some i) (hz : i.zero = some z) (hsize : i.size = sz) (hby : i.bytes = by_) (hzs : z.cells.size = sz) (hsz : 0 < sz)
    (hS : St B w0 w L) (hr : Rd w sz (.slice ao n cp) n xs) (hrd : Rd w sz vx m news) (hm : 0 < m) (hcp : cp < n + m) (h63 : n + m ≤ maxLen) (hbytes : (n + m) * by_ ≤ 140737488355328)
    (h : ∀ v' c' w', RowC T sz v' (n + m) (xs ++ news) c' → St B w0 w' (c' :: L) → K (a.put o.dst v') w') : if Region.wanted o (yielded ops a.tmps) = true then Oper.wp P o a w K Q else E := by
  rw [if_pos (by simp [Region.wanted, hgd])]
  obtain ⟨v', w', c', hrun, h2, h3⟩ := run_appG (P := P) t o.type i z ht hi hz hsize hby hzs hsz hS hr hrd hm hcp h63 hbytes
  unfold Oper.wp execOp
  simp only [ho, resolve, invoke, builtin, Sem.run_bind, Sem.run_pure, Result.andThen_ok, List.map_toArray, List.map_cons, List.map_nil, hs, hx, hrun]
  exact h v' c' w' h2 h3
theorem step_app {E : Prop} {K : Act → World → Prop} {c : HL} (j : Nat) (t : TypeId) (i : TypeInfo) (z : Value) (s x : Operand) (hgd : o.guard = none) (ho : o.op = .call { callee := .builtin .append, args := #[s, x], argTypes := #[t, t] })
    (hs : a.eval s = v) (hx : a.eval x = vx)
    (ht : P.underlying t = some (.slice T)) (hi : P.info? T = some i) (hz : i.zero = some z) (hsize : i.size = sz) (hby : i.bytes = by_) (hzs : z.cells.size = sz) (hsz : 0 < sz)
    (hS : St B w0 w L) (hj : L[j]? = some c) (hr : RowC T sz v n xs c) (hrd : Rd w sz vx m news) (h1 : ∀ u ∈ news, u.oneCell' = true) (h63 : n + m ≤ maxLen) (hbytes : (n + m) * by_ ≤ 140737488355328)
    (h : ∀ v' c' w', RowC T sz v' (n + m) (xs ++ news) c' → St B w0 w' (L.set j c') → K (a.put o.dst v') w') : if Region.wanted o (yielded ops a.tmps) = true then Oper.wp P o a w K Q else E := by
  rw [if_pos (by simp [Region.wanted, hgd])]
  obtain ⟨v', w', c', hrun, h2, h3⟩ := run_app (P := P) t o.type i z ht hi hz hsize hby hzs hsz hS j hj hr hrd h1 h63 hbytes
  unfold Oper.wp execOp
  simp only [ho, resolve, invoke, builtin, Sem.run_bind, Sem.run_pure, Result.andThen_ok, List.map_toArray, List.map_cons, List.map_nil, hs, hx, hrun]
  exact h v' c' w' h2 h3
end
end Go.Proofs.Ytdhnmcdgiddhdaa
/-
  Guarded operations of a region that draws: wanted, passed over.
-/
set_option linter.unusedVariables false
set_option linter.unusedSimpArgs false
namespace Go.Proofs.Ytdhnmcdgiddhdaa
open Go.RowKit
section
variable {P : Program} {ops : Array Oper} {w : World}
theorem wpStill_wantg {Q : Act → Prop} {a : Act} {o : Oper} {rest : List Oper} (j : Nat) (b : Bool) (hg : o.guard = some (j, b)) (hw : Region.wanted o (yielded ops a.tmps) = true) (hp : plainOp o.op = true)
    (h : ∀ K : Act → World → Prop, (∀ a', wpStill P ops w Q rest a' → K a' w) → o.wp P a w K (fun _ _ _ => False)) : wpStill P ops w Q (o :: rest) a :=
  wpStill_want hw hp h
/-- An operation that is passed over: the walk lays the empty value by a move. -/
theorem wpStill_skipg {Q : Act → Prop} {a : Act} {op : Op} {d : Option Tmp} {ty : TypeId} {pos : String} {aft : Array Edge} {g : Option (Nat × Bool)} {rest : List Oper} (j : Nat) (b : Bool) (hg : g = some (j, b))
    (hw : Region.wanted (Oper.mk d op ty pos aft g) (yielded ops a.tmps) = false)
    (h : ∀ K : Act → World → Prop, (∀ a', wpStill P ops w Q rest a' → K a' w) → (Oper.mk d (.move (.const undef)) ty pos #[] none).wp P a w K (fun _ _ _ => False)) : wpStill P ops w Q (Oper.mk d op ty pos aft g :: rest) a := by
  refine wpStill_skip hw ?_
  have h1 := h (fun a' w' => w' = w ∧ wpStill P ops w Q rest a') (fun a' h => ⟨rfl, h⟩)
  have h2 : (execOp a.eval (Oper.mk d (.move (.const undef)) ty pos #[] none)).run P w = .ok (.value undef) w := rfl
  unfold Oper.wp at h1
  rw [h2] at h1
  exact h1.2
end
end Go.Proofs.Ytdhnmcdgiddhdaa
/-
  Coins in memory; lengths.merged, lengths.count.
-/
set_option linter.unusedVariables false
set_option linter.unusedSimpArgs false
namespace Go.Proofs.Ytdhnmcdgiddhdaa
open Go.RowKit
set_option maxRecDepth 100000
theorem infoCoinP : (Try.prog.info? 74).map (fun i => (i.zero, i.size, i.bytes)) = some (some (.pointer none), 1, 8) := by kernel_rfl
/-- A pointer to a block. -/
def pp (p : Nat) : Value := .pointer (some ⟨p, 0, none⟩)
/-- A coin that lies in a heaplet. -/
inductive CoinAt (A : List (Nat × Obj)) : Nat → Coin → Prop where
  | leaf {p w s : Nat} : (p, Obj.cells #[.int .i64 (w : Int), .int .i64 (s : Int), .pointer none, .pointer none] 76 (0, 0)) ∈ A → CoinAt A p (.leaf w s)
  | pack {p q r : Nat} {a b : Coin} : (p, Obj.cells #[.int .i64 ((a.worth + b.worth : Nat) : Int), .int .i64 0, .pointer (some ⟨q, 0, none⟩), .pointer (some ⟨r, 0, none⟩)] 76 (0, 0)) ∈ A → CoinAt A q a → CoinAt A r b → CoinAt A p (.pack a b)
theorem CoinAt.mono {A A' : List (Nat × Obj)} {p : Nat} {c : Coin} (h : CoinAt A p c) (hA : A ⊆ A') : CoinAt A' p c := by
  induction h with
  | leaf h => exact .leaf (hA h)
  | pack h _ _ i1 i2 => exact .pack (hA h) i1 i2
section
variable {B : Nat} {w0 w : World} {L : List HL} {A : List (Nat × Obj)} {p : Nat} {c : Coin}
theorem CoinAt.worth (h : CoinAt A p c) (hS : St B w0 w L) (i : Nat) (hi : L[i]? = some A) : w.cell? ⟨p, 0, none⟩ = some (.int .i64 (c.worth : Int)) := by
  cases h with
  | leaf h => exact hS.cell i hi h 0
  | pack h _ _ => exact hS.cell i hi h 0
end
/-- The pointers of coins. -/
def pv (l : List (Nat × Coin)) : List Value := l.map fun x => .pointer (some ⟨x.1, 0, none⟩)
theorem pv_length (l : List (Nat × Coin)) : (pv l).length = l.length := by simp [pv]
theorem pv_get (l : List (Nat × Coin)) (i : Nat) (x : Nat × Coin) (h : l[i]? = some x) : (pv l)[i]? = some (.pointer (some ⟨x.1, 0, none⟩)) := by simp [pv, h]
theorem pv_append (a b : List (Nat × Coin)) : pv (a ++ b) = pv a ++ pv b := by simp [pv]
def keyP (x : Nat × Coin) : Nat := x.2.worth
/-- What each coin is worth can be read. -/
def Reads (w : World) (l : List (Nat × Coin)) : Prop := ∀ x ∈ l, w.cell? ⟨x.1, 0, none⟩ = some (.int .i64 (x.2.worth : Int)) ∧ x.2.worth ≤ 1000000000000000000
theorem Reads.keep {w w' : World} {l : List (Nat × Coin)} (h : Reads w l) (hb : Below w.heap.size w w') : Reads w' l := by
  intro x hx
  obtain ⟨h1, h2⟩ := h x hx
  exact ⟨by rw [hb.cell (World.block_lt_of_cell? w _ h1)]; exact h1, h2⟩
theorem Reads.tail {w : World} {x : Nat × Coin} {l : List (Nat × Coin)} (h : Reads w (x :: l)) : Reads w l := fun y hy => h y (List.mem_cons_of_mem _ hy)
/-- A slice that is read and of which the first one was taken. -/
theorem Rd.tail {w : World} {x : Nat × Coin} {l : List (Nat × Coin)} {ad : Addr} {cap : Nat} (h : Rd w 1 (.slice (some ad) (x :: l).length cap) (x :: l).length (pv (x :: l))) :
    (¬ cap = 1 → Rd w 1 (.slice (some (ad.add 1)) l.length (cap - 1)) l.length (pv l)) ∧ (cap = 1 → Rd w 1 (.slice (some ad) l.length (cap - 1)) l.length (pv l)) := by
  constructor
  · intro hc
    have := h.drop 1 (by simp) (ao' := some (ad.add 1)) (fun _ => by simp) (fun e => absurd e hc)
    simpa [pv] using this
  · intro hc
    have := h.drop 1 (by simp) (ao' := some ad) (fun e => absurd hc e) (fun _ => rfl)
    simpa [pv] using this
def MergeOut (l1 l2 : List (Nat × Coin)) (w : World) (e : Ending) (w' : World) : Prop :=
  ∃ (v : Value) (c : List (Nat × Obj)), e = .returned v ∧ RowC 74 1 v (mergeK keyP l1 l2).length (pv (mergeK keyP l1 l2)) c ∧ St w.heap.size w w' [c]
set_option maxHeartbeats 1500000 in
theorem merged_any (l1 l2 : List (Nat × Coin)) (v1 v2 : Value) (w : World) (h1 : Rd w 1 v1 l1.length (pv l1)) (h2 : Rd w 1 v2 l2.length (pv l2)) (r1 : Reads w l1) (r2 : Reads w l2) (hn : l1.length + l2.length ≤ 1000000) :
    Calls Try.prog 47 #[v1, v2] w (MergeOut l1 l2 w) := by
  obtain ⟨i0, i0a, i0b, i0c, i0d⟩ := info_parts infoCoinP
  obtain ⟨ao1, cap1, rfl⟩ := h1.shape
  obtain ⟨ao2, cap2, rfl⟩ := h2.shape
  have H1 := Lib.hid (And.intro h1 (And.intro h2 (And.intro r1 r2)))
  have hS0 := (St.init w).one_nil
  clear h1 h2 r1 r2
  go_enter Try.func47, Try.ntmps47
  go_wp2_with fail
  go_loopg [0, 1, 5] (l1.length + l2.length) (fun M s0 s1 s5 wr => ∃ (a b out : List (Nat × Coin)) (aoa aob : Option Addr) (ca cb : Nat) (c : List (Nat × Obj)), a.length + b.length = M ∧ out.length + M = l1.length + l2.length ∧ s0 = .slice aoa a.length ca ∧ s1 = .slice aob b.length cb ∧ RowC 74 1 s5 out.length (pv out) c ∧ St w.heap.size w wr [c] ∧
    Hid (out ++ mergeK keyP a b = mergeK keyP l1 l2) ∧ Hid (Rd w 1 (.slice aoa a.length ca) a.length (pv a) ∧ Rd w 1 (.slice aob b.length cb) b.length (pv b) ∧ Reads w a ∧ Reads w b))
  case atStart => exact ⟨l1, l2, [], ao1, ao2, cap1, cap2, [], rfl, by simp, rfl, rfl, RowC.nil _ _, hS0, Lib.hid rfl, H1⟩
  case round =>
    clear hS0
    obtain ⟨a, b, out, aoa, aob, ca, cb, c, hM, hol, rfl, rfl, hr, hS, HE, HR⟩ := hrel
    obtain ⟨ao5, cap5, rfl⟩ := hr.shape
    have hob : out.length ≤ 1000000 := by omega
    have hSd : ∀ x : Nat × Coin, St w.heap.size w (wr.drew.drew.alloc (.cells #[.pointer (some ⟨x.1, 0, none⟩)] 74)) [c] := fun x => hS.drew.drew.alloc' _
    cases a with
    | nil =>
      cases b with
      | nil =>
        simp only [List.length_nil] at *
        go_wp2_with fail
        go_ret
        have e := HE.out
        rw [mergeK_nil, List.append_nil] at e
        refine ⟨.slice ao5 out.length cap5, c, rfl, ?_, hS⟩
        rw [← e]
        exact hr
      | cons y b =>
        obtain ⟨adb, rfl, hcb⟩ := (HR.out.2.1.keep hS.below).at (pv_get (y :: b) 0 y rfl)
        have hcb' : wr.cell? adb = some (.pointer (some ⟨y.1, 0, none⟩)) := hcb
        have qb1 : ((b.length : Int) + 1 == 0) = false := by rw [beq_eq_false_iff_ne]; omega
        have qb2 : (0 : Int) < (b.length : Int) + 1 := by omega
        have hbc := Rd.cap HR.out.2.1
        simp only [List.length_cons] at hbc
        obtain ⟨hbc1, hbc2⟩ := hbc
        have hbc3 : (1 : Int) ≤ (cb : Int) := by omega
        have hbc4 : 1 ≤ cb := by omega
        have hbc5 : (1 : Int) ≤ (b.length : Int) + 1 := by omega
        have hbc6 : 1 ≤ b.length + 1 := by omega
        by_cases hca : cb = 1
        · subst hca
          obtain rfl : b = [] := List.eq_nil_of_length_eq_zero (by omega)
          have htl := (Rd.tail HR.out.2.1).2 rfl
          have HTL := Lib.hid htl
          clear htl
          go_wp2_with (first | ((with_reducible refine wpStill_plain ?_ ?_ (fun _ _ => ?_)); rfl; rfl) | (with_reducible refine wpStill_nil ?_) | ((with_reducible refine wpStill_wantg 3 false ?_ ?_ ?_ (fun _ _ => ?_)); rfl; kernel_rfl; rfl) | ((with_reducible refine wpStill_skipg 7 true ?_ ?_ (fun _ _ => ?_)); rfl; kernel_rfl) | ((with_reducible refine wp_draw_all (id := 3) mixed ?_ (fun _ _ => ?_)); kernel_rfl))
          go_region_law (refine step_app (n := out.length) (m := 1) (xs := pv out) (news := [.pointer (some ⟨y.1, 0, none⟩)]) 0 73 i0 (.pointer none) _ _ rfl rfl rfl rfl Try.underlying73 i0a i0b i0c i0d rfl (by decide) (hSd y) rfl hr (Rd.one _ _ _) (by simp [Value.oneCell']) (by unfold maxLen; omega) (by omega) (fun v1 c1 w2 hr1 hS2 => ?_))
          go_wp2_with fail
          cases gk with
          | zero => simp at hM
          | succ M =>
            go_roundg M
            case measure => omega
            case rel => exact ⟨[], [], out ++ [y], _, _, _, _, c1, by simp at hM ⊢; omega, by simp at hol hM ⊢; omega, rfl, rfl, by simpa [pv] using hr1, hS2, Lib.hid (by rw [List.append_assoc, ← HE.out, mergeK_nil, mergeK_nil]; rfl), Lib.hid ⟨HR.out.1, HTL.out, HR.out.2.2.1, HR.out.2.2.2.tail⟩⟩
        · have htl := (Rd.tail HR.out.2.1).1 hca
          have HTL := Lib.hid htl
          clear htl
          go_wp2_with (first | ((with_reducible refine wpStill_plain ?_ ?_ (fun _ _ => ?_)); rfl; rfl) | (with_reducible refine wpStill_nil ?_) | ((with_reducible refine wpStill_wantg 3 false ?_ ?_ ?_ (fun _ _ => ?_)); rfl; kernel_rfl; rfl) | ((with_reducible refine wpStill_skipg 7 true ?_ ?_ (fun _ _ => ?_)); rfl; kernel_rfl) | ((with_reducible refine wp_draw_all (id := 3) mixed ?_ (fun _ _ => ?_)); kernel_rfl))
          go_region_law (refine step_app (n := out.length) (m := 1) (xs := pv out) (news := [.pointer (some ⟨y.1, 0, none⟩)]) 0 73 i0 (.pointer none) _ _ rfl rfl rfl rfl Try.underlying73 i0a i0b i0c i0d rfl (by decide) (hSd y) rfl hr (Rd.one _ _ _) (by simp [Value.oneCell']) (by unfold maxLen; omega) (by omega) (fun v1 c1 w2 hr1 hS2 => ?_))
          go_wp2_with fail
          cases gk with
          | zero => simp at hM
          | succ M =>
            go_roundg M
            case measure => omega
            case rel => exact ⟨[], b, out ++ [y], _, _, _, _, c1, by simp at hM ⊢; omega, by simp at hol hM ⊢; omega, rfl, rfl, by simpa [pv] using hr1, hS2, Lib.hid (by rw [List.append_assoc, ← HE.out, mergeK_nil, mergeK_nil]; rfl), Lib.hid ⟨HR.out.1, HTL.out, HR.out.2.2.1, HR.out.2.2.2.tail⟩⟩
    | cons x a =>
      obtain ⟨ada, rfl, hca0⟩ := (HR.out.1.keep hS.below).at (pv_get (x :: a) 0 x rfl)
      have hca0' : wr.cell? ada = some (.pointer (some ⟨x.1, 0, none⟩)) := hca0
      have qa2 : (0 : Int) < (a.length : Int) + 1 := by omega
      cases b with
      | nil =>
        have hbc := Rd.cap HR.out.1
        simp only [List.length_cons] at hbc
        obtain ⟨hbc1, hbc2⟩ := hbc
        have hbc3 : (1 : Int) ≤ (ca : Int) := by omega
        have hbc4 : 1 ≤ ca := by omega
        have hbc5 : (1 : Int) ≤ (a.length : Int) + 1 := by omega
        have hbc6 : 1 ≤ a.length + 1 := by omega
        by_cases hca : ca = 1
        · subst hca
          obtain rfl : a = [] := List.eq_nil_of_length_eq_zero (by omega)
          have htl := (Rd.tail HR.out.1).2 rfl
          have HTL := Lib.hid htl
          clear htl
          go_wp2_with (first | ((with_reducible refine wpStill_plain ?_ ?_ (fun _ _ => ?_)); rfl; rfl) | (with_reducible refine wpStill_nil ?_) | ((with_reducible refine wpStill_skipg 3 false ?_ ?_ (fun _ _ => ?_)); rfl; kernel_rfl) | ((with_reducible refine wpStill_skipg 7 true ?_ ?_ (fun _ _ => ?_)); rfl; kernel_rfl) | ((with_reducible refine wp_draw_all (id := 3) mixed ?_ (fun _ _ => ?_)); kernel_rfl))
          go_region_law (refine step_app (n := out.length) (m := 1) (xs := pv out) (news := [.pointer (some ⟨x.1, 0, none⟩)]) 0 73 i0 (.pointer none) _ _ rfl rfl rfl rfl Try.underlying73 i0a i0b i0c i0d rfl (by decide) (hSd x) rfl hr (Rd.one _ _ _) (by simp [Value.oneCell']) (by unfold maxLen; omega) (by omega) (fun v1 c1 w2 hr1 hS2 => ?_))
          go_wp2_with fail
          cases gk with
          | zero => simp at hM
          | succ M =>
            go_roundg M
            case measure => omega
            case rel => exact ⟨[], [], out ++ [x], _, _, _, _, c1, by simp at hM ⊢; omega, by simp at hol hM ⊢; omega, rfl, rfl, by simpa [pv] using hr1, hS2, Lib.hid (by rw [List.append_assoc, ← HE.out, mergeK_nil2, mergeK_nil2]; rfl), Lib.hid ⟨HTL.out, HR.out.2.1, HR.out.2.2.1.tail, HR.out.2.2.2⟩⟩
        · have htl := (Rd.tail HR.out.1).1 hca
          have HTL := Lib.hid htl
          clear htl
          go_wp2_with (first | ((with_reducible refine wpStill_plain ?_ ?_ (fun _ _ => ?_)); rfl; rfl) | (with_reducible refine wpStill_nil ?_) | ((with_reducible refine wpStill_skipg 3 false ?_ ?_ (fun _ _ => ?_)); rfl; kernel_rfl) | ((with_reducible refine wpStill_skipg 7 true ?_ ?_ (fun _ _ => ?_)); rfl; kernel_rfl) | ((with_reducible refine wp_draw_all (id := 3) mixed ?_ (fun _ _ => ?_)); kernel_rfl))
          go_region_law (refine step_app (n := out.length) (m := 1) (xs := pv out) (news := [.pointer (some ⟨x.1, 0, none⟩)]) 0 73 i0 (.pointer none) _ _ rfl rfl rfl rfl Try.underlying73 i0a i0b i0c i0d rfl (by decide) (hSd x) rfl hr (Rd.one _ _ _) (by simp [Value.oneCell']) (by unfold maxLen; omega) (by omega) (fun v1 c1 w2 hr1 hS2 => ?_))
          go_wp2_with fail
          cases gk with
          | zero => simp at hM
          | succ M =>
            go_roundg M
            case measure => omega
            case rel => exact ⟨a, [], out ++ [x], _, _, _, _, c1, by simp at hM ⊢; omega, by simp at hol hM ⊢; omega, rfl, rfl, by simpa [pv] using hr1, hS2, Lib.hid (by rw [List.append_assoc, ← HE.out, mergeK_nil2, mergeK_nil2]; rfl), Lib.hid ⟨HTL.out, HR.out.2.1, HR.out.2.2.1.tail, HR.out.2.2.2⟩⟩
      | cons y b =>
        obtain ⟨adb, rfl, hcb⟩ := (HR.out.2.1.keep hS.below).at (pv_get (y :: b) 0 y rfl)
        have hcb' : wr.cell? adb = some (.pointer (some ⟨y.1, 0, none⟩)) := hcb
        have qb1 : ((b.length : Int) + 1 == 0) = false := by rw [beq_eq_false_iff_ne]; omega
        have qb2 : (0 : Int) < (b.length : Int) + 1 := by omega
        obtain ⟨hx1, hx2⟩ := (HR.out.2.2.1.keep hS.below) x (List.mem_cons_self ..)
        obtain ⟨hy1, hy2⟩ := (HR.out.2.2.2.keep hS.below) y (List.mem_cons_self ..)
        have hmc := mergeK_cons keyP x y a b
        by_cases hle : x.2.worth ≤ y.2.worth
        · rw [if_pos (show keyP x ≤ keyP y from hle)] at hmc
          have hlei : (x.2.worth : Int) ≤ (y.2.worth : Int) := by omega
          have HMC := Lib.hid hmc
          clear hmc
          have hbc := Rd.cap HR.out.1
          simp only [List.length_cons] at hbc
          obtain ⟨hbc1, hbc2⟩ := hbc
          have hbc3 : (1 : Int) ≤ (ca : Int) := by omega
          have hbc4 : 1 ≤ ca := by omega
          have hbc5 : (1 : Int) ≤ (a.length : Int) + 1 := by omega
          have hbc6 : 1 ≤ a.length + 1 := by omega
          by_cases hca : ca = 1
          · subst hca
            obtain rfl : a = [] := List.eq_nil_of_length_eq_zero (by omega)
            have htl := (Rd.tail HR.out.1).2 rfl
            have HTL := Lib.hid htl
            clear htl
            go_wp2_with (first | ((with_reducible refine wpStill_plain ?_ ?_ (fun _ _ => ?_)); rfl; rfl) | (with_reducible refine wpStill_nil ?_) | ((with_reducible refine wpStill_wantg 3 false ?_ ?_ ?_ (fun _ _ => ?_)); rfl; kernel_rfl; rfl) | ((with_reducible refine wpStill_wantg 7 true ?_ ?_ ?_ (fun _ _ => ?_)); rfl; kernel_rfl; rfl) | ((with_reducible refine wp_draw_all (id := 3) mixed ?_ (fun _ _ => ?_)); kernel_rfl))
            go_region_law (refine step_app (n := out.length) (m := 1) (xs := pv out) (news := [.pointer (some ⟨x.1, 0, none⟩)]) 0 73 i0 (.pointer none) _ _ rfl rfl rfl rfl Try.underlying73 i0a i0b i0c i0d rfl (by decide) (hSd x) rfl hr (Rd.one _ _ _) (by simp [Value.oneCell']) (by unfold maxLen; omega) (by omega) (fun v1 c1 w2 hr1 hS2 => ?_))
            go_wp2_with fail
            cases gk with
            | zero => simp at hM
            | succ M =>
              go_roundg M
              case measure => omega
              case rel => exact ⟨[], (y :: b), out ++ [x], _, _, _, _, c1, by simp at hM ⊢; omega, by simp at hol hM ⊢; omega, rfl, rfl, by simpa [pv] using hr1, hS2, Lib.hid (by rw [List.append_assoc, ← HE.out, HMC.out]; rfl), Lib.hid ⟨HTL.out, HR.out.2.1, HR.out.2.2.1.tail, HR.out.2.2.2⟩⟩
          · have htl := (Rd.tail HR.out.1).1 hca
            have HTL := Lib.hid htl
            clear htl
            go_wp2_with (first | ((with_reducible refine wpStill_plain ?_ ?_ (fun _ _ => ?_)); rfl; rfl) | (with_reducible refine wpStill_nil ?_) | ((with_reducible refine wpStill_wantg 3 false ?_ ?_ ?_ (fun _ _ => ?_)); rfl; kernel_rfl; rfl) | ((with_reducible refine wpStill_wantg 7 true ?_ ?_ ?_ (fun _ _ => ?_)); rfl; kernel_rfl; rfl) | ((with_reducible refine wp_draw_all (id := 3) mixed ?_ (fun _ _ => ?_)); kernel_rfl))
            go_region_law (refine step_app (n := out.length) (m := 1) (xs := pv out) (news := [.pointer (some ⟨x.1, 0, none⟩)]) 0 73 i0 (.pointer none) _ _ rfl rfl rfl rfl Try.underlying73 i0a i0b i0c i0d rfl (by decide) (hSd x) rfl hr (Rd.one _ _ _) (by simp [Value.oneCell']) (by unfold maxLen; omega) (by omega) (fun v1 c1 w2 hr1 hS2 => ?_))
            go_wp2_with fail
            cases gk with
            | zero => simp at hM
            | succ M =>
              go_roundg M
              case measure => omega
              case rel => exact ⟨a, (y :: b), out ++ [x], _, _, _, _, c1, by simp at hM ⊢; omega, by simp at hol hM ⊢; omega, rfl, rfl, by simpa [pv] using hr1, hS2, Lib.hid (by rw [List.append_assoc, ← HE.out, HMC.out]; rfl), Lib.hid ⟨HTL.out, HR.out.2.1, HR.out.2.2.1.tail, HR.out.2.2.2⟩⟩
        · rw [if_neg (show ¬ keyP x ≤ keyP y from hle)] at hmc
          have hlei : ¬ (x.2.worth : Int) ≤ (y.2.worth : Int) := by omega
          have HMC := Lib.hid hmc
          clear hmc
          have hbc := Rd.cap HR.out.2.1
          simp only [List.length_cons] at hbc
          obtain ⟨hbc1, hbc2⟩ := hbc
          have hbc3 : (1 : Int) ≤ (cb : Int) := by omega
          have hbc4 : 1 ≤ cb := by omega
          have hbc5 : (1 : Int) ≤ (b.length : Int) + 1 := by omega
          have hbc6 : 1 ≤ b.length + 1 := by omega
          by_cases hca : cb = 1
          · subst hca
            obtain rfl : b = [] := List.eq_nil_of_length_eq_zero (by omega)
            have htl := (Rd.tail HR.out.2.1).2 rfl
            have HTL := Lib.hid htl
            clear htl
            go_wp2_with (first | ((with_reducible refine wpStill_plain ?_ ?_ (fun _ _ => ?_)); rfl; rfl) | (with_reducible refine wpStill_nil ?_) | ((with_reducible refine wpStill_wantg 3 false ?_ ?_ ?_ (fun _ _ => ?_)); rfl; kernel_rfl; rfl) | ((with_reducible refine wpStill_wantg 7 true ?_ ?_ ?_ (fun _ _ => ?_)); rfl; kernel_rfl; rfl) | ((with_reducible refine wp_draw_all (id := 3) mixed ?_ (fun _ _ => ?_)); kernel_rfl))
            go_region_law (refine step_app (n := out.length) (m := 1) (xs := pv out) (news := [.pointer (some ⟨y.1, 0, none⟩)]) 0 73 i0 (.pointer none) _ _ rfl rfl rfl rfl Try.underlying73 i0a i0b i0c i0d rfl (by decide) (hSd y) rfl hr (Rd.one _ _ _) (by simp [Value.oneCell']) (by unfold maxLen; omega) (by omega) (fun v1 c1 w2 hr1 hS2 => ?_))
            go_wp2_with fail
            cases gk with
            | zero => simp at hM
            | succ M =>
              go_roundg M
              case measure => omega
              case rel => exact ⟨(x :: a), [], out ++ [y], _, _, _, _, c1, by simp at hM ⊢; omega, by simp at hol hM ⊢; omega, rfl, rfl, by simpa [pv] using hr1, hS2, Lib.hid (by rw [List.append_assoc, ← HE.out, HMC.out]; rfl), Lib.hid ⟨HR.out.1, HTL.out, HR.out.2.2.1, HR.out.2.2.2.tail⟩⟩
          · have htl := (Rd.tail HR.out.2.1).1 hca
            have HTL := Lib.hid htl
            clear htl
            go_wp2_with (first | ((with_reducible refine wpStill_plain ?_ ?_ (fun _ _ => ?_)); rfl; rfl) | (with_reducible refine wpStill_nil ?_) | ((with_reducible refine wpStill_wantg 3 false ?_ ?_ ?_ (fun _ _ => ?_)); rfl; kernel_rfl; rfl) | ((with_reducible refine wpStill_wantg 7 true ?_ ?_ ?_ (fun _ _ => ?_)); rfl; kernel_rfl; rfl) | ((with_reducible refine wp_draw_all (id := 3) mixed ?_ (fun _ _ => ?_)); kernel_rfl))
            go_region_law (refine step_app (n := out.length) (m := 1) (xs := pv out) (news := [.pointer (some ⟨y.1, 0, none⟩)]) 0 73 i0 (.pointer none) _ _ rfl rfl rfl rfl Try.underlying73 i0a i0b i0c i0d rfl (by decide) (hSd y) rfl hr (Rd.one _ _ _) (by simp [Value.oneCell']) (by unfold maxLen; omega) (by omega) (fun v1 c1 w2 hr1 hS2 => ?_))
            go_wp2_with fail
            cases gk with
            | zero => simp at hM
            | succ M =>
              go_roundg M
              case measure => omega
              case rel => exact ⟨(x :: a), b, out ++ [y], _, _, _, _, c1, by simp at hM ⊢; omega, by simp at hol hM ⊢; omega, rfl, rfl, by simpa [pv] using hr1, hS2, Lib.hid (by rw [List.append_assoc, ← HE.out, HMC.out]; rfl), Lib.hid ⟨HR.out.1, HTL.out, HR.out.2.2.1, HR.out.2.2.2.tail⟩⟩
end Go.Proofs.Ytdhnmcdgiddhdaa
/-
  lengths.count.
-/
set_option linter.unusedVariables false
set_option linter.unusedSimpArgs false
namespace Go.Proofs.Ytdhnmcdgiddhdaa
open Go.RowKit
set_option maxRecDepth 100000
def Coin.size : Coin → Nat
  | .leaf _ _ => 1
  | .pack a b => a.size + b.size
def Coin.symsLt (n : Nat) : Coin → Prop
  | .leaf _ s => s < n
  | .pack a b => a.symsLt n ∧ b.symsLt n
theorem Coin.cnt_le (s : Nat) : ∀ c : Coin, c.cnt s ≤ c.size
  | .leaf w t => by unfold Coin.cnt Coin.size; split <;> omega
  | .pack a b => by have := Coin.cnt_le s a; have := Coin.cnt_le s b; unfold Coin.cnt Coin.size; omega
def CountOut (n cap g : Nat) (f : Nat → Nat) (F : List (List (Nat × Obj))) (B : Nat) (w0 : World) (e : Ending) (w' : World) : Prop :=
  e = .returned (.tuple #[]) ∧ ∃ c', RowC 3 1 (.slice (some ⟨g, 0, none⟩) n cap) n (iv (mkI (fun s => (f s : Int)) n)) c' ∧ St B w0 w' (c' :: F)
set_option maxHeartbeats 2000000 in
theorem count_any {B : Nat} {w0 : World} {F : List (List (Nat × Obj))} {A : List (Nat × Obj)} {g cap n : Nat} (j : Nat) (hj : F[j]? = some A) (hn : n ≤ 1000000) : ∀ (cn : Coin) (p : Nat) (c : List (Nat × Obj)) (w : World) (f : Nat → Nat), CoinAt A p cn →
    RowC 3 1 (.slice (some ⟨g, 0, none⟩) n cap) n (iv (mkI (fun s => (f s : Int)) n)) c → St B w0 w (c :: F) → cn.symsLt n → (∀ s, f s + cn.size ≤ 1000000000) →
    Calls Try.prog 48 #[.pointer (some ⟨p, 0, none⟩), .slice (some ⟨g, 0, none⟩) n cap] w (CountOut n cap g (fun s => f s + cn.cnt s) F B w0)
  | .leaf wo s, p, c, w, f, hc, hr, hS, hb, hf => by
    cases hc with
    | leaf hm =>
    have hj1 : (c :: F)[j + 1]? = some A := by simpa using hj
    have hc2 := hS.cell (j + 1) hj1 hm 2
    have hc1 := hS.cell (j + 1) hj1 hm 1
    simp only [List.getElem?_toArray, List.getElem?_cons_succ, List.getElem?_cons_zero] at hc1 hc2
    have hsn : s < n := hb
    have hsi : (s : Int) < (n : Int) := by omega
    have hl := hr.cellAt hS 0 rfl (iv_get _ s _ (mkI_get _ _ s hsn))
    have hfr := hr.freeAt hS 0 rfl s
    have hfs := hf s
    simp only [Coin.size] at hfs
    have HF : Hid (CountOut n cap g (fun t => f t + (Coin.leaf wo s).cnt t) F B w0 (.returned (.tuple #[])) (w.setCell ⟨g, s, none⟩ (.int .i64 ((f s : Int) + 1)))) := Lib.hid (by
      obtain ⟨c', h1, h2⟩ := hr.store hS 0 rfl rfl s (.int .i64 ((f s : Int) + 1))
      refine ⟨rfl, c', ?_, h2⟩
      rw [iv_set, mkI_set] at h1
      rw [mkI_congr _ _ _ (fun i hi => ?_)]
      · exact h1
      · simp only [Coin.cnt]
        by_cases e : i = s
        · subst e; simp
        · have e2 : ¬ s = i := fun h => e h.symm
          rw [if_neg e, if_neg e2]; simp)
    clear hr hS hf hm hj1
    generalize f s = z at *
    go_enter Try.func48, Try.ntmps48
    go_wp2_with fail
    go_end0
    exact HF.out
  | .pack a b, p, c, w, f, hc, hr, hS, hb, hf => by
    cases hc with
    | @pack _ q r _ _ hm ha hb2 =>
    have hj1 : (c :: F)[j + 1]? = some A := by simpa using hj
    have hc2 := hS.cell (j + 1) hj1 hm 2
    simp only [List.getElem?_toArray, List.getElem?_cons_succ, List.getElem?_cons_zero] at hc2
    have HA := Lib.hid (count_any j hj hn a q c w f ha hr hS hb.1 (fun s => by have := hf s; simp only [Coin.size] at this; omega))
    have H0 := Lib.hid (And.intro hm (And.intro hb2 (And.intro hb.2 hf)))
    clear hr hS hf hm ha hb2 hb
    go_enter Try.func48, Try.ntmps48
    go_wp2_with fail
    refine HA.out.mono ?_
    rintro e w2 ⟨rfl, c2, hr2, hS2⟩
    have hc3 := hS2.cell (j + 1) (by simpa using hj) H0.out.1 3
    simp only [List.getElem?_toArray, List.getElem?_cons_succ, List.getElem?_cons_zero] at hc3
    have HB := Lib.hid (count_any j hj hn b r c2 w2 (fun s => f s + a.cnt s) H0.out.2.1 hr2 hS2 H0.out.2.2.1 (fun s => by have := H0.out.2.2.2 s; have := Coin.cnt_le s a; simp only [Coin.size] at *; omega))
    clear hr2 hS2 hc2
    go_wp2_with fail
    refine HB.out.mono ?_
    rintro e w3 ⟨rfl, c3, hr3, hS3⟩
    go_wp2_with fail
    go_end0
    refine ⟨rfl, c3, ?_, hS3⟩
    rw [mkI_congr _ _ _ (fun i hi => ?_)]
    · exact hr3
    · simp only [Coin.cnt]
      omega
end Go.Proofs.Ytdhnmcdgiddhdaa

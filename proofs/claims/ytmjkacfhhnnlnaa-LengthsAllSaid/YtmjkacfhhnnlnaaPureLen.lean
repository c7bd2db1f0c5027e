/-
  Lengths of codes, plain: coins, packages, the merging of lists; how many leaves are taken at each level; Kraft; the least cost.
-/
set_option linter.unusedVariables false
set_option linter.unusedSimpArgs false
namespace Go.Proofs.Ytmjkacfhhnnlnaa
inductive Coin where
  | leaf (w s : Nat) : Coin
  | pack (a b : Coin) : Coin
deriving DecidableEq
def Coin.worth : Coin → Nat
  | .leaf w _ => w
  | .pack a b => a.worth + b.worth
/-- How often a symbol stands in a coin. -/
def Coin.cnt (s : Nat) : Coin → Nat
  | .leaf _ t => if t = s then 1 else 0
  | .pack a b => a.cnt s + b.cnt s
section
variable {α : Type}
def mergeF (key : α → Nat) : Nat → List α → List α → List α
  | 0, a, b => a ++ b
  | _ + 1, [], b => b
  | _ + 1, x :: a, [] => x :: a
  | n + 1, x :: a, y :: b => if key x ≤ key y then x :: mergeF key n a (y :: b) else y :: mergeF key n (x :: a) b
def mergeK (key : α → Nat) (a b : List α) : List α := mergeF key (a.length + b.length) a b
theorem mergeF_nil (key : α → Nat) (n : Nat) (b : List α) : mergeF key n [] b = b := by cases n <;> rfl
theorem mergeF_nil2 (key : α → Nat) (n : Nat) (a : List α) : mergeF key n a [] = a := by cases n <;> cases a <;> simp [mergeF]
theorem mergeK_nil (key : α → Nat) (b : List α) : mergeK key [] b = b := mergeF_nil _ _ _
theorem mergeK_nil2 (key : α → Nat) (a : List α) : mergeK key a [] = a := mergeF_nil2 _ _ _
theorem mergeK_cons (key : α → Nat) (x y : α) (a b : List α) : mergeK key (x :: a) (y :: b) = if key x ≤ key y then x :: mergeK key a (y :: b) else y :: mergeK key (x :: a) b := by
  unfold mergeK
  have e : (x :: a).length + (y :: b).length = (a.length + (y :: b).length) + 1 := by simp; omega
  have e2 : (x :: a).length + b.length = a.length + (y :: b).length := by simp; omega
  rw [e, e2, mergeF]
theorem mergeK_ind {P : List α → List α → Prop} (h1 : ∀ b, P [] b) (h2 : ∀ x a, P (x :: a) []) (h3 : ∀ x a y b, P a (y :: b) → P (x :: a) b → P (x :: a) (y :: b)) : ∀ a b, P a b
  | [], b => h1 b
  | x :: a, [] => h2 x a
  | x :: a, y :: b => h3 x a y b (mergeK_ind h1 h2 h3 a (y :: b)) (mergeK_ind h1 h2 h3 (x :: a) b)
termination_by a b => a.length + b.length
theorem mergeK_perm (key : α → Nat) : ∀ a b : List α, (mergeK key a b).Perm (a ++ b) := by
  apply mergeK_ind
  · intro b; rw [mergeK_nil]; exact List.Perm.refl _
  · intro x a; rw [mergeK_nil2, List.append_nil]
  · intro x a y b h1 h2
    rw [mergeK_cons]
    split
    · exact h1.cons x
    · refine (h2.cons y).trans ?_
      exact (List.perm_middle (l₁ := x :: a) (a := y) (l₂ := b)).symm
theorem mergeK_length (key : α → Nat) (a b : List α) : (mergeK key a b).length = a.length + b.length := by
  rw [(mergeK_perm key a b).length_eq, List.length_append]
def SortK (key : α → Nat) (l : List α) : Prop := l.Pairwise fun x y => key x ≤ key y
theorem mergeK_sorted (key : α → Nat) : ∀ a b : List α, SortK key a → SortK key b → SortK key (mergeK key a b) := by
  apply mergeK_ind
  · intro b _ h; rw [mergeK_nil]; exact h
  · intro x a h _; rw [mergeK_nil2]; exact h
  · intro x a y b h1 h2 ha hb
    unfold SortK at *
    rw [mergeK_cons]
    rw [List.pairwise_cons] at ha hb
    split
    · rename_i hle
      rw [List.pairwise_cons]
      refine ⟨fun z hz => ?_, h1 ha.2 (List.pairwise_cons.2 hb)⟩
      have := (mergeK_perm key a (y :: b)).subset hz
      rw [List.mem_append, List.mem_cons] at this
      rcases this with h | rfl | h
      · exact ha.1 z h
      · exact hle
      · exact Nat.le_trans hle (hb.1 z h)
    · rename_i hle
      rw [List.pairwise_cons]
      refine ⟨fun z hz => ?_, h2 (List.pairwise_cons.2 ha) hb.2⟩
      have := (mergeK_perm key (x :: a) b).subset hz
      rw [List.mem_append, List.mem_cons] at this
      rcases this with (rfl | h) | h
      · omega
      · have := ha.1 z h; omega
      · exact hb.1 z h
/-- The first m of a merged list: the first ones of both, and where they part. -/
theorem mergeK_take (key : α → Nat) : ∀ (a b : List α), ∀ m, m ≤ a.length + b.length → ∃ c p, c + p = m ∧ c ≤ a.length ∧ p ≤ b.length ∧ ((mergeK key a b).take m).Perm (a.take c ++ b.take p) ∧
    (∀ x y, SortK key a → SortK key b → a[c]? = some x → 0 < p → b[p - 1]? = some y → key y < key x) ∧ (∀ x y, SortK key a → SortK key b → 0 < c → a[c - 1]? = some x → b[p]? = some y → key x ≤ key y) := by
  apply mergeK_ind
  · intro b m hm
    simp only [List.length_nil, Nat.zero_add] at hm
    exact ⟨0, m, by omega, Nat.le_refl _, hm, by rw [mergeK_nil]; simp, by simp, by simp⟩
  · intro x a m hm
    simp only [List.length_nil, Nat.add_zero] at hm
    exact ⟨m, 0, by omega, hm, Nat.le_refl _, by rw [mergeK_nil2]; simp, by simp, by simp⟩
  · intro x a y b h1 h2 m hm
    rw [mergeK_cons]
    cases m with
    | zero => exact ⟨0, 0, rfl, Nat.zero_le _, Nat.zero_le _, by simp, by simp, by simp⟩
    | succ m =>
      simp only [List.length_cons] at hm
      split
      · rename_i hle
        obtain ⟨c, p, e1, e2, e3, e4, e5, e6⟩ := h1 m (by simp; omega)
        refine ⟨c + 1, p, by omega, by simp; omega, e3, by simpa using e4.cons x, ?_, ?_⟩
        · intro u v ha hb hu hp hv
          exact e5 u v (List.pairwise_cons.1 ha).2 hb (by simpa using hu) hp hv
        · intro u v ha hb _ hu hv
          cases c with
          | succ c => exact e6 u v (List.pairwise_cons.1 ha).2 hb (Nat.succ_pos _) (by simpa using hu) hv
          | zero =>
            simp at hu
            subst hu
            cases p with
            | zero => simp at hv; subst hv; exact hle
            | succ p =>
              simp only [List.getElem?_cons_succ] at hv
              have := (List.pairwise_cons.1 hb).1 v (List.mem_of_getElem? hv)
              omega
      · rename_i hle
        obtain ⟨c, p, e1, e2, e3, e4, e5, e6⟩ := h2 m (by simp; omega)
        refine ⟨c, p + 1, by omega, e2, by simp; omega, ?_, ?_, ?_⟩
        · rw [List.take_succ_cons, List.take_succ_cons]
          exact (e4.cons y).trans (List.perm_middle (l₁ := (x :: a).take c) (a := y) (l₂ := b.take p)).symm
        · intro u v ha hb hu _ hv
          cases p with
          | succ p => exact e5 u v ha (List.pairwise_cons.1 hb).2 hu (Nat.succ_pos _) (by simpa using hv)
          | zero =>
            simp at hv
            subst hv
            cases c with
            | zero => simp at hu; subst hu; omega
            | succ c =>
              simp only [List.getElem?_cons_succ] at hu
              have := (List.pairwise_cons.1 ha).1 u (List.mem_of_getElem? hu)
              omega
        · intro u v ha hb hc hu hv
          exact e6 u v ha (List.pairwise_cons.1 hb).2 hc hu (by simpa using hv)
end
def pairsC : List Coin → List Coin
  | x :: y :: l => .pack x y :: pairsC l
  | _ => []
def levelC (l : List Coin) : Nat → List Coin
  | 0 => l
  | k + 1 => mergeK Coin.worth l (pairsC (levelC l k))
theorem pairsC_length : ∀ l : List Coin, (pairsC l).length = l.length / 2
  | [] => rfl
  | [_] => by simp [pairsC]
  | _ :: _ :: l => by simp only [pairsC, List.length_cons, pairsC_length l]; omega
theorem pairsC_take : ∀ (l : List Coin) (p : Nat), 2 * p ≤ l.length → (pairsC l).take p = pairsC (l.take (2 * p))
  | _, 0, _ => by simp [pairsC]
  | [], p + 1, h => by simp at h
  | [_], p + 1, h => by simp at h; omega
  | x :: y :: l, p + 1, h => by
    rw [show 2 * (p + 1) = 2 * p + 1 + 1 from by omega]
    simp only [List.take_succ_cons, pairsC]
    rw [pairsC_take l p (by simp at h; omega)]
theorem pairsC_get : ∀ (l : List Coin) (p : Nat), 2 * p + 1 < l.length → ∃ x y, l[2 * p]? = some x ∧ l[2 * p + 1]? = some y ∧ (pairsC l)[p]? = some (.pack x y)
  | [], p, h => by simp at h
  | [_], p, h => by simp at h
  | x :: y :: l, 0, _ => ⟨x, y, rfl, rfl, rfl⟩
  | x :: y :: l, p + 1, h => by
    obtain ⟨u, v, h1, h2, h3⟩ := pairsC_get l p (by simp at h; omega)
    exact ⟨u, v, by rw [show 2 * (p + 1) = 2 * p + 1 + 1 from by omega]; simpa using h1, by rw [show 2 * (p + 1) + 1 = 2 * p + 1 + 1 + 1 from by omega]; simpa using h2, by simpa [pairsC] using h3⟩
theorem pairsC_sorted : ∀ l : List Coin, SortK Coin.worth l → SortK Coin.worth (pairsC l)
  | [], _ => List.Pairwise.nil
  | [_], _ => List.Pairwise.nil
  | x :: y :: l, h => by
    unfold SortK at *
    rw [pairsC]
    rw [List.pairwise_cons, List.pairwise_cons] at h
    rw [List.pairwise_cons]
    refine ⟨fun z hz => ?_, pairsC_sorted l h.2.2⟩
    obtain ⟨p, hp⟩ := List.mem_iff_getElem?.1 hz
    have hl := (List.getElem?_eq_some_iff.1 hp).1
    rw [pairsC_length] at hl
    obtain ⟨u, v, h1, h2, h3⟩ := pairsC_get l p (by omega)
    rw [hp] at h3
    cases h3
    have a1 := h.1 u (List.mem_cons_of_mem _ (List.mem_of_getElem? h1))
    have a2 := h.2.1 v (List.mem_of_getElem? h2)
    simp only [Coin.worth]
    omega
theorem levelC_sorted {l : List Coin} (h : SortK Coin.worth l) : ∀ k, SortK Coin.worth (levelC l k)
  | 0 => h
  | k + 1 => mergeK_sorted _ _ _ h (pairsC_sorted _ (levelC_sorted h k))
theorem levelC_length (l : List Coin) (k : Nat) : (levelC l (k + 1)).length = l.length + (levelC l k).length / 2 := by
  rw [levelC, mergeK_length, pairsC_length]
theorem level14_length (l : List Coin) (h1 : 2 ≤ l.length) (h : l.length ≤ 300) : 2 * l.length - 2 ≤ (levelC l 14).length := by
  have e := levelC_length l
  have h0 : (levelC l 0).length = l.length := rfl
  have s0 : 2 * l.length ≤ (levelC l 0).length + 300 := by omega
  have s1 : 2 * l.length ≤ (levelC l 1).length + 150 := by have q : (levelC l 1).length = l.length + (levelC l 0).length / 2 := e 0; omega
  have s2 : 2 * l.length ≤ (levelC l 2).length + 75 := by have q : (levelC l 2).length = l.length + (levelC l 1).length / 2 := e 1; omega
  have s3 : 2 * l.length ≤ (levelC l 3).length + 38 := by have q : (levelC l 3).length = l.length + (levelC l 2).length / 2 := e 2; omega
  have s4 : 2 * l.length ≤ (levelC l 4).length + 19 := by have q : (levelC l 4).length = l.length + (levelC l 3).length / 2 := e 3; omega
  have s5 : 2 * l.length ≤ (levelC l 5).length + 10 := by have q : (levelC l 5).length = l.length + (levelC l 4).length / 2 := e 4; omega
  have s6 : 2 * l.length ≤ (levelC l 6).length + 5 := by have q : (levelC l 6).length = l.length + (levelC l 5).length / 2 := e 5; omega
  have s7 : 2 * l.length ≤ (levelC l 7).length + 3 := by have q : (levelC l 7).length = l.length + (levelC l 6).length / 2 := e 6; omega
  have s8 : 2 * l.length ≤ (levelC l 8).length + 2 := by have q : (levelC l 8).length = l.length + (levelC l 7).length / 2 := e 7; omega
  have s9 : 2 * l.length ≤ (levelC l 9).length + 1 := by have q : (levelC l 9).length = l.length + (levelC l 8).length / 2 := e 8; omega
  have s10 : 2 * l.length ≤ (levelC l 10).length + 1 := by have q : (levelC l 10).length = l.length + (levelC l 9).length / 2 := e 9; omega
  have s11 : 2 * l.length ≤ (levelC l 11).length + 1 := by have q : (levelC l 11).length = l.length + (levelC l 10).length / 2 := e 10; omega
  have s12 : 2 * l.length ≤ (levelC l 12).length + 1 := by have q : (levelC l 12).length = l.length + (levelC l 11).length / 2 := e 11; omega
  have s13 : 2 * l.length ≤ (levelC l 13).length + 1 := by have q : (levelC l 13).length = l.length + (levelC l 12).length / 2 := e 12; omega
  have s14 : 2 * l.length ≤ (levelC l 14).length + 1 := by have q : (levelC l 14).length = l.length + (levelC l 13).length / 2 := e 13; omega
  omega
/-- Sums over lists of coins. -/
def sumC (g : Coin → Nat) (l : List Coin) : Nat := (l.map g).sum
theorem sumC_append (g : Coin → Nat) (a b : List Coin) : sumC g (a ++ b) = sumC g a + sumC g b := by simp [sumC]
theorem sumC_perm (g : Coin → Nat) {a b : List Coin} (h : a.Perm b) : sumC g a = sumC g b := (h.map g).sum_nat
theorem sumC_pairs (g : Coin → Nat) (hg : ∀ x y, g (.pack x y) = g x + g y) : ∀ (l : List Coin), l.length % 2 = 0 → sumC g (pairsC l) = sumC g l
  | [], _ => rfl
  | [_], h => by simp at h
  | x :: y :: l, h => by
    have := sumC_pairs g hg l (by simp at h; omega)
    simp only [pairsC, sumC, List.map_cons, List.sum_cons, hg] at *
    omega
theorem worth_get {l : List Coin} (h : SortK Coin.worth l) {i j : Nat} {x y : Coin} (hx : l[i]? = some x) (hy : l[j]? = some y) (hij : i ≤ j) : x.worth ≤ y.worth := by
  obtain ⟨h1, e1⟩ := List.getElem?_eq_some_iff.1 hx
  obtain ⟨h2, e2⟩ := List.getElem?_eq_some_iff.1 hy
  rcases Nat.lt_or_ge i j with q | q
  · have := List.pairwise_iff_getElem.1 h i j h1 h2 q
    rw [e1, e2] at this
    exact this
  · have : i = j := by omega
    subst this
    rw [hx] at hy
    cases hy
    exact Nat.le_refl _
def wsum : List Nat → Nat
  | [] => 0
  | c :: cs => c * 2 ^ cs.length + wsum cs
/-- The leaves that are taken, level by level from above: how many; each level takes no more than the one above. -/
theorem chain {l : List Coin} (h : SortK Coin.worth l) : ∀ (k m : Nat), m ≤ (levelC l k).length → ∃ cs : List Nat, cs.length = k + 1 ∧ (∀ c ∈ cs, c ≤ l.length) ∧ cs.Pairwise (fun a b => b ≤ a) ∧ m * 2 ^ k = wsum cs ∧
    (∀ g : Coin → Nat, (∀ x y, g (.pack x y) = g x + g y) → sumC g ((levelC l k).take m) = (cs.map fun c => sumC g (l.take c)).sum) ∧
    (∀ c, cs.head? = some c → ∀ i x, i < c → l[i]? = some x → x ∈ (levelC l k).take m) ∧
    (∀ c, cs.head? = some c → k = 0 → c = m) ∧
    (∀ c, cs.head? = some c → ∀ j, k = j + 1 → ∃ p, c + p = m ∧ p ≤ (pairsC (levelC l j)).length ∧ ∀ x y, l[c]? = some x → 0 < p → (pairsC (levelC l j))[p - 1]? = some y → y.worth < x.worth)
  | 0, m, hm => by
    refine ⟨[m], rfl, by simpa [levelC] using hm, List.pairwise_singleton _ _, by simp [wsum], fun g _ => by simp [levelC], ?_, fun c hc _ => by simpa using hc.symm, fun c _ j hj => by omega⟩
    intro c hc i x hi hx
    simp at hc
    subst hc
    exact List.mem_of_getElem? (i := i) (by rw [levelC, List.getElem?_take, if_pos hi]; exact hx)
  | k + 1, m, hm => by
    have hlen := hm
    rw [levelC, mergeK_length] at hlen
    obtain ⟨c, p, e1, e2, e3, e4, e5, e6⟩ := mergeK_take Coin.worth l (pairsC (levelC l k)) m hlen
    have hp2 : 2 * p ≤ (levelC l k).length := by rw [pairsC_length] at e3; omega
    obtain ⟨cs, f1, f2, f3, f4, f5, f6, f7, f8⟩ := chain h k (2 * p) hp2
    have hps := pairsC_sorted _ (levelC_sorted h k)
    have hhead : ∀ d, cs.head? = some d → d ≤ c := by
      intro d hd
      rcases Nat.lt_or_ge c d with q | q
      · exfalso
        have hdl : d ≤ l.length := f2 d (List.mem_of_mem_head? hd)
        obtain ⟨x, hx⟩ : ∃ x, l[c]? = some x := ⟨_, List.getElem?_eq_getElem (by omega)⟩
        have hmem := f6 d hd c x q hx
        obtain ⟨i, hi⟩ := List.mem_iff_getElem?.1 hmem
        rw [List.getElem?_take] at hi
        split at hi
        · rename_i hi2
          have hp0 : 0 < p := by omega
          obtain ⟨u, v, g1, g2, g3⟩ := pairsC_get (levelC l k) (p - 1) (by omega)
          have := e5 x _ h hps hx hp0 g3
          have hw := worth_get (levelC_sorted h k) hi g2 (by omega)
          simp only [Coin.worth] at this
          omega
        · cases hi
      · exact q
    refine ⟨c :: cs, by simp [f1], ?_, ?_, ?_, ?_, ?_, ?_, ?_⟩
    · intro d hd
      rcases List.mem_cons.1 hd with rfl | hd
      · exact e2
      · exact f2 d hd
    · rw [List.pairwise_cons]
      refine ⟨fun d hd => ?_, f3⟩
      cases cs with
      | nil => cases hd
      | cons z zs =>
        have hz := hhead z rfl
        rcases List.mem_cons.1 hd with rfl | hd
        · exact hz
        · exact Nat.le_trans ((List.pairwise_cons.1 f3).1 d hd) hz
    · rw [wsum, f1, ← f4, ← e1, Nat.pow_succ, Nat.add_mul, Nat.mul_assoc 2 p, Nat.mul_comm 2 (p * 2 ^ k), Nat.mul_assoc p]
    · intro g hg
      rw [levelC, sumC_perm g e4, sumC_append, pairsC_take _ _ hp2, sumC_pairs g hg _ (by rw [List.length_take]; omega), f5 g hg]
      simp
    · intro d hd i x hi hx
      simp at hd
      subst hd
      rw [levelC]
      exact e4.symm.subset (List.mem_append_left _ (List.mem_of_getElem? (i := i) (by rw [List.getElem?_take, if_pos hi]; exact hx)))
    · intro _ _ h0
      omega
    · intro d hd j hj
      simp at hd
      subst hd
      have : j = k := by omega
      subst this
      exact ⟨p, e1, e3, fun x y hx hp hy => e5 x y h hps hx hp hy⟩
/-- Not many packages are worth less than the last leaf. -/
theorem packs_few {l : List Coin} (h : SortK Coin.worth l) (hn : 2 ≤ l.length) {z : Coin} (hz : l[l.length - 1]? = some z) : ∀ (k p : Nat) (y : Coin), 0 < p → (pairsC (levelC l k))[p - 1]? = some y → y.worth < z.worth → p ≤ l.length - 2 := by
  have key : ∀ k p y, 0 < p → (pairsC (levelC l k))[p - 1]? = some y → y.worth < z.worth → ∀ i x, i < 2 * p → (levelC l k)[i]? = some x → x.worth < z.worth := by
    intro k p y hp hy hw i x hi hx
    have hl := (List.getElem?_eq_some_iff.1 hy).1
    rw [pairsC_length] at hl
    obtain ⟨u, v, g1, g2, g3⟩ := pairsC_get (levelC l k) (p - 1) (by omega)
    rw [hy] at g3
    cases g3
    have := worth_get (levelC_sorted h k) hx g2 (by omega)
    simp only [Coin.worth] at hw
    omega
  intro k
  induction k with
  | zero =>
    intro p y hp hy hw
    have hl := (List.getElem?_eq_some_iff.1 hy).1
    rw [pairsC_length, levelC] at hl
    have := key 0 p y hp hy hw
    rcases Nat.lt_or_ge (l.length - 1) (2 * p) with q | q
    · have := this (l.length - 1) z q hz
      omega
    · omega
  | succ k ih =>
    intro p y hp hy hw
    have hl := (List.getElem?_eq_some_iff.1 hy).1
    rw [pairsC_length] at hl
    have hall := key (k + 1) p y hp hy hw
    obtain ⟨c, q, e1, e2, e3, e4, _, _⟩ := mergeK_take Coin.worth l (pairsC (levelC l k)) (2 * p) (by rw [pairsC_length, ← levelC_length]; omega)
    have hmem : ∀ x ∈ (levelC l (k + 1)).take (2 * p), x.worth < z.worth := by
      intro x hx
      obtain ⟨i, hi⟩ := List.mem_iff_getElem?.1 hx
      rw [List.getElem?_take] at hi
      split at hi
      · exact hall i x (by assumption) hi
      · cases hi
    rw [levelC] at hmem
    have hc : c ≤ l.length - 1 := by
      rcases Nat.lt_or_ge (l.length - 1) c with q2 | q2
      · have := hmem z (e4.symm.subset (List.mem_append_left _ (List.mem_of_getElem? (i := l.length - 1) (by rw [List.getElem?_take, if_pos q2]; exact hz))))
        omega
      · exact q2
    have hq : q ≤ l.length - 2 := by
      cases q with
      | zero => omega
      | succ q =>
        obtain ⟨y2, hy2⟩ : ∃ y2, (pairsC (levelC l k))[q]? = some y2 := ⟨_, List.getElem?_eq_getElem (by omega)⟩
        refine ih (q + 1) y2 (Nat.succ_pos _) hy2 ?_
        exact hmem y2 (e4.symm.subset (List.mem_append_right _ (List.mem_of_getElem? (i := q) (by rw [List.getElem?_take, if_pos (Nat.lt_succ_self _)]; exact hy2))))
    omega
end Go.Proofs.Ytmjkacfhhnnlnaa

/-
  Lengths of codes, plain: how long each leaf's code is, and that Kraft's sum is whole; that no other lengths are cheaper.
-/
import Derived.Test.YtmjkacfhhnnlnaaPureLen
set_option linter.unusedVariables false
set_option linter.unusedSimpArgs false
namespace Go.Proofs.Ytmjkacfhhnnlnaa
/-- At how many levels a place is taken. -/
def li (cs : List Nat) (i : Nat) : Nat := cs.countP fun c => decide (i < c)
theorem li_le (cs : List Nat) (i : Nat) : li cs i ≤ cs.length := List.countP_le_length
theorem li_cons (c : Nat) (cs : List Nat) (i : Nat) : li (c :: cs) i = li cs i + if i < c then 1 else 0 := by
  unfold li
  rw [List.countP_cons]
  simp
theorem li_anti (cs : List Nat) {i j : Nat} (h : i ≤ j) : li cs j ≤ li cs i := by
  unfold li
  apply List.countP_mono_left
  intro c _ hc
  simp only [decide_eq_true_eq] at hc ⊢
  omega
theorem sum_map_add (l : List Nat) (f g : Nat → Nat) : (l.map fun i => f i + g i).sum = (l.map f).sum + (l.map g).sum := by
  induction l with
  | nil => rfl
  | cons x l ih => simp only [List.map_cons, List.sum_cons, ih]; omega
theorem sum_map_congr (l : List Nat) (f g : Nat → Nat) (h : ∀ i ∈ l, f i = g i) : (l.map f).sum = (l.map g).sum := by rw [List.map_congr_left h]
theorem sum_const (n k : Nat) : ((List.range n).map fun _ => k).sum = n * k := by
  induction n with
  | zero => simp
  | succ n ih => rw [List.range_succ, List.map_append, List.sum_append_nat, ih, Nat.add_mul]; simp
theorem sum_below (n c k : Nat) (h : c ≤ n) : ((List.range n).map fun i => if i < c then k else 0).sum = c * k := by
  induction n with
  | zero => have : c = 0 := by omega
            subst this; simp
  | succ n ih =>
    rw [List.range_succ, List.map_append, List.sum_append_nat]
    by_cases q : c ≤ n
    · rw [ih q]; simp; omega
    · have : c = n + 1 := by omega
      subst this
      rw [sum_map_congr _ _ (fun _ => k) (fun i hi => by rw [if_pos]; simp at hi; omega), sum_const, Nat.add_mul]
      simp
theorem kraft_cs (n : Nat) : ∀ cs : List Nat, (∀ c ∈ cs, c ≤ n) → cs.Pairwise (fun a b => b ≤ a) → ((List.range n).map fun i => 2 ^ cs.length - 2 ^ (cs.length - li cs i)).sum = wsum cs
  | [], _, _ => by simp [wsum, li, sum_const]
  | c :: cs, hle, hp => by
    rw [List.pairwise_cons] at hp
    have ih := kraft_cs n cs (fun d hd => hle d (List.mem_cons_of_mem _ hd)) hp.2
    have hc := hle c (List.mem_cons_self ..)
    rw [wsum, ← ih, ← sum_below n c (2 ^ cs.length) hc, ← sum_map_add]
    apply sum_map_congr
    intro i _
    rw [li_cons, List.length_cons]
    by_cases q : i < c
    · rw [if_pos q, if_pos q]
      have h1 := li_le cs i
      have h2 : 2 ^ (cs.length - li cs i) ≤ 2 ^ cs.length := Nat.pow_le_pow_right (by omega) (by omega)
      rw [show cs.length + 1 - (li cs i + 1) = cs.length - li cs i from by omega, Nat.pow_succ]
      omega
    · rw [if_neg q, if_neg q]
      have : li cs i = 0 := by
        unfold li
        rw [List.countP_eq_zero]
        intro d hd
        have := hp.1 d hd
        simp
        omega
      rw [this]
      simp
/-- What is taken of the leaves of a sorted list. -/
theorem taken {l : List Coin} (h : SortK Coin.worth l) (hn : 2 ≤ l.length) (hn2 : l.length ≤ 300) : ∃ cs : List Nat, cs.length = 15 ∧ cs.head? = some l.length ∧ (∀ c ∈ cs, c ≤ l.length) ∧ cs.Pairwise (fun a b => b ≤ a) ∧
    (2 * l.length - 2) * 2 ^ 14 = wsum cs ∧ ∀ g : Coin → Nat, (∀ x y, g (.pack x y) = g x + g y) → sumC g ((levelC l 14).take (2 * l.length - 2)) = (cs.map fun c => sumC g (l.take c)).sum := by
  obtain ⟨cs, h1, h2, h3, h4, h5, h6, h7, h8⟩ := chain h 14 (2 * l.length - 2) (level14_length l hn hn2)
  refine ⟨cs, h1, ?_, h2, h3, h4, h5⟩
  cases cs with
  | nil => simp at h1
  | cons c cs =>
    have hc := h2 c (List.mem_cons_self ..)
    obtain ⟨p, e1, e2, e3⟩ := h8 c rfl 13 rfl
    rcases Nat.lt_or_ge c l.length with q | q
    · exfalso
      have hp : 0 < p := by omega
      obtain ⟨x, hx⟩ : ∃ x, l[c]? = some x := ⟨_, List.getElem?_eq_getElem q⟩
      obtain ⟨y, hy⟩ : ∃ y, (pairsC (levelC l 13))[p - 1]? = some y := ⟨_, List.getElem?_eq_getElem (by omega)⟩
      obtain ⟨z, hz⟩ : ∃ z, l[l.length - 1]? = some z := ⟨_, List.getElem?_eq_getElem (by omega)⟩
      have hw := e3 x y hx hp hy
      have hxz := worth_get h hx hz (by omega)
      have := packs_few h hn hz 13 p y hp hy (by omega)
      omega
    · have : c = l.length := by omega
      subst this
      rfl
theorem kraft_whole {l : List Coin} {cs : List Nat} (h1 : cs.length = 15) (h2 : ∀ c ∈ cs, c ≤ l.length) (h3 : cs.Pairwise (fun a b => b ≤ a)) (hn : 2 ≤ l.length) (h4 : (2 * l.length - 2) * 2 ^ 14 = wsum cs) :
    ((List.range l.length).map fun i => 2 ^ (15 - li cs i)).sum = 2 ^ 15 := by
  have hk := kraft_cs l.length cs h2 h3
  rw [h1] at hk
  have hs : ((List.range l.length).map fun i => 2 ^ (15 - li cs i)).sum + ((List.range l.length).map fun i => 2 ^ 15 - 2 ^ (15 - li cs i)).sum = l.length * 2 ^ 15 := by
    rw [← sum_map_add, ← sum_const]
    apply sum_map_congr
    intro i _
    have : 2 ^ (15 - li cs i) ≤ 2 ^ 15 := Nat.pow_le_pow_right (by omega) (by omega)
    omega
  rw [hk, ← h4] at hs
  omega
/-! No other lengths are cheaper -/
def worths (l : List Coin) (m : Nat) : Nat := sumC Coin.worth (l.take m)
theorem sumC_take_split (g : Coin → Nat) (l : List Coin) {i j : Nat} (h : i ≤ j) : sumC g (l.take j) = sumC g (l.take i) + sumC g ((l.take j).drop i) := by
  rw [← sumC_append]
  congr 1
  have := List.take_append_drop i (l.take j)
  rw [List.take_take, Nat.min_eq_left h] at this
  exact this.symm
theorem sumC_le_of (l : List Coin) (z : Nat) (h : ∀ x ∈ l, x.worth ≤ z) : sumC Coin.worth l ≤ l.length * z := by
  induction l with
  | nil => simp [sumC]
  | cons x l ih =>
    have h1 := h x (List.mem_cons_self ..)
    have h2 := ih fun y hy => h y (List.mem_cons_of_mem _ hy)
    simp only [sumC, List.map_cons, List.sum_cons, List.length_cons, Nat.add_mul] at *
    omega
theorem sumC_ge_of (l : List Coin) (z : Nat) (h : ∀ x ∈ l, z ≤ x.worth) : l.length * z ≤ sumC Coin.worth l := by
  induction l with
  | nil => simp
  | cons x l ih =>
    have h1 := h x (List.mem_cons_self ..)
    have h2 := ih fun y hy => h y (List.mem_cons_of_mem _ hy)
    simp only [sumC, List.map_cons, List.sum_cons, List.length_cons, Nat.add_mul] at *
    omega
/-- The stretch of a sorted list ahead of a place is not worth more than as long a stretch behind a dearer one. -/
theorem stretch {a b : List Coin} (ha : SortK Coin.worth a) (hb : SortK Coin.worth b) {i c p j : Nat} (h1 : i ≤ c) (hc : c ≤ a.length) (h2 : p ≤ j) (hj : j ≤ b.length) (he : c - i = j - p)
    (hx : ∀ x y, 0 < c → a[c - 1]? = some x → b[p]? = some y → x.worth ≤ y.worth) : worths a c + worths b p ≤ worths a i + worths b j := by
  unfold worths
  rw [sumC_take_split Coin.worth a h1, sumC_take_split Coin.worth b h2]
  rcases Nat.eq_or_lt_of_le h1 with q | q
  · have e1 : (a.take c).drop i = [] := by rw [List.drop_eq_nil_iff, List.length_take]; omega
    rw [e1]
    simp only [sumC, List.map_nil, List.sum_nil]
    omega
  · obtain ⟨x, hx1⟩ : ∃ x, a[c - 1]? = some x := ⟨_, List.getElem?_eq_getElem (by omega)⟩
    obtain ⟨y, hy1⟩ : ∃ y, b[p]? = some y := ⟨_, List.getElem?_eq_getElem (by omega)⟩
    have hxy := hx x y (by omega) hx1 hy1
    have s1 := sumC_le_of ((a.take c).drop i) x.worth (by
      intro u hu
      obtain ⟨k, hk⟩ := List.mem_iff_getElem?.1 hu
      rw [List.getElem?_drop, List.getElem?_take] at hk
      split at hk
      · exact worth_get ha hk hx1 (by omega)
      · cases hk)
    have s2 := sumC_ge_of ((b.take j).drop p) y.worth (by
      intro u hu
      obtain ⟨k, hk⟩ := List.mem_iff_getElem?.1 hu
      rw [List.getElem?_drop, List.getElem?_take] at hk
      split at hk
      · exact worth_get hb hy1 hk (by omega)
      · cases hk)
    have l1 : ((a.take c).drop i).length = c - i := by rw [List.length_drop, List.length_take]; omega
    have l2 : ((b.take j).drop p).length = c - i := by rw [List.length_drop, List.length_take]; omega
    rw [l1] at s1
    rw [l2] at s2
    have := Nat.mul_le_mul_left (c - i) hxy
    omega
/-- The first ones of a merged list are the cheapest. -/
theorem merge_cheap {a b : List Coin} (ha : SortK Coin.worth a) (hb : SortK Coin.worth b) {i j : Nat} (hi : i ≤ a.length) (hj : j ≤ b.length) : worths (mergeK Coin.worth a b) (i + j) ≤ worths a i + worths b j := by
  obtain ⟨c, p, e1, e2, e3, e4, e5, e6⟩ := mergeK_take Coin.worth a b (i + j) (by omega)
  have e : worths (mergeK Coin.worth a b) (i + j) = worths a c + worths b p := by
    unfold worths
    rw [sumC_perm _ e4, sumC_append]
  rw [e]
  rcases Nat.lt_or_ge i c with q | q
  · exact stretch ha hb (by omega) e2 (by omega) hj (by omega) (fun x y h1 h2 h3 => e6 x y ha hb h1 h2 h3)
  · have := stretch hb ha (i := j) (c := p) (p := c) (j := i) (by omega) e3 (by omega) hi (by omega) (fun x y h1 h2 h3 => Nat.le_of_lt (e5 y x ha hb h3 h1 h2))
    omega
/-- Any choice of leaves, level by level (ds: how many at each level, from below). -/
theorem level_cheap {l : List Coin} (h : SortK Coin.worth l) : ∀ (k : Nat) (ds : Nat → Nat) (ms : Nat → Nat), (∀ j, j ≤ k → ds j ≤ l.length) → ms 0 = ds 0 → (∀ j, j < k → ms (j + 1) = ds (j + 1) + ms j / 2) →
    ms k ≤ (levelC l k).length ∧ worths (levelC l k) (ms k) ≤ ((List.range (k + 1)).map fun j => worths l (ds j)).sum
  | 0, ds, ms, h1, h2, _ => by
    rw [h2]
    exact ⟨h1 0 (Nat.le_refl _), by simp [levelC]⟩
  | k + 1, ds, ms, h1, h2, h3 => by
    obtain ⟨i1, i2⟩ := level_cheap h k ds ms (fun j hj => h1 j (by omega)) h2 (fun j hj => h3 j (by omega))
    have hp : ms k / 2 ≤ (pairsC (levelC l k)).length := by rw [pairsC_length]; omega
    have hd := h1 (k + 1) (Nat.le_refl _)
    have hm := merge_cheap h (pairsC_sorted _ (levelC_sorted h k)) hd hp
    rw [h3 k (Nat.lt_succ_self _)]
    refine ⟨by rw [levelC_length]; rw [pairsC_length] at hp; omega, ?_⟩
    rw [levelC, List.range_succ, List.map_append, List.sum_append_nat]
    have hw : worths (pairsC (levelC l k)) (ms k / 2) ≤ worths (levelC l k) (ms k) := by
      unfold worths
      rw [pairsC_take _ _ (by omega), sumC_pairs Coin.worth (fun _ _ => rfl) _ (by rw [List.length_take]; omega)]
      rw [sumC_take_split Coin.worth (levelC l k) (show 2 * (ms k / 2) ≤ ms k by omega)]
      omega
    simp only [List.map_cons, List.map_nil, List.sum_cons, List.sum_nil]
    omega
end Go.Proofs.Ytmjkacfhhnnlnaa

/-
  Lengths of codes, plain: symbols of one frequency.
-/
import Derived.Test.YtmjkacfhhnnlnaaPureLenC
set_option linter.unusedVariables false
set_option linter.unusedSimpArgs false
namespace Go.Proofs.Ytmjkacfhhnnlnaa
theorem mergeK_apart {α : Type} (key : α → Nat) : ∀ (a b : List α), (∀ x ∈ a, ∀ y ∈ b, key x ≤ key y) → mergeK key a b = a ++ b
  | [], b, _ => mergeK_nil key b
  | x :: a, [], _ => by rw [mergeK_nil2, List.append_nil]
  | x :: a, y :: b, h => by
    rw [mergeK_cons, if_pos (h x (List.mem_cons_self ..) y (List.mem_cons_self ..)), mergeK_apart key a (y :: b) fun u hu v hv => h u (List.mem_cons_of_mem _ hu) v hv]
    rfl
theorem level_ge {l : List Coin} {f : Nat} (h : ∀ x ∈ l, x.worth = f) : ∀ k, ∀ x ∈ levelC l k, f ≤ x.worth
  | 0, x, hx => Nat.le_of_eq (h x hx).symm
  | k + 1, x, hx => by
    rw [levelC] at hx
    rcases List.mem_append.1 ((mergeK_perm Coin.worth l _).subset hx) with h1 | h1
    · exact Nat.le_of_eq (h x h1).symm
    · obtain ⟨p, hp⟩ := List.mem_iff_getElem?.1 h1
      have hl := (List.getElem?_eq_some_iff.1 hp).1
      rw [pairsC_length] at hl
      obtain ⟨u, v, e1, e2, e3⟩ := pairsC_get (levelC l k) p (by omega)
      rw [hp] at e3
      cases e3
      have := level_ge h k u (List.mem_of_getElem? e1)
      simp only [Coin.worth]
      omega
theorem level_equal {l : List Coin} {f : Nat} (h : ∀ x ∈ l, x.worth = f) (k : Nat) : levelC l (k + 1) = l ++ pairsC (levelC l k) := by
  rw [levelC]
  apply mergeK_apart
  intro x hx y hy
  rw [h x hx]
  obtain ⟨p, hp⟩ := List.mem_iff_getElem?.1 hy
  have hl := (List.getElem?_eq_some_iff.1 hp).1
  rw [pairsC_length] at hl
  obtain ⟨u, v, e1, e2, e3⟩ := pairsC_get (levelC l k) p (by omega)
  rw [hp] at e3
  cases e3
  have := level_ge h k u (List.mem_of_getElem? e1)
  simp only [Coin.worth]
  omega
theorem take_equal {l : List Coin} {f : Nat} (h : ∀ x ∈ l, x.worth = f) (g : Coin → Nat) (hg : ∀ x y, g (.pack x y) = g x + g y) (k m : Nat) (hm : 2 * (m - l.length) ≤ (levelC l k).length) :
    sumC g ((levelC l (k + 1)).take m) = sumC g (l.take m) + sumC g ((levelC l k).take (2 * (m - l.length))) := by
  rw [level_equal h, List.take_append, sumC_append, pairsC_take _ _ hm, sumC_pairs g hg _ (by rw [List.length_take]; omega)]
/-- The levels have room enough. -/
theorem level_room (l : List Coin) : ∀ k, 2 * l.length ≤ (levelC l k).length + (l.length + 2 ^ k - 1) / 2 ^ k
  | 0 => by simp [levelC]; omega
  | k + 1 => by
    have ih := level_room l k
    rw [levelC_length]
    have hp := Nat.two_pow_pos k
    have e : (l.length + 2 ^ k - 1) / 2 ^ k ≤ 2 * ((l.length + 2 ^ (k + 1) - 1) / 2 ^ (k + 1)) := by
      rw [Nat.pow_succ]
      generalize 2 ^ k = P at *
      have h1 : (l.length + P * 2 - 1) / (P * 2) * (P * 2) + (l.length + P * 2 - 1) % (P * 2) = l.length + P * 2 - 1 := by rw [Nat.mul_comm]; exact Nat.div_add_mod _ _
      have h2 := Nat.mod_lt (l.length + P * 2 - 1) (show 0 < P * 2 by omega)
      have h3 : l.length ≤ (l.length + P * 2 - 1) / (P * 2) * (P * 2) := by omega
      generalize (l.length + P * 2 - 1) / (P * 2) = Q at *
      have h4 : l.length + P - 1 < (2 * Q + 1) * P := by
        have : Q * (P * 2) = 2 * Q * P := by rw [Nat.mul_comm P 2, ← Nat.mul_assoc, Nat.mul_comm Q 2]
        rw [Nat.add_mul]
        omega
      have := (Nat.div_lt_iff_lt_mul hp).2 h4
      omega
    omega
theorem equal_chain {l : List Coin} {f : Nat} (h : ∀ x ∈ l, x.worth = f) (g : Coin → Nat) (hg : ∀ x y, g (.pack x y) = g x + g y) (K c : Nat) (h1 : 2 ^ K ≤ l.length) (h2 : l.length < 2 ^ (K + 1)) : ∀ (d : Nat), d ≤ K →
    (∀ j, j < d → 2 * l.length ≤ (levelC l (j + (c + 1))).length + 2 ^ (K - j + 1)) → sumC g ((levelC l (d + (c + 1))).take (2 * l.length - 2 ^ (K - d + 1))) = d * sumC g l + sumC g (l.take (2 * l.length - 2 ^ (K + 1)))
  | 0, _, hr => by
    rw [Nat.sub_zero, Nat.zero_add, take_equal h g hg c _ (by rw [show 2 * l.length - 2 ^ (K + 1) - l.length = 0 from by omega]; omega), show 2 * l.length - 2 ^ (K + 1) - l.length = 0 from by omega]
    simp [sumC]
  | d + 1, hd, hr => by
    have hp : 2 ^ (K - (d + 1) + 1) ≤ 2 ^ K := Nat.pow_le_pow_right (by omega) (by omega)
    have e : 2 * (2 * l.length - 2 ^ (K - (d + 1) + 1) - l.length) = 2 * l.length - 2 ^ (K - d + 1) := by
      rw [show K - d + 1 = (K - (d + 1) + 1) + 1 from by omega, Nat.pow_succ 2 (K - (d + 1) + 1)]
      omega
    have hl := hr d (Nat.lt_succ_self _)
    rw [show d + 1 + (c + 1) = (d + (c + 1)) + 1 from by omega, take_equal h g hg _ _ (by rw [e]; omega), e, equal_chain h g hg K c h1 h2 d (by omega) (fun j hj => hr j (by omega)), List.take_of_length_le (by omega), Nat.add_mul]
    omega
theorem room_le (n P Q : Nat) (hP : 0 < P) (h : n ≤ Q * P) : (n + P - 1) / P ≤ Q := by
  have : n + P - 1 < (Q + 1) * P := by rw [Nat.add_mul]; omega
  have := (Nat.div_lt_iff_lt_mul hP).2 this
  omega
theorem lvs_syms_lex (n f : Nat) : (leavesP (List.replicate n f)).Pairwise lexC := by
  have h := leavesP_syms (List.replicate n f)
  refine List.Pairwise.imp_of_mem ?_ h
  intro x y hx hy hlt
  have hw : ∀ z ∈ leavesP (List.replicate n f), z.worth = f := by
    intro z hz
    unfold leavesP at hz
    obtain ⟨s, hs, rfl⟩ := List.mem_map.1 hz
    rw [List.mem_filter] at hs
    have hs1 : s < n := by simpa using hs.1
    show (List.replicate n f).getD s 0 = f
    rw [List.getD_eq_getElem?_getD, List.getElem?_replicate, if_pos hs1]
    rfl
  exact .inr ⟨by rw [hw x hx, hw y hy], hlt⟩
theorem leaves_equal (n f : Nat) (hf : 1 ≤ f) : leavesP (List.replicate n f) = (List.range n).map fun s => Coin.leaf f s := by
  unfold leavesP
  rw [List.length_replicate, List.filter_eq_self.2]
  · apply List.map_congr_left
    intro s hs
    rw [List.getD_eq_getElem?_getD, List.getElem?_replicate, if_pos (by simpa using hs)]
    rfl
  · intro s hs
    rw [List.getD_eq_getElem?_getD, List.getElem?_replicate, if_pos (by simpa using hs)]
    simp
    omega
/-- Symbols of one frequency have lengths that are one apart at most. -/
theorem equal_lens (n f K : Nat) (hn2 : 2 ≤ n) (hn : n ≤ 300) (hf : 1 ≤ f) (h1 : 2 ^ K ≤ n) (h2 : n < 2 ^ (K + 1)) (s : Nat) (hs : s < n) : lenP (List.replicate n f) s = K + if s < 2 * n - 2 ^ (K + 1) then 1 else 0 := by
  have hK : K ≤ 8 := by
    rcases Nat.lt_or_ge 8 K with q | q
    · have : 2 ^ 9 ≤ 2 ^ K := Nat.pow_le_pow_right (by omega) (by omega)
      omega
    · exact q
  have hsrt : srt (List.replicate n f) = (List.range n).map fun s => Coin.leaf f s := by
    rw [← leaves_equal n f hf]
    exact lexC_unique (srt_perm _) (srt_lex _) (lvs_syms_lex n f)
  have hl : (srt (List.replicate n f)).length = n := by rw [hsrt]; simp
  have hw : ∀ x ∈ srt (List.replicate n f), x.worth = f := by
    intro x hx
    rw [hsrt] at hx
    obtain ⟨t, _, rfl⟩ := List.mem_map.1 hx
    rfl
  have hc := equal_chain hw (Coin.cnt s) (fun _ _ => rfl) K (13 - K) (by rw [hl]; exact h1) (by rw [hl]; exact h2) K (Nat.le_refl _) (by
    intro j hj
    have hr := level_room (srt (List.replicate n f)) (j + (13 - K + 1))
    rw [hl] at hr ⊢
    have : (n + 2 ^ (j + (13 - K + 1)) - 1) / 2 ^ (j + (13 - K + 1)) ≤ 2 ^ (K - j + 1) := by
      refine room_le _ _ _ (Nat.two_pow_pos _) ?_
      rw [← Nat.pow_add]
      have : 2 ^ (K + 1) ≤ 2 ^ (K - j + 1 + (j + (13 - K + 1))) := Nat.pow_le_pow_right (by omega) (by omega)
      omega
    omega)
  unfold lenP
  rw [if_neg (by omega)]
  rw [hl] at hc ⊢
  rw [Nat.sub_self, Nat.zero_add, Nat.pow_one, show K + (13 - K + 1) = 14 from by omega] at hc
  rw [hc]
  have hget : (srt (List.replicate n f))[s]? = some (.leaf f s) := by rw [hsrt, List.getElem?_map, List.getElem?_range hs]; rfl
  have hleaf : ∀ x ∈ srt (List.replicate n f), ∃ v t, x = Coin.leaf v t := fun x hx => by obtain ⟨t, _, _, rfl⟩ := srt_mem hx; exact ⟨_, _, rfl⟩
  have h3 := cnt_take (srt (List.replicate n f)) s (2 * n - 2 ^ (K + 1)) f s hleaf (srt_nodup _) hget
  have h4 := cnt_take (srt (List.replicate n f)) s n f s hleaf (srt_nodup _) hget
  rw [List.take_of_length_le (by omega), if_pos hs] at h4
  rw [h3, h4, Nat.mul_one]
end Go.Proofs.Ytmjkacfhhnnlnaa

/-
  Lengths of codes, plain: from frequencies to lengths: bounds, Kraft, cost, order, the least cost.
-/
import Derived.Test.YtmjkacfhhnnlnaaPureLenB
set_option linter.unusedVariables false
set_option linter.unusedSimpArgs false
namespace Go.Proofs.Ytmjkacfhhnnlnaa
def Coin.sym : Coin → Nat
  | .leaf _ s => s
  | .pack _ _ => 0
def leavesP (F : List Nat) : List Coin := ((List.range F.length).filter fun s => decide (0 < F.getD s 0)).map fun s => Coin.leaf (F.getD s 0) s
/-- In order, equal ones by their symbols. -/
def lexC (x y : Coin) : Prop := x.worth < y.worth ∨ (x.worth = y.worth ∧ x.sym < y.sym)
def insC (x : Coin) : List Coin → List Coin
  | [] => [x]
  | y :: l => if x.worth < y.worth then x :: y :: l else y :: insC x l
def sortC (l : List Coin) : List Coin := l.foldl (fun acc x => insC x acc) []
theorem insC_perm (x : Coin) : ∀ l, (insC x l).Perm (x :: l)
  | [] => List.Perm.refl _
  | y :: l => by
    rw [insC]
    split
    · exact List.Perm.refl _
    · exact ((insC_perm x l).cons y).trans (List.Perm.swap x y l)
theorem insC_lex (x : Coin) : ∀ l, l.Pairwise lexC → (∀ y ∈ l, y.sym < x.sym) → (insC x l).Pairwise lexC
  | [], _, _ => List.pairwise_singleton _ _
  | y :: l, h, hs => by
    rw [insC]
    rw [List.pairwise_cons] at h
    split
    · rename_i hlt
      rw [List.pairwise_cons, List.pairwise_cons]
      refine ⟨fun z hz => ?_, h⟩
      rcases List.mem_cons.1 hz with rfl | hz
      · exact .inl hlt
      · rcases h.1 z hz with q | ⟨q, _⟩
        · exact .inl (by omega)
        · exact .inl (by omega)
    · rename_i hlt
      rw [List.pairwise_cons]
      refine ⟨fun z hz => ?_, insC_lex x l h.2 fun z hz => hs z (List.mem_cons_of_mem _ hz)⟩
      rcases List.mem_cons.1 ((insC_perm x l).subset hz) with rfl | hz
      · have := hs y (List.mem_cons_self ..)
        rcases Nat.lt_or_ge y.worth z.worth with q | q
        · exact .inl q
        · exact .inr ⟨by omega, this⟩
      · exact h.1 z hz
theorem foldl_ins : ∀ (l acc : List Coin), acc.Pairwise lexC → l.Pairwise (fun x y => x.sym < y.sym) → (∀ x ∈ acc, ∀ y ∈ l, x.sym < y.sym) → (l.foldl (fun acc x => insC x acc) acc).Perm (l ++ acc) ∧ (l.foldl (fun acc x => insC x acc) acc).Pairwise lexC
  | [], acc, h, _, _ => ⟨List.Perm.refl _, h⟩
  | x :: l, acc, h, h2, h3 => by
    rw [List.pairwise_cons] at h2
    obtain ⟨p, q⟩ := foldl_ins l (insC x acc) (insC_lex x acc h fun y hy => h3 y hy x (List.mem_cons_self ..)) h2.2 (by
      intro y hy z hz
      rcases List.mem_cons.1 ((insC_perm x acc).subset hy) with rfl | hy
      · exact h2.1 z hz
      · exact h3 y hy z (List.mem_cons_of_mem _ hz))
    refine ⟨p.trans ?_, q⟩
    refine (List.Perm.append_left l (insC_perm x acc)).trans ?_
    exact List.perm_middle
theorem leavesP_syms (F : List Nat) : (leavesP F).Pairwise fun x y => x.sym < y.sym := by
  unfold leavesP
  rw [List.pairwise_map]
  exact List.Pairwise.filter _ List.pairwise_lt_range
theorem sortC_spec (F : List Nat) : (sortC (leavesP F)).Perm (leavesP F) ∧ (sortC (leavesP F)).Pairwise lexC := by
  have := foldl_ins (leavesP F) [] List.Pairwise.nil (leavesP_syms F) (by simp)
  rw [List.append_nil] at this
  exact this
theorem lexC_unique {a b : List Coin} (h : a.Perm b) (ha : a.Pairwise lexC) (hb : b.Pairwise lexC) : a = b := by
  refine List.Perm.eq_of_pairwise (le := lexC) ?_ ha hb h
  intro x y _ _ h1 h2
  unfold lexC at h1 h2
  omega
/-- The leaves in order. -/
def srt (F : List Nat) : List Coin := sortC (leavesP F)
theorem srt_perm (F : List Nat) : (srt F).Perm (leavesP F) := (sortC_spec F).1
theorem srt_lex (F : List Nat) : (srt F).Pairwise lexC := (sortC_spec F).2
theorem srt_sorted (F : List Nat) : SortK Coin.worth (srt F) := (srt_lex F).imp fun h => by unfold lexC at h; omega
theorem srt_mem {F : List Nat} {x : Coin} (h : x ∈ srt F) : ∃ s, s < F.length ∧ 0 < F.getD s 0 ∧ x = .leaf (F.getD s 0) s := by
  have := (srt_perm F).subset h
  unfold leavesP at this
  rw [List.mem_map] at this
  obtain ⟨s, hs, rfl⟩ := this
  rw [List.mem_filter] at hs
  exact ⟨s, by simpa using hs.1, by simpa using hs.2, rfl⟩
theorem srt_has {F : List Nat} {s : Nat} (h : 0 < F.getD s 0) : ∃ i : Nat, (srt F)[i]? = some (Coin.leaf (F.getD s 0) s) := by
  apply List.mem_iff_getElem?.1
  refine (srt_perm F).symm.subset ?_
  unfold leavesP
  rw [List.mem_map]
  refine ⟨s, ?_, rfl⟩
  rw [List.mem_filter]
  refine ⟨?_, by simpa using h⟩
  rw [List.mem_range]
  rcases Nat.lt_or_ge s F.length with q | q
  · exact q
  · rw [List.getD_eq_getElem?_getD, List.getElem?_eq_none q] at h
    simp at h
theorem srt_nodup (F : List Nat) : ((srt F).map Coin.sym).Nodup := by
  refine (List.Perm.nodup_iff ((srt_perm F).map Coin.sym)).2 ?_
  have := leavesP_syms F
  rw [List.Nodup, List.pairwise_map]
  exact this.imp fun h => by omega
theorem srt_length_le (F : List Nat) : (srt F).length ≤ F.length := by
  rw [(srt_perm F).length_eq]
  unfold leavesP
  rw [List.length_map]
  exact Nat.le_trans (List.length_filter_le _ _) (by simp)
def lenP (F : List Nat) (s : Nat) : Nat :=
  if (srt F).length < 2 then (if 0 < F.getD s 0 then 1 else 0) else sumC (Coin.cnt s) ((levelC (srt F) 14).take (2 * (srt F).length - 2))
/-- A symbol's leaf among the first ones. -/
theorem cnt_take : ∀ (l : List Coin) (i c w s : Nat), (∀ x ∈ l, ∃ v t, x = .leaf v t) → (l.map Coin.sym).Nodup → l[i]? = some (.leaf w s) → sumC (Coin.cnt s) (l.take c) = if i < c then 1 else 0
  | [], i, c, w, s, _, _, h => by simp at h
  | x :: l, i, 0, w, s, _, _, _ => by simp [sumC]
  | x :: l, 0, c + 1, w, s, hl, hn, h => by
    simp at h
    subst h
    rw [List.map_cons, List.nodup_cons] at hn
    rw [List.take_succ_cons, if_pos (Nat.succ_pos _)]
    have h0 : sumC (Coin.cnt s) (l.take c) = 0 := by
      unfold sumC
      rw [List.sum_eq_zero_iff_forall_eq_nat]
      intro z hz
      obtain ⟨y, hy, rfl⟩ := List.mem_map.1 hz
      have hy' := List.mem_of_mem_take hy
      obtain ⟨v, t, rfl⟩ := hl y (List.mem_cons_of_mem _ hy')
      have : t ≠ s := by
        rintro rfl
        exact hn.1 (List.mem_map.2 ⟨_, hy', rfl⟩)
      simp [Coin.cnt, this]
    unfold sumC at *
    rw [List.map_cons, List.sum_cons, h0]
    simp [Coin.cnt]
  | x :: l, i + 1, c + 1, w, s, hl, hn, h => by
    rw [List.map_cons, List.nodup_cons] at hn
    have h' : l[i]? = some (.leaf w s) := by simpa using h
    have ih := cnt_take l i c w s (fun y hy => hl y (List.mem_cons_of_mem _ hy)) hn.2 h'
    obtain ⟨v, t, rfl⟩ := hl x (List.mem_cons_self ..)
    have : t ≠ s := by
      rintro rfl
      exact hn.1 (List.mem_map.2 ⟨_, List.mem_of_getElem? h', rfl⟩)
    rw [List.take_succ_cons]
    unfold sumC at *
    rw [List.map_cons, List.sum_cons, ih]
    simp [Coin.cnt, this]
theorem cnt_none (l : List Coin) (s c : Nat) (h : ∀ x ∈ l, ∃ v t, x = Coin.leaf v t ∧ t ≠ s) : sumC (Coin.cnt s) (l.take c) = 0 := by
  unfold sumC
  rw [List.sum_eq_zero_iff_forall_eq_nat]
  intro z hz
  obtain ⟨y, hy, rfl⟩ := List.mem_map.1 hz
  obtain ⟨v, t, rfl, ht⟩ := h y (List.mem_of_mem_take hy)
  simp [Coin.cnt, ht]
theorem sum_li (cs : List Nat) (i : Nat) : (cs.map fun c => if i < c then 1 else 0).sum = li cs i := by
  induction cs with
  | nil => rfl
  | cons c cs ih => rw [List.map_cons, List.sum_cons, ih, li_cons]; omega
/-- How long each symbol's code is. -/
theorem lenP_chain {F : List Nat} (h2 : 2 ≤ (srt F).length) (h3 : (srt F).length ≤ 300) : ∃ cs : List Nat, cs.length = 15 ∧ cs.head? = some (srt F).length ∧ (∀ c ∈ cs, c ≤ (srt F).length) ∧ cs.Pairwise (fun a b => b ≤ a) ∧ (2 * (srt F).length - 2) * 2 ^ 14 = wsum cs ∧
    sumC Coin.worth ((levelC (srt F) 14).take (2 * (srt F).length - 2)) = (cs.map fun c => worths (srt F) c).sum ∧ (∀ i s, (srt F)[i]? = some (.leaf (F.getD s 0) s) → lenP F s = li cs i) ∧ ∀ s, F.getD s 0 = 0 → lenP F s = 0 := by
  obtain ⟨cs, h4, h5, h6, h7, h8, h9⟩ := taken (srt_sorted F) h2 h3
  refine ⟨cs, h4, h5, h6, h7, h8, h9 Coin.worth (fun _ _ => rfl), ?_, ?_⟩
  · intro i s hi
    unfold lenP
    rw [if_neg (by omega), h9 (Coin.cnt s) (fun _ _ => rfl), ← sum_li]
    congr 1
    apply List.map_congr_left
    intro c _
    exact cnt_take (srt F) i c _ s (fun x hx => by obtain ⟨t, _, _, rfl⟩ := srt_mem hx; exact ⟨_, _, rfl⟩) (srt_nodup F) hi
  · intro s hs
    unfold lenP
    rw [if_neg (by omega), h9 (Coin.cnt s) (fun _ _ => rfl), List.sum_eq_zero_iff_forall_eq_nat]
    intro z hz
    obtain ⟨c, _, rfl⟩ := List.mem_map.1 hz
    refine cnt_none _ _ _ fun x hx => ?_
    obtain ⟨t, _, ht, rfl⟩ := srt_mem hx
    exact ⟨_, _, rfl, by rintro rfl; omega⟩
theorem lenP_zero {F : List Nat} (hF : F.length ≤ 300) {s : Nat} (h : F.getD s 0 = 0) : lenP F s = 0 := by
  rcases Nat.lt_or_ge (srt F).length 2 with q | q
  · unfold lenP; rw [if_pos q, if_neg (by omega)]
  · obtain ⟨cs, _, _, _, _, _, _, _, h9⟩ := lenP_chain q (Nat.le_trans (srt_length_le F) hF)
    exact h9 s h
theorem lenP_bounds {F : List Nat} (hF : F.length ≤ 300) {s : Nat} (h : 0 < F.getD s 0) : 1 ≤ lenP F s ∧ lenP F s ≤ 15 := by
  rcases Nat.lt_or_ge (srt F).length 2 with q | q
  · unfold lenP; rw [if_pos q, if_pos h]; omega
  · obtain ⟨cs, h4, h5, _, _, _, _, h8, _⟩ := lenP_chain q (Nat.le_trans (srt_length_le F) hF)
    obtain ⟨i, hi⟩ := srt_has h
    rw [h8 i s hi]
    have hl := (List.getElem?_eq_some_iff.1 hi).1
    refine ⟨?_, by rw [← h4]; exact li_le cs i⟩
    cases cs with
    | nil => simp at h4
    | cons c cs =>
      simp at h5
      rw [li_cons, if_pos (by omega)]
      omega
theorem lenP_order {F : List Nat} (hF : F.length ≤ 300) {i k : Nat} (h1 : F.getD k 0 < F.getD i 0) (h2 : 0 < F.getD k 0) : lenP F i ≤ lenP F k := by
  rcases Nat.lt_or_ge (srt F).length 2 with q | q
  · unfold lenP; rw [if_pos q, if_pos q, if_pos h2, if_pos (by omega)]; omega
  · obtain ⟨cs, _, _, _, _, _, _, h8, _⟩ := lenP_chain q (Nat.le_trans (srt_length_le F) hF)
    obtain ⟨a, ha⟩ := srt_has (show 0 < F.getD i 0 by omega)
    obtain ⟨b, hb⟩ := srt_has h2
    rw [h8 a i ha, h8 b k hb]
    apply li_anti
    rcases Nat.lt_or_ge a b with c | c
    · have := worth_get (srt_sorted F) ha hb (by omega)
      simp only [Coin.worth] at this
      omega
    · exact c
/-! Sums over the symbols -/
theorem sum_syms (F : List Nat) (g : Nat → Nat) (h : ∀ s, F.getD s 0 = 0 → g s = 0) : ((List.range F.length).map g).sum = ((srt F).map fun x => g x.sym).sum := by
  have e : ((srt F).map fun x => g x.sym).sum = ((leavesP F).map fun x => g x.sym).sum := ((srt_perm F).map _).sum_nat
  rw [e]
  unfold leavesP
  rw [List.map_map]
  have key : ∀ l : List Nat, (l.map g).sum = ((l.filter fun s => decide (0 < F.getD s 0)).map ((fun x : Coin => g x.sym) ∘ fun s => Coin.leaf (F.getD s 0) s)).sum := by
    intro l
    induction l with
    | nil => rfl
    | cons s l ih =>
      rw [List.map_cons, List.sum_cons, ih, List.filter_cons]
      by_cases q : 0 < F.getD s 0
      · rw [if_pos (by simpa using q)]
        rfl
      · rw [if_neg (by simpa using q), h s (by omega), Nat.zero_add]
  exact key _
theorem sum_index (l : List Coin) (h : Coin → Nat) (g : Nat → Nat) (hg : ∀ i x, l[i]? = some x → h x = g i) : (l.map h).sum = ((List.range l.length).map g).sum := by
  congr 1
  apply List.ext_getElem?
  intro i
  by_cases hi : i < l.length
  · have e : l[i]? = some (l[i]'hi) := List.getElem?_eq_getElem hi
    rw [List.getElem?_map, List.getElem?_map, e, List.getElem?_range hi]
    simp only [Option.map_some]
    rw [hg i _ e]
  · rw [List.getElem?_eq_none (by simpa using hi), List.getElem?_eq_none (by simpa using hi)]
def krP (L : Nat) : Nat := if 1 ≤ L ∧ L ≤ 15 then 2 ^ (15 - L) else 0
theorem kraft_lenP {F : List Nat} (hF : F.length ≤ 300) : ((List.range F.length).map fun s => krP (lenP F s)).sum = if (srt F).length = 0 then 0 else if (srt F).length = 1 then 2 ^ 14 else 2 ^ 15 := by
  rw [sum_syms F _ (fun s h => by rw [lenP_zero hF h]; rfl)]
  rcases Nat.lt_or_ge (srt F).length 2 with q | q
  · match hs : srt F, q with
    | [], _ => rfl
    | [x], _ =>
      obtain ⟨s, _, h2, rfl⟩ := srt_mem (F := F) (x := x) (by rw [hs]; exact List.mem_cons_self ..)
      have : lenP F s = 1 := by unfold lenP; rw [hs, if_pos (by simp), if_pos h2]
      simp [Coin.sym, this, krP]
  · obtain ⟨cs, h4, h5, h6, h7, h8, _, h10, _⟩ := lenP_chain q (Nat.le_trans (srt_length_le F) hF)
    rw [if_neg (by omega), if_neg (by omega), ← kraft_whole h4 h6 h7 q h8]
    apply sum_index
    intro i x hi
    obtain ⟨s, _, h2, rfl⟩ := srt_mem (List.mem_of_getElem? hi)
    obtain ⟨b1, b2⟩ := lenP_bounds hF h2
    show krP (lenP F s) = _
    unfold krP
    rw [if_pos ⟨b1, b2⟩, h10 i s hi]
/-- What all takes. -/
def costP (F : List Nat) (L : Nat → Nat) : Nat := ((List.range F.length).map fun s => F.getD s 0 * L s).sum
def leastP (F : List Nat) : Nat := if (srt F).length < 2 then sumC Coin.worth (srt F) else worths (levelC (srt F) 14) (2 * (srt F).length - 2)
theorem worths_index (l : List Coin) (c : Nat) (hc : c ≤ l.length) : worths l c = ((List.range l.length).map fun i => if i < c then (l.map Coin.worth).getD i 0 else 0).sum := by
  induction l generalizing c with
  | nil => simp [worths, sumC]
  | cons x l ih =>
    rw [List.length_cons, List.range_succ_eq_map, List.map_cons, List.sum_cons, List.map_map]
    cases c with
    | zero =>
      have e : (List.map ((fun i => if i < 0 then (x.worth :: l.map Coin.worth).getD i 0 else 0) ∘ Nat.succ) (List.range l.length)).sum = 0 := by
        rw [sum_map_congr _ _ (fun _ => 0) (fun i _ => by simp), sum_const, Nat.mul_zero]
      rw [List.map_cons, e]
      simp [worths, sumC]
    | succ c =>
      have := ih c (by simpa using hc)
      unfold worths sumC at *
      rw [List.take_succ_cons, List.map_cons, List.sum_cons, this]
      congr 1
      apply sum_map_congr
      intro i _
      simp
theorem cost_cs (l : List Coin) : ∀ cs : List Nat, (∀ c ∈ cs, c ≤ l.length) → ((List.range l.length).map fun i => (l.map Coin.worth).getD i 0 * li cs i).sum = (cs.map fun c => worths l c).sum
  | [], _ => by simp [li, sum_const]
  | c :: cs, h => by
    rw [List.map_cons, List.sum_cons, ← cost_cs l cs fun d hd => h d (List.mem_cons_of_mem _ hd), worths_index l c (h c (List.mem_cons_self ..)), ← sum_map_add]
    apply sum_map_congr
    intro i _
    rw [li_cons]
    split
    · rw [Nat.mul_add]; omega
    · rw [Nat.add_zero]; omega
theorem cost_lenP {F : List Nat} (hF : F.length ≤ 300) : costP F (lenP F) = leastP F := by
  unfold costP leastP
  rw [sum_syms F _ (fun s h => by rw [h, Nat.zero_mul])]
  rcases Nat.lt_or_ge (srt F).length 2 with q | q
  · rw [if_pos q]
    unfold sumC
    congr 1
    apply List.map_congr_left
    intro x hx
    obtain ⟨s, _, h2, rfl⟩ := srt_mem hx
    have : lenP F s = 1 := by unfold lenP; rw [if_pos q, if_pos h2]
    simp [Coin.sym, this, Coin.worth]
  · obtain ⟨cs, h4, h5, h6, h7, h8, h9, h10, _⟩ := lenP_chain q (Nat.le_trans (srt_length_le F) hF)
    rw [if_neg (by omega)]
    unfold worths
    rw [h9, ← cost_cs _ cs h6]
    apply sum_index
    intro i x hi
    obtain ⟨s, _, h2, rfl⟩ := srt_mem (List.mem_of_getElem? hi)
    show F.getD s 0 * lenP F s = _
    rw [h10 i s hi, List.getD_eq_getElem?_getD (l := (srt F).map Coin.worth), List.getElem?_map, hi]
    rfl
/-! No other lengths are cheaper -/
theorem worths_shift {x : Coin} {l : List Coin} (h : SortK Coin.worth (x :: l)) : ∀ c, c ≤ l.length → worths (x :: l) c ≤ worths l c := by
  intro c hc
  cases c with
  | zero => simp [worths, sumC]
  | succ c =>
    unfold SortK at h
    rw [List.pairwise_cons] at h
    have e1 : worths (x :: l) (c + 1) = x.worth + worths l c := by simp [worths, sumC]
    have hy : l[c]? = some (l[c]'hc) := List.getElem?_eq_getElem hc
    have e2 : worths l (c + 1) = worths l c + (l[c]'hc).worth := by
      unfold worths
      rw [List.take_add_one, hy, sumC_append]
      simp [sumC]
    have := h.1 _ (List.mem_of_getElem? hy)
    omega
theorem worths_subset (p : Coin → Bool) : ∀ l : List Coin, SortK Coin.worth l → worths l (l.countP p) ≤ sumC Coin.worth (l.filter p)
  | [], _ => by simp [worths, sumC]
  | x :: l, h => by
    have h' := h
    unfold SortK at h'
    rw [List.pairwise_cons] at h'
    have ih := worths_subset p l h'.2
    rw [List.countP_cons, List.filter_cons]
    cases q : p x with
    | true =>
      rw [if_pos rfl, if_pos rfl]
      have e1 : worths (x :: l) (l.countP p + 1) = x.worth + worths l (l.countP p) := by simp [worths, sumC]
      have e2 : sumC Coin.worth (x :: l.filter p) = x.worth + sumC Coin.worth (l.filter p) := by simp [sumC]
      omega
    | false =>
      simp only [Bool.false_eq_true, if_false, Nat.add_zero]
      exact Nat.le_trans (worths_shift h _ List.countP_le_length) ih
theorem sum_if (l : List Nat) (p : Nat → Bool) (w : Nat) : (l.map fun j => if p j then w else 0).sum = w * (l.filter p).length := by
  induction l with
  | nil => simp
  | cons x l ih =>
    rw [List.map_cons, List.sum_cons, ih, List.filter_cons]
    cases p x
    · simp
    · simp [Nat.mul_add]; omega
theorem fifteen : ∀ L, L ≤ 15 → ((List.range 15).filter fun j => decide (15 - j ≤ L)).length = L ∧ ((List.range 15).map fun j => if 15 - j ≤ L then 2 ^ j else 0).sum = 2 ^ 15 - 2 ^ (15 - L) := by decide
theorem sum_swap (Lx : Coin → Nat) : ∀ l : List Coin, (∀ x ∈ l, Lx x ≤ 15) →
    ((List.range 15).map fun j => sumC Coin.worth (l.filter fun x => decide (15 - j ≤ Lx x))).sum = sumC (fun x => x.worth * Lx x) l ∧
    ((List.range 15).map fun j => (l.countP fun x => decide (15 - j ≤ Lx x)) * 2 ^ j).sum = sumC (fun x => 2 ^ 15 - 2 ^ (15 - Lx x)) l
  | [], _ => by simp [sumC, sum_const]
  | x :: l, h => by
    obtain ⟨i1, i2⟩ := sum_swap Lx l fun y hy => h y (List.mem_cons_of_mem _ hy)
    obtain ⟨f1, f2⟩ := fifteen (Lx x) (h x (List.mem_cons_self ..))
    constructor
    · have e : sumC (fun x => x.worth * Lx x) (x :: l) = x.worth * Lx x + sumC (fun x => x.worth * Lx x) l := by simp [sumC]
      have e2 := sum_if (List.range 15) (fun j => decide (15 - j ≤ Lx x)) x.worth
      rw [f1] at e2
      rw [e, ← i1, ← e2, ← sum_map_add]
      apply sum_map_congr
      intro j _
      rw [List.filter_cons]
      by_cases q : 15 - j ≤ Lx x
      · simp [q, sumC]
      · simp [q]
    · have e : sumC (fun x => 2 ^ 15 - 2 ^ (15 - Lx x)) (x :: l) = (2 ^ 15 - 2 ^ (15 - Lx x)) + sumC (fun x => 2 ^ 15 - 2 ^ (15 - Lx x)) l := by simp [sumC]
      rw [e, ← i2, ← f2, ← sum_map_add]
      apply sum_map_congr
      intro j _
      rw [List.countP_cons]
      by_cases q : 15 - j ≤ Lx x
      · simp [q, Nat.add_mul]; omega
      · simp [q]
def msP (ds : Nat → Nat) : Nat → Nat
  | 0 => ds 0
  | k + 1 => ds (k + 1) + msP ds k / 2
theorem msP_eq (ds : Nat → Nat) : ∀ k, msP ds k = ((List.range (k + 1)).map fun j => ds j * 2 ^ j).sum / 2 ^ k
  | 0 => by simp [msP]
  | k + 1 => by
    rw [msP, msP_eq ds k, Nat.div_div_eq_div_mul, ← Nat.pow_succ, List.range_succ (n := k + 1), List.map_append, List.sum_append_nat]
    simp only [List.map_cons, List.map_nil, List.sum_cons, List.sum_nil, Nat.add_zero]
    rw [Nat.add_mul_div_right _ _ (Nat.two_pow_pos _)]
    simp only [Nat.succ_eq_add_one]
    omega
/-- The cost is the least of all lengths that may be. -/
theorem lenP_least {F : List Nat} (hF : F.length ≤ 300) (h2 : 2 ≤ (srt F).length) (L : Nat → Nat) (hL : ∀ s, 0 < F.getD s 0 → L s ≤ 15) (hK : ((List.range F.length).map fun s => if 0 < F.getD s 0 then 2 ^ (15 - L s) else 0).sum ≤ 2 ^ 15) : costP F (lenP F) ≤ costP F L := by
  rw [cost_lenP hF]
  unfold leastP
  rw [if_neg (by omega)]
  have hx : ∀ x ∈ srt F, L x.sym ≤ 15 := fun x hx => by obtain ⟨s, _, h, rfl⟩ := srt_mem hx; exact hL s h
  obtain ⟨s1, s2⟩ := sum_swap (fun x => L x.sym) (srt F) hx
  obtain ⟨ds, hds⟩ : ∃ ds : Nat → Nat, ∀ j, ds j = (srt F).countP fun x => decide (15 - j ≤ L x.sym) := ⟨_, fun _ => rfl⟩
  obtain ⟨_, hc⟩ := level_cheap (srt_sorted F) 14 ds (msP ds) (fun j _ => by rw [hds]; exact List.countP_le_length) rfl (fun j _ => rfl)
  have hm : 2 * (srt F).length - 2 ≤ msP ds 14 := by
    rw [msP_eq]
    rw [Nat.le_div_iff_mul_le (Nat.two_pow_pos _)]
    have e : ((List.range 15).map fun j => ds j * 2 ^ j).sum = sumC (fun x => 2 ^ 15 - 2 ^ (15 - L x.sym)) (srt F) := by
      rw [← s2]
      apply sum_map_congr
      intro j _
      rw [hds]
    rw [show 14 + 1 = 15 from rfl, e]
    have hK2 : sumC (fun x => 2 ^ (15 - L x.sym)) (srt F) ≤ 2 ^ 15 := by
      rw [sum_syms F _ (fun s h => by rw [if_neg (by omega)])] at hK
      unfold sumC
      rw [List.map_congr_left (g := fun x => if 0 < F.getD x.sym 0 then 2 ^ (15 - L x.sym) else 0)]
      · exact hK
      · intro x hx
        obtain ⟨s, _, h, rfl⟩ := srt_mem hx
        show _ = if 0 < F.getD s 0 then _ else _
        rw [if_pos h]
    have hsum : ∀ l : List Coin, sumC (fun x => 2 ^ 15 - 2 ^ (15 - L x.sym)) l + sumC (fun x => 2 ^ (15 - L x.sym)) l = l.length * 2 ^ 15 := by
      intro l
      induction l with
      | nil => simp [sumC]
      | cons x l ih =>
        have : 2 ^ (15 - L x.sym) ≤ 2 ^ 15 := Nat.pow_le_pow_right (by omega) (by omega)
        simp only [sumC, List.map_cons, List.sum_cons, List.length_cons, Nat.add_mul] at *
        omega
    have := hsum (srt F)
    omega
  have h3 : worths (levelC (srt F) 14) (2 * (srt F).length - 2) ≤ worths (levelC (srt F) 14) (msP ds 14) := by
    unfold worths
    rw [sumC_take_split Coin.worth _ hm]
    omega
  rw [show 14 + 1 = 15 from rfl] at hc
  refine Nat.le_trans h3 (Nat.le_trans hc ?_)
  have h4 : ((List.range 15).map fun j => worths (srt F) (ds j)).sum ≤ ((List.range 15).map fun j => sumC Coin.worth ((srt F).filter fun x => decide (15 - j ≤ L x.sym))).sum := by
    have : ∀ l : List Nat, (l.map fun j => worths (srt F) (ds j)).sum ≤ (l.map fun j => sumC Coin.worth ((srt F).filter fun x => decide (15 - j ≤ L x.sym))).sum := by
      intro l
      induction l with
      | nil => exact Nat.le_refl _
      | cons j l ih =>
        rw [List.map_cons, List.map_cons, List.sum_cons, List.sum_cons]
        have := worths_subset (fun x => decide (15 - j ≤ L x.sym)) (srt F) (srt_sorted F)
        rw [← hds] at this
        exact Nat.add_le_add this ih
    exact this _
  refine Nat.le_trans h4 ?_
  rw [s1]
  unfold costP
  rw [sum_syms F _ (fun s h => by rw [h, Nat.zero_mul])]
  unfold sumC
  refine Nat.le_of_eq (congrArg List.sum ?_)
  apply List.map_congr_left
  intro x hx
  obtain ⟨s, _, h, rfl⟩ := srt_mem hx
  rfl
end Go.Proofs.Ytmjkacfhhnnlnaa

/-
  Texts joined: PureLenC, Guard, Coin, CoinB, PureSort, SortC, PureSortB, SortBC, SortMC, PureSortT.
-/
import Derived.Test.YthgbkncanoknkaaSg2
import Derived.Test.YthgbkncanoknkaaSg1
import Derived.BigRegion
/-
  Lengths of codes, plain: from frequencies to lengths: bounds, Kraft, cost, order, the least cost.
-/
set_option linter.unusedVariables false
set_option linter.unusedSimpArgs false
namespace Go.Proofs.Ythgbkncanoknkaa
def Coin.sym : Coin → Nat
  | .leaf _ s => s
  | .pack _ _ => 0
def leavesP (F : List Nat) : List Coin := ((List.range F.length).filter fun s => decide (0 < F.getD s 0)).map fun s => Coin.leaf (F.getD s 0) s
/-- In order, equal ones by their symbols. -/
def lexC (x y : Coin) : Prop := x.worth < y.worth ∨ (x.worth = y.worth ∧ x.sym < y.sym)
def insC (x : Coin) : List Coin → List Coin
  | [] => [x]
  | y :: l => if x.worth < y.worth then x :: y :: l else y :: insC x l
def sortC (l : List Coin) : List Coin := l.foldl (fun acc x => insC x acc) []
theorem insC_perm (x : Coin) : ∀ l, (insC x l).Perm (x :: l)
  | [] => List.Perm.refl _
  | y :: l => by
    rw [insC]
    split
    · exact List.Perm.refl _
    · exact ((insC_perm x l).cons y).trans (List.Perm.swap x y l)
theorem insC_lex (x : Coin) : ∀ l, l.Pairwise lexC → (∀ y ∈ l, y.sym < x.sym) → (insC x l).Pairwise lexC
  | [], _, _ => List.pairwise_singleton _ _
  | y :: l, h, hs => by
    rw [insC]
    rw [List.pairwise_cons] at h
    split
    · rename_i hlt
      rw [List.pairwise_cons, List.pairwise_cons]
      refine ⟨fun z hz => ?_, h⟩
      rcases List.mem_cons.1 hz with rfl | hz
      · exact .inl hlt
      · rcases h.1 z hz with q | ⟨q, _⟩
        · exact .inl (by omega)
        · exact .inl (by omega)
    · rename_i hlt
      rw [List.pairwise_cons]
      refine ⟨fun z hz => ?_, insC_lex x l h.2 fun z hz => hs z (List.mem_cons_of_mem _ hz)⟩
      rcases List.mem_cons.1 ((insC_perm x l).subset hz) with rfl | hz
      · have := hs y (List.mem_cons_self ..)
        rcases Nat.lt_or_ge y.worth z.worth with q | q
        · exact .inl q
        · exact .inr ⟨by omega, this⟩
      · exact h.1 z hz
theorem foldl_ins : ∀ (l acc : List Coin), acc.Pairwise lexC → l.Pairwise (fun x y => x.sym < y.sym) → (∀ x ∈ acc, ∀ y ∈ l, x.sym < y.sym) → (l.foldl (fun acc x => insC x acc) acc).Perm (l ++ acc) ∧ (l.foldl (fun acc x => insC x acc) acc).Pairwise lexC
  | [], acc, h, _, _ => ⟨List.Perm.refl _, h⟩
  | x :: l, acc, h, h2, h3 => by
    rw [List.pairwise_cons] at h2
    obtain ⟨p, q⟩ := foldl_ins l (insC x acc) (insC_lex x acc h fun y hy => h3 y hy x (List.mem_cons_self ..)) h2.2 (by
      intro y hy z hz
      rcases List.mem_cons.1 ((insC_perm x acc).subset hy) with rfl | hy
      · exact h2.1 z hz
      · exact h3 y hy z (List.mem_cons_of_mem _ hz))
    refine ⟨p.trans ?_, q⟩
    refine (List.Perm.append_left l (insC_perm x acc)).trans ?_
    exact List.perm_middle
theorem leavesP_syms (F : List Nat) : (leavesP F).Pairwise fun x y => x.sym < y.sym := by
  unfold leavesP
  rw [List.pairwise_map]
  exact List.Pairwise.filter _ List.pairwise_lt_range
theorem sortC_spec (F : List Nat) : (sortC (leavesP F)).Perm (leavesP F) ∧ (sortC (leavesP F)).Pairwise lexC := by
  have := foldl_ins (leavesP F) [] List.Pairwise.nil (leavesP_syms F) (by simp)
  rw [List.append_nil] at this
  exact this
theorem lexC_unique {a b : List Coin} (h : a.Perm b) (ha : a.Pairwise lexC) (hb : b.Pairwise lexC) : a = b := by
  refine List.Perm.eq_of_pairwise (le := lexC) ?_ ha hb h
  intro x y _ _ h1 h2
  unfold lexC at h1 h2
  omega
/-- The leaves in order. -/
def srt (F : List Nat) : List Coin := sortC (leavesP F)
theorem srt_perm (F : List Nat) : (srt F).Perm (leavesP F) := (sortC_spec F).1
theorem srt_lex (F : List Nat) : (srt F).Pairwise lexC := (sortC_spec F).2
theorem srt_sorted (F : List Nat) : SortK Coin.worth (srt F) := (srt_lex F).imp fun h => by unfold lexC at h; omega
theorem srt_mem {F : List Nat} {x : Coin} (h : x ∈ srt F) : ∃ s, s < F.length ∧ 0 < F.getD s 0 ∧ x = .leaf (F.getD s 0) s := by
  have := (srt_perm F).subset h
  unfold leavesP at this
  rw [List.mem_map] at this
  obtain ⟨s, hs, rfl⟩ := this
  rw [List.mem_filter] at hs
  exact ⟨s, by simpa using hs.1, by simpa using hs.2, rfl⟩
theorem srt_has {F : List Nat} {s : Nat} (h : 0 < F.getD s 0) : ∃ i : Nat, (srt F)[i]? = some (Coin.leaf (F.getD s 0) s) := by
  apply List.mem_iff_getElem?.1
  refine (srt_perm F).symm.subset ?_
  unfold leavesP
  rw [List.mem_map]
  refine ⟨s, ?_, rfl⟩
  rw [List.mem_filter]
  refine ⟨?_, by simpa using h⟩
  rw [List.mem_range]
  rcases Nat.lt_or_ge s F.length with q | q
  · exact q
  · rw [List.getD_eq_getElem?_getD, List.getElem?_eq_none q] at h
    simp at h
theorem srt_nodup (F : List Nat) : ((srt F).map Coin.sym).Nodup := by
  refine (List.Perm.nodup_iff ((srt_perm F).map Coin.sym)).2 ?_
  have := leavesP_syms F
  rw [List.Nodup, List.pairwise_map]
  exact this.imp fun h => by omega
theorem srt_length_le (F : List Nat) : (srt F).length ≤ F.length := by
  rw [(srt_perm F).length_eq]
  unfold leavesP
  rw [List.length_map]
  exact Nat.le_trans (List.length_filter_le _ _) (by simp)
def lenP (F : List Nat) (s : Nat) : Nat :=
  if (srt F).length < 2 then (if 0 < F.getD s 0 then 1 else 0) else sumC (Coin.cnt s) ((levelC (srt F) 14).take (2 * (srt F).length - 2))
/-- A symbol's leaf among the first ones. -/
theorem cnt_take : ∀ (l : List Coin) (i c w s : Nat), (∀ x ∈ l, ∃ v t, x = .leaf v t) → (l.map Coin.sym).Nodup → l[i]? = some (.leaf w s) → sumC (Coin.cnt s) (l.take c) = if i < c then 1 else 0
  | [], i, c, w, s, _, _, h => by simp at h
  | x :: l, i, 0, w, s, _, _, _ => by simp [sumC]
  | x :: l, 0, c + 1, w, s, hl, hn, h => by
    simp at h
    subst h
    rw [List.map_cons, List.nodup_cons] at hn
    rw [List.take_succ_cons, if_pos (Nat.succ_pos _)]
    have h0 : sumC (Coin.cnt s) (l.take c) = 0 := by
      unfold sumC
      rw [List.sum_eq_zero_iff_forall_eq_nat]
      intro z hz
      obtain ⟨y, hy, rfl⟩ := List.mem_map.1 hz
      have hy' := List.mem_of_mem_take hy
      obtain ⟨v, t, rfl⟩ := hl y (List.mem_cons_of_mem _ hy')
      have : t ≠ s := by
        rintro rfl
        exact hn.1 (List.mem_map.2 ⟨_, hy', rfl⟩)
      simp [Coin.cnt, this]
    unfold sumC at *
    rw [List.map_cons, List.sum_cons, h0]
    simp [Coin.cnt]
  | x :: l, i + 1, c + 1, w, s, hl, hn, h => by
    rw [List.map_cons, List.nodup_cons] at hn
    have h' : l[i]? = some (.leaf w s) := by simpa using h
    have ih := cnt_take l i c w s (fun y hy => hl y (List.mem_cons_of_mem _ hy)) hn.2 h'
    obtain ⟨v, t, rfl⟩ := hl x (List.mem_cons_self ..)
    have : t ≠ s := by
      rintro rfl
      exact hn.1 (List.mem_map.2 ⟨_, List.mem_of_getElem? h', rfl⟩)
    rw [List.take_succ_cons]
    unfold sumC at *
    rw [List.map_cons, List.sum_cons, ih]
    simp [Coin.cnt, this]
theorem cnt_none (l : List Coin) (s c : Nat) (h : ∀ x ∈ l, ∃ v t, x = Coin.leaf v t ∧ t ≠ s) : sumC (Coin.cnt s) (l.take c) = 0 := by
  unfold sumC
  rw [List.sum_eq_zero_iff_forall_eq_nat]
  intro z hz
  obtain ⟨y, hy, rfl⟩ := List.mem_map.1 hz
  obtain ⟨v, t, rfl, ht⟩ := h y (List.mem_of_mem_take hy)
  simp [Coin.cnt, ht]
theorem sum_li (cs : List Nat) (i : Nat) : (cs.map fun c => if i < c then 1 else 0).sum = li cs i := by
  induction cs with
  | nil => rfl
  | cons c cs ih => rw [List.map_cons, List.sum_cons, ih, li_cons]; omega
/-- How long each symbol's code is. -/
theorem lenP_chain {F : List Nat} (h2 : 2 ≤ (srt F).length) (h3 : (srt F).length ≤ 300) : ∃ cs : List Nat, cs.length = 15 ∧ cs.head? = some (srt F).length ∧ (∀ c ∈ cs, c ≤ (srt F).length) ∧ cs.Pairwise (fun a b => b ≤ a) ∧ (2 * (srt F).length - 2) * 2 ^ 14 = wsum cs ∧
    sumC Coin.worth ((levelC (srt F) 14).take (2 * (srt F).length - 2)) = (cs.map fun c => worths (srt F) c).sum ∧ (∀ i s, (srt F)[i]? = some (.leaf (F.getD s 0) s) → lenP F s = li cs i) ∧ ∀ s, F.getD s 0 = 0 → lenP F s = 0 := by
  obtain ⟨cs, h4, h5, h6, h7, h8, h9⟩ := taken (srt_sorted F) h2 h3
  refine ⟨cs, h4, h5, h6, h7, h8, h9 Coin.worth (fun _ _ => rfl), ?_, ?_⟩
  · intro i s hi
    unfold lenP
    rw [if_neg (by omega), h9 (Coin.cnt s) (fun _ _ => rfl), ← sum_li]
    congr 1
    apply List.map_congr_left
    intro c _
    exact cnt_take (srt F) i c _ s (fun x hx => by obtain ⟨t, _, _, rfl⟩ := srt_mem hx; exact ⟨_, _, rfl⟩) (srt_nodup F) hi
  · intro s hs
    unfold lenP
    rw [if_neg (by omega), h9 (Coin.cnt s) (fun _ _ => rfl), List.sum_eq_zero_iff_forall_eq_nat]
    intro z hz
    obtain ⟨c, _, rfl⟩ := List.mem_map.1 hz
    refine cnt_none _ _ _ fun x hx => ?_
    obtain ⟨t, _, ht, rfl⟩ := srt_mem hx
    exact ⟨_, _, rfl, by rintro rfl; omega⟩
theorem lenP_zero {F : List Nat} (hF : F.length ≤ 300) {s : Nat} (h : F.getD s 0 = 0) : lenP F s = 0 := by
  rcases Nat.lt_or_ge (srt F).length 2 with q | q
  · unfold lenP; rw [if_pos q, if_neg (by omega)]
  · obtain ⟨cs, _, _, _, _, _, _, _, h9⟩ := lenP_chain q (Nat.le_trans (srt_length_le F) hF)
    exact h9 s h
theorem lenP_bounds {F : List Nat} (hF : F.length ≤ 300) {s : Nat} (h : 0 < F.getD s 0) : 1 ≤ lenP F s ∧ lenP F s ≤ 15 := by
  rcases Nat.lt_or_ge (srt F).length 2 with q | q
  · unfold lenP; rw [if_pos q, if_pos h]; omega
  · obtain ⟨cs, h4, h5, _, _, _, _, h8, _⟩ := lenP_chain q (Nat.le_trans (srt_length_le F) hF)
    obtain ⟨i, hi⟩ := srt_has h
    rw [h8 i s hi]
    have hl := (List.getElem?_eq_some_iff.1 hi).1
    refine ⟨?_, by rw [← h4]; exact li_le cs i⟩
    cases cs with
    | nil => simp at h4
    | cons c cs =>
      simp at h5
      rw [li_cons, if_pos (by omega)]
      omega
theorem lenP_order {F : List Nat} (hF : F.length ≤ 300) {i k : Nat} (h1 : F.getD k 0 < F.getD i 0) (h2 : 0 < F.getD k 0) : lenP F i ≤ lenP F k := by
  rcases Nat.lt_or_ge (srt F).length 2 with q | q
  · unfold lenP; rw [if_pos q, if_pos q, if_pos h2, if_pos (by omega)]; omega
  · obtain ⟨cs, _, _, _, _, _, _, h8, _⟩ := lenP_chain q (Nat.le_trans (srt_length_le F) hF)
    obtain ⟨a, ha⟩ := srt_has (show 0 < F.getD i 0 by omega)
    obtain ⟨b, hb⟩ := srt_has h2
    rw [h8 a i ha, h8 b k hb]
    apply li_anti
    rcases Nat.lt_or_ge a b with c | c
    · have := worth_get (srt_sorted F) ha hb (by omega)
      simp only [Coin.worth] at this
      omega
    · exact c
/-! Sums over the symbols -/
theorem sum_syms (F : List Nat) (g : Nat → Nat) (h : ∀ s, F.getD s 0 = 0 → g s = 0) : ((List.range F.length).map g).sum = ((srt F).map fun x => g x.sym).sum := by
  have e : ((srt F).map fun x => g x.sym).sum = ((leavesP F).map fun x => g x.sym).sum := ((srt_perm F).map _).sum_nat
  rw [e]
  unfold leavesP
  rw [List.map_map]
  have key : ∀ l : List Nat, (l.map g).sum = ((l.filter fun s => decide (0 < F.getD s 0)).map ((fun x : Coin => g x.sym) ∘ fun s => Coin.leaf (F.getD s 0) s)).sum := by
    intro l
    induction l with
    | nil => rfl
    | cons s l ih =>
      rw [List.map_cons, List.sum_cons, ih, List.filter_cons]
      by_cases q : 0 < F.getD s 0
      · rw [if_pos (by simpa using q)]
        rfl
      · rw [if_neg (by simpa using q), h s (by omega), Nat.zero_add]
  exact key _
theorem sum_index (l : List Coin) (h : Coin → Nat) (g : Nat → Nat) (hg : ∀ i x, l[i]? = some x → h x = g i) : (l.map h).sum = ((List.range l.length).map g).sum := by
  congr 1
  apply List.ext_getElem?
  intro i
  by_cases hi : i < l.length
  · have e : l[i]? = some (l[i]'hi) := List.getElem?_eq_getElem hi
    rw [List.getElem?_map, List.getElem?_map, e, List.getElem?_range hi]
    simp only [Option.map_some]
    rw [hg i _ e]
  · rw [List.getElem?_eq_none (by simpa using hi), List.getElem?_eq_none (by simpa using hi)]
def krP (L : Nat) : Nat := if 1 ≤ L ∧ L ≤ 15 then 2 ^ (15 - L) else 0
theorem kraft_lenP {F : List Nat} (hF : F.length ≤ 300) : ((List.range F.length).map fun s => krP (lenP F s)).sum = if (srt F).length = 0 then 0 else if (srt F).length = 1 then 2 ^ 14 else 2 ^ 15 := by
  rw [sum_syms F _ (fun s h => by rw [lenP_zero hF h]; rfl)]
  rcases Nat.lt_or_ge (srt F).length 2 with q | q
  · match hs : srt F, q with
    | [], _ => rfl
    | [x], _ =>
      obtain ⟨s, _, h2, rfl⟩ := srt_mem (F := F) (x := x) (by rw [hs]; exact List.mem_cons_self ..)
      have : lenP F s = 1 := by unfold lenP; rw [hs, if_pos (by simp), if_pos h2]
      simp [Coin.sym, this, krP]
  · obtain ⟨cs, h4, h5, h6, h7, h8, _, h10, _⟩ := lenP_chain q (Nat.le_trans (srt_length_le F) hF)
    rw [if_neg (by omega), if_neg (by omega), ← kraft_whole h4 h6 h7 q h8]
    apply sum_index
    intro i x hi
    obtain ⟨s, _, h2, rfl⟩ := srt_mem (List.mem_of_getElem? hi)
    obtain ⟨b1, b2⟩ := lenP_bounds hF h2
    show krP (lenP F s) = _
    unfold krP
    rw [if_pos ⟨b1, b2⟩, h10 i s hi]
/-- What all takes. -/
def costP (F : List Nat) (L : Nat → Nat) : Nat := ((List.range F.length).map fun s => F.getD s 0 * L s).sum
def leastP (F : List Nat) : Nat := if (srt F).length < 2 then sumC Coin.worth (srt F) else worths (levelC (srt F) 14) (2 * (srt F).length - 2)
theorem worths_index (l : List Coin) (c : Nat) (hc : c ≤ l.length) : worths l c = ((List.range l.length).map fun i => if i < c then (l.map Coin.worth).getD i 0 else 0).sum := by
  induction l generalizing c with
  | nil => simp [worths, sumC]
  | cons x l ih =>
    rw [List.length_cons, List.range_succ_eq_map, List.map_cons, List.sum_cons, List.map_map]
    cases c with
    | zero =>
      have e : (List.map ((fun i => if i < 0 then (x.worth :: l.map Coin.worth).getD i 0 else 0) ∘ Nat.succ) (List.range l.length)).sum = 0 := by
        rw [sum_map_congr _ _ (fun _ => 0) (fun i _ => by simp), sum_const, Nat.mul_zero]
      rw [List.map_cons, e]
      simp [worths, sumC]
    | succ c =>
      have := ih c (by simpa using hc)
      unfold worths sumC at *
      rw [List.take_succ_cons, List.map_cons, List.sum_cons, this]
      congr 1
      apply sum_map_congr
      intro i _
      simp
theorem cost_cs (l : List Coin) : ∀ cs : List Nat, (∀ c ∈ cs, c ≤ l.length) → ((List.range l.length).map fun i => (l.map Coin.worth).getD i 0 * li cs i).sum = (cs.map fun c => worths l c).sum
  | [], _ => by simp [li, sum_const]
  | c :: cs, h => by
    rw [List.map_cons, List.sum_cons, ← cost_cs l cs fun d hd => h d (List.mem_cons_of_mem _ hd), worths_index l c (h c (List.mem_cons_self ..)), ← sum_map_add]
    apply sum_map_congr
    intro i _
    rw [li_cons]
    split
    · rw [Nat.mul_add]; omega
    · rw [Nat.add_zero]; omega
theorem cost_lenP {F : List Nat} (hF : F.length ≤ 300) : costP F (lenP F) = leastP F := by
  unfold costP leastP
  rw [sum_syms F _ (fun s h => by rw [h, Nat.zero_mul])]
  rcases Nat.lt_or_ge (srt F).length 2 with q | q
  · rw [if_pos q]
    unfold sumC
    congr 1
    apply List.map_congr_left
    intro x hx
    obtain ⟨s, _, h2, rfl⟩ := srt_mem hx
    have : lenP F s = 1 := by unfold lenP; rw [if_pos q, if_pos h2]
    simp [Coin.sym, this, Coin.worth]
  · obtain ⟨cs, h4, h5, h6, h7, h8, h9, h10, _⟩ := lenP_chain q (Nat.le_trans (srt_length_le F) hF)
    rw [if_neg (by omega)]
    unfold worths
    rw [h9, ← cost_cs _ cs h6]
    apply sum_index
    intro i x hi
    obtain ⟨s, _, h2, rfl⟩ := srt_mem (List.mem_of_getElem? hi)
    show F.getD s 0 * lenP F s = _
    rw [h10 i s hi, List.getD_eq_getElem?_getD (l := (srt F).map Coin.worth), List.getElem?_map, hi]
    rfl
/-! No other lengths are cheaper -/
theorem worths_shift {x : Coin} {l : List Coin} (h : SortK Coin.worth (x :: l)) : ∀ c, c ≤ l.length → worths (x :: l) c ≤ worths l c := by
  intro c hc
  cases c with
  | zero => simp [worths, sumC]
  | succ c =>
    unfold SortK at h
    rw [List.pairwise_cons] at h
    have e1 : worths (x :: l) (c + 1) = x.worth + worths l c := by simp [worths, sumC]
    have hy : l[c]? = some (l[c]'hc) := List.getElem?_eq_getElem hc
    have e2 : worths l (c + 1) = worths l c + (l[c]'hc).worth := by
      unfold worths
      rw [List.take_add_one, hy, sumC_append]
      simp [sumC]
    have := h.1 _ (List.mem_of_getElem? hy)
    omega
theorem worths_subset (p : Coin → Bool) : ∀ l : List Coin, SortK Coin.worth l → worths l (l.countP p) ≤ sumC Coin.worth (l.filter p)
  | [], _ => by simp [worths, sumC]
  | x :: l, h => by
    have h' := h
    unfold SortK at h'
    rw [List.pairwise_cons] at h'
    have ih := worths_subset p l h'.2
    rw [List.countP_cons, List.filter_cons]
    cases q : p x with
    | true =>
      rw [if_pos rfl, if_pos rfl]
      have e1 : worths (x :: l) (l.countP p + 1) = x.worth + worths l (l.countP p) := by simp [worths, sumC]
      have e2 : sumC Coin.worth (x :: l.filter p) = x.worth + sumC Coin.worth (l.filter p) := by simp [sumC]
      omega
    | false =>
      simp only [Bool.false_eq_true, if_false, Nat.add_zero]
      exact Nat.le_trans (worths_shift h _ List.countP_le_length) ih
theorem sum_if (l : List Nat) (p : Nat → Bool) (w : Nat) : (l.map fun j => if p j then w else 0).sum = w * (l.filter p).length := by
  induction l with
  | nil => simp
  | cons x l ih =>
    rw [List.map_cons, List.sum_cons, ih, List.filter_cons]
    cases p x
    · simp
    · simp [Nat.mul_add]; omega
theorem fifteen : ∀ L, L ≤ 15 → ((List.range 15).filter fun j => decide (15 - j ≤ L)).length = L ∧ ((List.range 15).map fun j => if 15 - j ≤ L then 2 ^ j else 0).sum = 2 ^ 15 - 2 ^ (15 - L) := by decide
theorem sum_swap (Lx : Coin → Nat) : ∀ l : List Coin, (∀ x ∈ l, Lx x ≤ 15) →
    ((List.range 15).map fun j => sumC Coin.worth (l.filter fun x => decide (15 - j ≤ Lx x))).sum = sumC (fun x => x.worth * Lx x) l ∧
    ((List.range 15).map fun j => (l.countP fun x => decide (15 - j ≤ Lx x)) * 2 ^ j).sum = sumC (fun x => 2 ^ 15 - 2 ^ (15 - Lx x)) l
  | [], _ => by simp [sumC, sum_const]
  | x :: l, h => by
    obtain ⟨i1, i2⟩ := sum_swap Lx l fun y hy => h y (List.mem_cons_of_mem _ hy)
    obtain ⟨f1, f2⟩ := fifteen (Lx x) (h x (List.mem_cons_self ..))
    constructor
    · have e : sumC (fun x => x.worth * Lx x) (x :: l) = x.worth * Lx x + sumC (fun x => x.worth * Lx x) l := by simp [sumC]
      have e2 := sum_if (List.range 15) (fun j => decide (15 - j ≤ Lx x)) x.worth
      rw [f1] at e2
      rw [e, ← i1, ← e2, ← sum_map_add]
      apply sum_map_congr
      intro j _
      rw [List.filter_cons]
      by_cases q : 15 - j ≤ Lx x
      · simp [q, sumC]
      · simp [q]
    · have e : sumC (fun x => 2 ^ 15 - 2 ^ (15 - Lx x)) (x :: l) = (2 ^ 15 - 2 ^ (15 - Lx x)) + sumC (fun x => 2 ^ 15 - 2 ^ (15 - Lx x)) l := by simp [sumC]
      rw [e, ← i2, ← f2, ← sum_map_add]
      apply sum_map_congr
      intro j _
      rw [List.countP_cons]
      by_cases q : 15 - j ≤ Lx x
      · simp [q, Nat.add_mul]; omega
      · simp [q]
def msP (ds : Nat → Nat) : Nat → Nat
  | 0 => ds 0
  | k + 1 => ds (k + 1) + msP ds k / 2
theorem msP_eq (ds : Nat → Nat) : ∀ k, msP ds k = ((List.range (k + 1)).map fun j => ds j * 2 ^ j).sum / 2 ^ k
  | 0 => by simp [msP]
  | k + 1 => by
    rw [msP, msP_eq ds k, Nat.div_div_eq_div_mul, ← Nat.pow_succ, List.range_succ (n := k + 1), List.map_append, List.sum_append_nat]
    simp only [List.map_cons, List.map_nil, List.sum_cons, List.sum_nil, Nat.add_zero]
    rw [Nat.add_mul_div_right _ _ (Nat.two_pow_pos _)]
    simp only [Nat.succ_eq_add_one]
    omega
/-- The cost is the least of all lengths that may be. -/
theorem lenP_least {F : List Nat} (hF : F.length ≤ 300) (h2 : 2 ≤ (srt F).length) (L : Nat → Nat) (hL : ∀ s, 0 < F.getD s 0 → L s ≤ 15) (hK : ((List.range F.length).map fun s => if 0 < F.getD s 0 then 2 ^ (15 - L s) else 0).sum ≤ 2 ^ 15) : costP F (lenP F) ≤ costP F L := by
  rw [cost_lenP hF]
  unfold leastP
  rw [if_neg (by omega)]
  have hx : ∀ x ∈ srt F, L x.sym ≤ 15 := fun x hx => by obtain ⟨s, _, h, rfl⟩ := srt_mem hx; exact hL s h
  obtain ⟨s1, s2⟩ := sum_swap (fun x => L x.sym) (srt F) hx
  obtain ⟨ds, hds⟩ : ∃ ds : Nat → Nat, ∀ j, ds j = (srt F).countP fun x => decide (15 - j ≤ L x.sym) := ⟨_, fun _ => rfl⟩
  obtain ⟨_, hc⟩ := level_cheap (srt_sorted F) 14 ds (msP ds) (fun j _ => by rw [hds]; exact List.countP_le_length) rfl (fun j _ => rfl)
  have hm : 2 * (srt F).length - 2 ≤ msP ds 14 := by
    rw [msP_eq]
    rw [Nat.le_div_iff_mul_le (Nat.two_pow_pos _)]
    have e : ((List.range 15).map fun j => ds j * 2 ^ j).sum = sumC (fun x => 2 ^ 15 - 2 ^ (15 - L x.sym)) (srt F) := by
      rw [← s2]
      apply sum_map_congr
      intro j _
      rw [hds]
    rw [show 14 + 1 = 15 from rfl, e]
    have hK2 : sumC (fun x => 2 ^ (15 - L x.sym)) (srt F) ≤ 2 ^ 15 := by
      rw [sum_syms F _ (fun s h => by rw [if_neg (by omega)])] at hK
      unfold sumC
      rw [List.map_congr_left (g := fun x => if 0 < F.getD x.sym 0 then 2 ^ (15 - L x.sym) else 0)]
      · exact hK
      · intro x hx
        obtain ⟨s, _, h, rfl⟩ := srt_mem hx
        show _ = if 0 < F.getD s 0 then _ else _
        rw [if_pos h]
    have hsum : ∀ l : List Coin, sumC (fun x => 2 ^ 15 - 2 ^ (15 - L x.sym)) l + sumC (fun x => 2 ^ (15 - L x.sym)) l = l.length * 2 ^ 15 := by
      intro l
      induction l with
      | nil => simp [sumC]
      | cons x l ih =>
        have : 2 ^ (15 - L x.sym) ≤ 2 ^ 15 := Nat.pow_le_pow_right (by omega) (by omega)
        simp only [sumC, List.map_cons, List.sum_cons, List.length_cons, Nat.add_mul] at *
        omega
    have := hsum (srt F)
    omega
  have h3 : worths (levelC (srt F) 14) (2 * (srt F).length - 2) ≤ worths (levelC (srt F) 14) (msP ds 14) := by
    unfold worths
    rw [sumC_take_split Coin.worth _ hm]
    omega
  rw [show 14 + 1 = 15 from rfl] at hc
  refine Nat.le_trans h3 (Nat.le_trans hc ?_)
  have h4 : ((List.range 15).map fun j => worths (srt F) (ds j)).sum ≤ ((List.range 15).map fun j => sumC Coin.worth ((srt F).filter fun x => decide (15 - j ≤ L x.sym))).sum := by
    have : ∀ l : List Nat, (l.map fun j => worths (srt F) (ds j)).sum ≤ (l.map fun j => sumC Coin.worth ((srt F).filter fun x => decide (15 - j ≤ L x.sym))).sum := by
      intro l
      induction l with
      | nil => exact Nat.le_refl _
      | cons j l ih =>
        rw [List.map_cons, List.map_cons, List.sum_cons, List.sum_cons]
        have := worths_subset (fun x => decide (15 - j ≤ L x.sym)) (srt F) (srt_sorted F)
        rw [← hds] at this
        exact Nat.add_le_add this ih
    exact this _
  refine Nat.le_trans h4 ?_
  rw [s1]
  unfold costP
  rw [sum_syms F _ (fun s h => by rw [h, Nat.zero_mul])]
  unfold sumC
  refine Nat.le_of_eq (congrArg List.sum ?_)
  apply List.map_congr_left
  intro x hx
  obtain ⟨s, _, h, rfl⟩ := srt_mem hx
  rfl
end Go.Proofs.Ythgbkncanoknkaa
/-
  Guarded operations of a region that draws: wanted, passed over.
-/
set_option linter.unusedVariables false
set_option linter.unusedSimpArgs false
namespace Go.Proofs.Ythgbkncanoknkaa
open Go.RowKit
section
variable {P : Program} {ops : Array Oper} {w : World}
theorem wpStill_wantg {Q : Act → Prop} {a : Act} {o : Oper} {rest : List Oper} (j : Nat) (b : Bool) (hg : o.guard = some (j, b)) (hw : Region.wanted o (yielded ops a.tmps) = true) (hp : plainOp o.op = true)
    (h : ∀ K : Act → World → Prop, (∀ a', wpStill P ops w Q rest a' → K a' w) → o.wp P a w K (fun _ _ _ => False)) : wpStill P ops w Q (o :: rest) a :=
  wpStill_want hw hp h
/-- An operation that is passed over: the walk lays the empty value by a move. -/
theorem wpStill_skipg {Q : Act → Prop} {a : Act} {op : Op} {d : Option Tmp} {ty : TypeId} {pos : String} {aft : Array Edge} {g : Option (Nat × Bool)} {rest : List Oper} (j : Nat) (b : Bool) (hg : g = some (j, b))
    (hw : Region.wanted (Oper.mk d op ty pos aft g) (yielded ops a.tmps) = false)
    (h : ∀ K : Act → World → Prop, (∀ a', wpStill P ops w Q rest a' → K a' w) → (Oper.mk d (.move (.const undef)) ty pos #[] none).wp P a w K (fun _ _ _ => False)) : wpStill P ops w Q (Oper.mk d op ty pos aft g :: rest) a := by
  refine wpStill_skip hw ?_
  have h1 := h (fun a' w' => w' = w ∧ wpStill P ops w Q rest a') (fun a' h => ⟨rfl, h⟩)
  have h2 : (execOp a.eval (Oper.mk d (.move (.const undef)) ty pos #[] none)).run P w = .ok (.value undef) w := rfl
  unfold Oper.wp at h1
  rw [h2] at h1
  exact h1.2
end
end Go.Proofs.Ythgbkncanoknkaa
/-
  Coins in memory; lengths.merged, lengths.count.
-/
set_option linter.unusedVariables false
set_option linter.unusedSimpArgs false
namespace Go.Proofs.Ythgbkncanoknkaa
open Go.RowKit
set_option maxRecDepth 100000
theorem infoCoinP : (Try.prog.info? 106).map (fun i => (i.zero, i.size, i.bytes)) = some (some (.pointer none), 1, 8) := by kernel_rfl
/-- A pointer to a block. -/
def pp (p : Nat) : Value := .pointer (some ⟨p, 0, none⟩)
/-- A coin that lies in a heaplet. -/
inductive CoinAt (A : List (Nat × Obj)) : Nat → Coin → Prop where
  | leaf {p w s : Nat} : (p, Obj.cells #[.int .i64 (w : Int), .int .i64 (s : Int), .pointer none, .pointer none] 108 (0, 0)) ∈ A → CoinAt A p (.leaf w s)
  | pack {p q r : Nat} {a b : Coin} : (p, Obj.cells #[.int .i64 ((a.worth + b.worth : Nat) : Int), .int .i64 0, .pointer (some ⟨q, 0, none⟩), .pointer (some ⟨r, 0, none⟩)] 108 (0, 0)) ∈ A → CoinAt A q a → CoinAt A r b → CoinAt A p (.pack a b)
theorem CoinAt.mono {A A' : List (Nat × Obj)} {p : Nat} {c : Coin} (h : CoinAt A p c) (hA : A ⊆ A') : CoinAt A' p c := by
  induction h with
  | leaf h => exact .leaf (hA h)
  | pack h _ _ i1 i2 => exact .pack (hA h) i1 i2
section
variable {B : Nat} {w0 w : World} {L : List HL} {A : List (Nat × Obj)} {p : Nat} {c : Coin}
theorem CoinAt.worth (h : CoinAt A p c) (hS : St B w0 w L) (i : Nat) (hi : L[i]? = some A) : w.cell? ⟨p, 0, none⟩ = some (.int .i64 (c.worth : Int)) := by
  cases h with
  | leaf h => exact hS.cell i hi h 0
  | pack h _ _ => exact hS.cell i hi h 0
end
/-- The pointers of coins. -/
def pv (l : List (Nat × Coin)) : List Value := l.map fun x => .pointer (some ⟨x.1, 0, none⟩)
theorem pv_length (l : List (Nat × Coin)) : (pv l).length = l.length := by simp [pv]
theorem pv_get (l : List (Nat × Coin)) (i : Nat) (x : Nat × Coin) (h : l[i]? = some x) : (pv l)[i]? = some (.pointer (some ⟨x.1, 0, none⟩)) := by simp [pv, h]
theorem pv_append (a b : List (Nat × Coin)) : pv (a ++ b) = pv a ++ pv b := by simp [pv]
def keyP (x : Nat × Coin) : Nat := x.2.worth
/-- What each coin is worth can be read. -/
def Reads (w : World) (l : List (Nat × Coin)) : Prop := ∀ x ∈ l, w.cell? ⟨x.1, 0, none⟩ = some (.int .i64 (x.2.worth : Int)) ∧ x.2.worth ≤ 1000000000000000000
theorem Reads.keep {w w' : World} {l : List (Nat × Coin)} (h : Reads w l) (hb : Below w.heap.size w w') : Reads w' l := by
  intro x hx
  obtain ⟨h1, h2⟩ := h x hx
  exact ⟨by rw [hb.cell (World.block_lt_of_cell? w _ h1)]; exact h1, h2⟩
theorem Reads.tail {w : World} {x : Nat × Coin} {l : List (Nat × Coin)} (h : Reads w (x :: l)) : Reads w l := fun y hy => h y (List.mem_cons_of_mem _ hy)
/-- A slice that is read and of which the first one was taken. -/
theorem Rd.tail {w : World} {x : Nat × Coin} {l : List (Nat × Coin)} {ad : Addr} {cap : Nat} (h : Rd w 1 (.slice (some ad) (x :: l).length cap) (x :: l).length (pv (x :: l))) :
    (¬ cap = 1 → Rd w 1 (.slice (some (ad.add 1)) l.length (cap - 1)) l.length (pv l)) ∧ (cap = 1 → Rd w 1 (.slice (some ad) l.length (cap - 1)) l.length (pv l)) := by
  constructor
  · intro hc
    have := h.drop 1 (by simp) (ao' := some (ad.add 1)) (fun _ => by simp) (fun e => absurd e hc)
    simpa [pv] using this
  · intro hc
    have := h.drop 1 (by simp) (ao' := some ad) (fun e => absurd hc e) (fun _ => rfl)
    simpa [pv] using this
def MergeOut (l1 l2 : List (Nat × Coin)) (w : World) (e : Ending) (w' : World) : Prop :=
  ∃ (v : Value) (c : List (Nat × Obj)), e = .returned v ∧ RowC 106 1 v (mergeK keyP l1 l2).length (pv (mergeK keyP l1 l2)) c ∧ St w.heap.size w w' [c]
set_option maxHeartbeats 1500000 in
theorem merged_any (l1 l2 : List (Nat × Coin)) (v1 v2 : Value) (w : World) (h1 : Rd w 1 v1 l1.length (pv l1)) (h2 : Rd w 1 v2 l2.length (pv l2)) (r1 : Reads w l1) (r2 : Reads w l2) (hn : l1.length + l2.length ≤ 1000000) :
    Calls Try.prog 72 #[v1, v2] w (MergeOut l1 l2 w) := by
  obtain ⟨i0, i0a, i0b, i0c, i0d⟩ := info_parts infoCoinP
  obtain ⟨ao1, cap1, rfl⟩ := h1.shape
  obtain ⟨ao2, cap2, rfl⟩ := h2.shape
  have H1 := Lib.hid (And.intro h1 (And.intro h2 (And.intro r1 r2)))
  have hS0 := (St.init w).one_nil
  clear h1 h2 r1 r2
  go_enter Try.func72, Try.ntmps72
  go_wp2_with fail
  go_loopg [0, 1, 5] (l1.length + l2.length) (fun M s0 s1 s5 wr => ∃ (a b out : List (Nat × Coin)) (aoa aob : Option Addr) (ca cb : Nat) (c : List (Nat × Obj)), a.length + b.length = M ∧ out.length + M = l1.length + l2.length ∧ s0 = .slice aoa a.length ca ∧ s1 = .slice aob b.length cb ∧ RowC 106 1 s5 out.length (pv out) c ∧ St w.heap.size w wr [c] ∧
    Hid (out ++ mergeK keyP a b = mergeK keyP l1 l2) ∧ Hid (Rd w 1 (.slice aoa a.length ca) a.length (pv a) ∧ Rd w 1 (.slice aob b.length cb) b.length (pv b) ∧ Reads w a ∧ Reads w b))
  case atStart => exact ⟨l1, l2, [], ao1, ao2, cap1, cap2, [], rfl, by simp, rfl, rfl, RowC.nil _ _, hS0, Lib.hid rfl, H1⟩
  case round =>
    clear hS0
    obtain ⟨a, b, out, aoa, aob, ca, cb, c, hM, hol, rfl, rfl, hr, hS, HE, HR⟩ := hrel
    obtain ⟨ao5, cap5, rfl⟩ := hr.shape
    have hob : out.length ≤ 1000000 := by omega
    have hSd : ∀ x : Nat × Coin, St w.heap.size w (wr.drew.drew.alloc (.cells #[.pointer (some ⟨x.1, 0, none⟩)] 106)) [c] := fun x => hS.drew.drew.alloc' _
    cases a with
    | nil =>
      cases b with
      | nil =>
        simp only [List.length_nil] at *
        go_wp2_with fail
        go_ret
        have e := HE.out
        rw [mergeK_nil, List.append_nil] at e
        refine ⟨.slice ao5 out.length cap5, c, rfl, ?_, hS⟩
        rw [← e]
        exact hr
      | cons y b =>
        obtain ⟨adb, rfl, hcb⟩ := (HR.out.2.1.keep hS.below).at (pv_get (y :: b) 0 y rfl)
        have hcb' : wr.cell? adb = some (.pointer (some ⟨y.1, 0, none⟩)) := hcb
        have qb1 : ((b.length : Int) + 1 == 0) = false := by rw [beq_eq_false_iff_ne]; omega
        have qb2 : (0 : Int) < (b.length : Int) + 1 := by omega
        have hbc := Rd.cap HR.out.2.1
        simp only [List.length_cons] at hbc
        obtain ⟨hbc1, hbc2⟩ := hbc
        have hbc3 : (1 : Int) ≤ (cb : Int) := by omega
        have hbc4 : 1 ≤ cb := by omega
        have hbc5 : (1 : Int) ≤ (b.length : Int) + 1 := by omega
        have hbc6 : 1 ≤ b.length + 1 := by omega
        by_cases hca : cb = 1
        · subst hca
          obtain rfl : b = [] := List.eq_nil_of_length_eq_zero (by omega)
          have htl := (Rd.tail HR.out.2.1).2 rfl
          have HTL := Lib.hid htl
          clear htl
          go_wp2_with (first | ((with_reducible refine wpStill_plain ?_ ?_ (fun _ _ => ?_)); rfl; rfl) | (with_reducible refine wpStill_nil ?_) | ((with_reducible refine wpStill_wantg 3 false ?_ ?_ ?_ (fun _ _ => ?_)); rfl; kernel_rfl; rfl) | ((with_reducible refine wpStill_skipg 7 true ?_ ?_ (fun _ _ => ?_)); rfl; kernel_rfl) | ((with_reducible refine wp_draw_all (id := 3) mixed ?_ (fun _ _ => ?_)); kernel_rfl))
          go_region_law (refine step_app (n := out.length) (m := 1) (xs := pv out) (news := [.pointer (some ⟨y.1, 0, none⟩)]) 0 105 i0 (.pointer none) _ _ rfl rfl rfl rfl Try.underlying105 i0a i0b i0c i0d rfl (by decide) (hSd y) rfl hr (Rd.one _ _ _) (by simp [Value.oneCell']) (by unfold maxLen; omega) (by omega) (fun v1 c1 w2 hr1 hS2 => ?_))
          go_wp2_with fail
          cases gk with
          | zero => simp at hM
          | succ M =>
            go_roundg M
            case measure => omega
            case rel => exact ⟨[], [], out ++ [y], _, _, _, _, c1, by simp at hM ⊢; omega, by simp at hol hM ⊢; omega, rfl, rfl, by simpa [pv] using hr1, hS2, Lib.hid (by rw [List.append_assoc, ← HE.out, mergeK_nil, mergeK_nil]; rfl), Lib.hid ⟨HR.out.1, HTL.out, HR.out.2.2.1, HR.out.2.2.2.tail⟩⟩
        · have htl := (Rd.tail HR.out.2.1).1 hca
          have HTL := Lib.hid htl
          clear htl
          go_wp2_with (first | ((with_reducible refine wpStill_plain ?_ ?_ (fun _ _ => ?_)); rfl; rfl) | (with_reducible refine wpStill_nil ?_) | ((with_reducible refine wpStill_wantg 3 false ?_ ?_ ?_ (fun _ _ => ?_)); rfl; kernel_rfl; rfl) | ((with_reducible refine wpStill_skipg 7 true ?_ ?_ (fun _ _ => ?_)); rfl; kernel_rfl) | ((with_reducible refine wp_draw_all (id := 3) mixed ?_ (fun _ _ => ?_)); kernel_rfl))
          go_region_law (refine step_app (n := out.length) (m := 1) (xs := pv out) (news := [.pointer (some ⟨y.1, 0, none⟩)]) 0 105 i0 (.pointer none) _ _ rfl rfl rfl rfl Try.underlying105 i0a i0b i0c i0d rfl (by decide) (hSd y) rfl hr (Rd.one _ _ _) (by simp [Value.oneCell']) (by unfold maxLen; omega) (by omega) (fun v1 c1 w2 hr1 hS2 => ?_))
          go_wp2_with fail
          cases gk with
          | zero => simp at hM
          | succ M =>
            go_roundg M
            case measure => omega
            case rel => exact ⟨[], b, out ++ [y], _, _, _, _, c1, by simp at hM ⊢; omega, by simp at hol hM ⊢; omega, rfl, rfl, by simpa [pv] using hr1, hS2, Lib.hid (by rw [List.append_assoc, ← HE.out, mergeK_nil, mergeK_nil]; rfl), Lib.hid ⟨HR.out.1, HTL.out, HR.out.2.2.1, HR.out.2.2.2.tail⟩⟩
    | cons x a =>
      obtain ⟨ada, rfl, hca0⟩ := (HR.out.1.keep hS.below).at (pv_get (x :: a) 0 x rfl)
      have hca0' : wr.cell? ada = some (.pointer (some ⟨x.1, 0, none⟩)) := hca0
      have qa2 : (0 : Int) < (a.length : Int) + 1 := by omega
      cases b with
      | nil =>
        have hbc := Rd.cap HR.out.1
        simp only [List.length_cons] at hbc
        obtain ⟨hbc1, hbc2⟩ := hbc
        have hbc3 : (1 : Int) ≤ (ca : Int) := by omega
        have hbc4 : 1 ≤ ca := by omega
        have hbc5 : (1 : Int) ≤ (a.length : Int) + 1 := by omega
        have hbc6 : 1 ≤ a.length + 1 := by omega
        by_cases hca : ca = 1
        · subst hca
          obtain rfl : a = [] := List.eq_nil_of_length_eq_zero (by omega)
          have htl := (Rd.tail HR.out.1).2 rfl
          have HTL := Lib.hid htl
          clear htl
          go_wp2_with (first | ((with_reducible refine wpStill_plain ?_ ?_ (fun _ _ => ?_)); rfl; rfl) | (with_reducible refine wpStill_nil ?_) | ((with_reducible refine wpStill_skipg 3 false ?_ ?_ (fun _ _ => ?_)); rfl; kernel_rfl) | ((with_reducible refine wpStill_skipg 7 true ?_ ?_ (fun _ _ => ?_)); rfl; kernel_rfl) | ((with_reducible refine wp_draw_all (id := 3) mixed ?_ (fun _ _ => ?_)); kernel_rfl))
          go_region_law (refine step_app (n := out.length) (m := 1) (xs := pv out) (news := [.pointer (some ⟨x.1, 0, none⟩)]) 0 105 i0 (.pointer none) _ _ rfl rfl rfl rfl Try.underlying105 i0a i0b i0c i0d rfl (by decide) (hSd x) rfl hr (Rd.one _ _ _) (by simp [Value.oneCell']) (by unfold maxLen; omega) (by omega) (fun v1 c1 w2 hr1 hS2 => ?_))
          go_wp2_with fail
          cases gk with
          | zero => simp at hM
          | succ M =>
            go_roundg M
            case measure => omega
            case rel => exact ⟨[], [], out ++ [x], _, _, _, _, c1, by simp at hM ⊢; omega, by simp at hol hM ⊢; omega, rfl, rfl, by simpa [pv] using hr1, hS2, Lib.hid (by rw [List.append_assoc, ← HE.out, mergeK_nil2, mergeK_nil2]; rfl), Lib.hid ⟨HTL.out, HR.out.2.1, HR.out.2.2.1.tail, HR.out.2.2.2⟩⟩
        · have htl := (Rd.tail HR.out.1).1 hca
          have HTL := Lib.hid htl
          clear htl
          go_wp2_with (first | ((with_reducible refine wpStill_plain ?_ ?_ (fun _ _ => ?_)); rfl; rfl) | (with_reducible refine wpStill_nil ?_) | ((with_reducible refine wpStill_skipg 3 false ?_ ?_ (fun _ _ => ?_)); rfl; kernel_rfl) | ((with_reducible refine wpStill_skipg 7 true ?_ ?_ (fun _ _ => ?_)); rfl; kernel_rfl) | ((with_reducible refine wp_draw_all (id := 3) mixed ?_ (fun _ _ => ?_)); kernel_rfl))
          go_region_law (refine step_app (n := out.length) (m := 1) (xs := pv out) (news := [.pointer (some ⟨x.1, 0, none⟩)]) 0 105 i0 (.pointer none) _ _ rfl rfl rfl rfl Try.underlying105 i0a i0b i0c i0d rfl (by decide) (hSd x) rfl hr (Rd.one _ _ _) (by simp [Value.oneCell']) (by unfold maxLen; omega) (by omega) (fun v1 c1 w2 hr1 hS2 => ?_))
          go_wp2_with fail
          cases gk with
          | zero => simp at hM
          | succ M =>
            go_roundg M
            case measure => omega
            case rel => exact ⟨a, [], out ++ [x], _, _, _, _, c1, by simp at hM ⊢; omega, by simp at hol hM ⊢; omega, rfl, rfl, by simpa [pv] using hr1, hS2, Lib.hid (by rw [List.append_assoc, ← HE.out, mergeK_nil2, mergeK_nil2]; rfl), Lib.hid ⟨HTL.out, HR.out.2.1, HR.out.2.2.1.tail, HR.out.2.2.2⟩⟩
      | cons y b =>
        obtain ⟨adb, rfl, hcb⟩ := (HR.out.2.1.keep hS.below).at (pv_get (y :: b) 0 y rfl)
        have hcb' : wr.cell? adb = some (.pointer (some ⟨y.1, 0, none⟩)) := hcb
        have qb1 : ((b.length : Int) + 1 == 0) = false := by rw [beq_eq_false_iff_ne]; omega
        have qb2 : (0 : Int) < (b.length : Int) + 1 := by omega
        obtain ⟨hx1, hx2⟩ := (HR.out.2.2.1.keep hS.below) x (List.mem_cons_self ..)
        obtain ⟨hy1, hy2⟩ := (HR.out.2.2.2.keep hS.below) y (List.mem_cons_self ..)
        have hmc := mergeK_cons keyP x y a b
        by_cases hle : x.2.worth ≤ y.2.worth
        · rw [if_pos (show keyP x ≤ keyP y from hle)] at hmc
          have hlei : (x.2.worth : Int) ≤ (y.2.worth : Int) := by omega
          have HMC := Lib.hid hmc
          clear hmc
          have hbc := Rd.cap HR.out.1
          simp only [List.length_cons] at hbc
          obtain ⟨hbc1, hbc2⟩ := hbc
          have hbc3 : (1 : Int) ≤ (ca : Int) := by omega
          have hbc4 : 1 ≤ ca := by omega
          have hbc5 : (1 : Int) ≤ (a.length : Int) + 1 := by omega
          have hbc6 : 1 ≤ a.length + 1 := by omega
          by_cases hca : ca = 1
          · subst hca
            obtain rfl : a = [] := List.eq_nil_of_length_eq_zero (by omega)
            have htl := (Rd.tail HR.out.1).2 rfl
            have HTL := Lib.hid htl
            clear htl
            go_wp2_with (first | ((with_reducible refine wpStill_plain ?_ ?_ (fun _ _ => ?_)); rfl; rfl) | (with_reducible refine wpStill_nil ?_) | ((with_reducible refine wpStill_wantg 3 false ?_ ?_ ?_ (fun _ _ => ?_)); rfl; kernel_rfl; rfl) | ((with_reducible refine wpStill_wantg 7 true ?_ ?_ ?_ (fun _ _ => ?_)); rfl; kernel_rfl; rfl) | ((with_reducible refine wp_draw_all (id := 3) mixed ?_ (fun _ _ => ?_)); kernel_rfl))
            go_region_law (refine step_app (n := out.length) (m := 1) (xs := pv out) (news := [.pointer (some ⟨x.1, 0, none⟩)]) 0 105 i0 (.pointer none) _ _ rfl rfl rfl rfl Try.underlying105 i0a i0b i0c i0d rfl (by decide) (hSd x) rfl hr (Rd.one _ _ _) (by simp [Value.oneCell']) (by unfold maxLen; omega) (by omega) (fun v1 c1 w2 hr1 hS2 => ?_))
            go_wp2_with fail
            cases gk with
            | zero => simp at hM
            | succ M =>
              go_roundg M
              case measure => omega
              case rel => exact ⟨[], (y :: b), out ++ [x], _, _, _, _, c1, by simp at hM ⊢; omega, by simp at hol hM ⊢; omega, rfl, rfl, by simpa [pv] using hr1, hS2, Lib.hid (by rw [List.append_assoc, ← HE.out, HMC.out]; rfl), Lib.hid ⟨HTL.out, HR.out.2.1, HR.out.2.2.1.tail, HR.out.2.2.2⟩⟩
          · have htl := (Rd.tail HR.out.1).1 hca
            have HTL := Lib.hid htl
            clear htl
            go_wp2_with (first | ((with_reducible refine wpStill_plain ?_ ?_ (fun _ _ => ?_)); rfl; rfl) | (with_reducible refine wpStill_nil ?_) | ((with_reducible refine wpStill_wantg 3 false ?_ ?_ ?_ (fun _ _ => ?_)); rfl; kernel_rfl; rfl) | ((with_reducible refine wpStill_wantg 7 true ?_ ?_ ?_ (fun _ _ => ?_)); rfl; kernel_rfl; rfl) | ((with_reducible refine wp_draw_all (id := 3) mixed ?_ (fun _ _ => ?_)); kernel_rfl))
            go_region_law (refine step_app (n := out.length) (m := 1) (xs := pv out) (news := [.pointer (some ⟨x.1, 0, none⟩)]) 0 105 i0 (.pointer none) _ _ rfl rfl rfl rfl Try.underlying105 i0a i0b i0c i0d rfl (by decide) (hSd x) rfl hr (Rd.one _ _ _) (by simp [Value.oneCell']) (by unfold maxLen; omega) (by omega) (fun v1 c1 w2 hr1 hS2 => ?_))
            go_wp2_with fail
            cases gk with
            | zero => simp at hM
            | succ M =>
              go_roundg M
              case measure => omega
              case rel => exact ⟨a, (y :: b), out ++ [x], _, _, _, _, c1, by simp at hM ⊢; omega, by simp at hol hM ⊢; omega, rfl, rfl, by simpa [pv] using hr1, hS2, Lib.hid (by rw [List.append_assoc, ← HE.out, HMC.out]; rfl), Lib.hid ⟨HTL.out, HR.out.2.1, HR.out.2.2.1.tail, HR.out.2.2.2⟩⟩
        · rw [if_neg (show ¬ keyP x ≤ keyP y from hle)] at hmc
          have hlei : ¬ (x.2.worth : Int) ≤ (y.2.worth : Int) := by omega
          have HMC := Lib.hid hmc
          clear hmc
          have hbc := Rd.cap HR.out.2.1
          simp only [List.length_cons] at hbc
          obtain ⟨hbc1, hbc2⟩ := hbc
          have hbc3 : (1 : Int) ≤ (cb : Int) := by omega
          have hbc4 : 1 ≤ cb := by omega
          have hbc5 : (1 : Int) ≤ (b.length : Int) + 1 := by omega
          have hbc6 : 1 ≤ b.length + 1 := by omega
          by_cases hca : cb = 1
          · subst hca
            obtain rfl : b = [] := List.eq_nil_of_length_eq_zero (by omega)
            have htl := (Rd.tail HR.out.2.1).2 rfl
            have HTL := Lib.hid htl
            clear htl
            go_wp2_with (first | ((with_reducible refine wpStill_plain ?_ ?_ (fun _ _ => ?_)); rfl; rfl) | (with_reducible refine wpStill_nil ?_) | ((with_reducible refine wpStill_wantg 3 false ?_ ?_ ?_ (fun _ _ => ?_)); rfl; kernel_rfl; rfl) | ((with_reducible refine wpStill_wantg 7 true ?_ ?_ ?_ (fun _ _ => ?_)); rfl; kernel_rfl; rfl) | ((with_reducible refine wp_draw_all (id := 3) mixed ?_ (fun _ _ => ?_)); kernel_rfl))
            go_region_law (refine step_app (n := out.length) (m := 1) (xs := pv out) (news := [.pointer (some ⟨y.1, 0, none⟩)]) 0 105 i0 (.pointer none) _ _ rfl rfl rfl rfl Try.underlying105 i0a i0b i0c i0d rfl (by decide) (hSd y) rfl hr (Rd.one _ _ _) (by simp [Value.oneCell']) (by unfold maxLen; omega) (by omega) (fun v1 c1 w2 hr1 hS2 => ?_))
            go_wp2_with fail
            cases gk with
            | zero => simp at hM
            | succ M =>
              go_roundg M
              case measure => omega
              case rel => exact ⟨(x :: a), [], out ++ [y], _, _, _, _, c1, by simp at hM ⊢; omega, by simp at hol hM ⊢; omega, rfl, rfl, by simpa [pv] using hr1, hS2, Lib.hid (by rw [List.append_assoc, ← HE.out, HMC.out]; rfl), Lib.hid ⟨HR.out.1, HTL.out, HR.out.2.2.1, HR.out.2.2.2.tail⟩⟩
          · have htl := (Rd.tail HR.out.2.1).1 hca
            have HTL := Lib.hid htl
            clear htl
            go_wp2_with (first | ((with_reducible refine wpStill_plain ?_ ?_ (fun _ _ => ?_)); rfl; rfl) | (with_reducible refine wpStill_nil ?_) | ((with_reducible refine wpStill_wantg 3 false ?_ ?_ ?_ (fun _ _ => ?_)); rfl; kernel_rfl; rfl) | ((with_reducible refine wpStill_wantg 7 true ?_ ?_ ?_ (fun _ _ => ?_)); rfl; kernel_rfl; rfl) | ((with_reducible refine wp_draw_all (id := 3) mixed ?_ (fun _ _ => ?_)); kernel_rfl))
            go_region_law (refine step_app (n := out.length) (m := 1) (xs := pv out) (news := [.pointer (some ⟨y.1, 0, none⟩)]) 0 105 i0 (.pointer none) _ _ rfl rfl rfl rfl Try.underlying105 i0a i0b i0c i0d rfl (by decide) (hSd y) rfl hr (Rd.one _ _ _) (by simp [Value.oneCell']) (by unfold maxLen; omega) (by omega) (fun v1 c1 w2 hr1 hS2 => ?_))
            go_wp2_with fail
            cases gk with
            | zero => simp at hM
            | succ M =>
              go_roundg M
              case measure => omega
              case rel => exact ⟨(x :: a), b, out ++ [y], _, _, _, _, c1, by simp at hM ⊢; omega, by simp at hol hM ⊢; omega, rfl, rfl, by simpa [pv] using hr1, hS2, Lib.hid (by rw [List.append_assoc, ← HE.out, HMC.out]; rfl), Lib.hid ⟨HR.out.1, HTL.out, HR.out.2.2.1, HR.out.2.2.2.tail⟩⟩
end Go.Proofs.Ythgbkncanoknkaa
/-
  lengths.count.
-/
set_option linter.unusedVariables false
set_option linter.unusedSimpArgs false
namespace Go.Proofs.Ythgbkncanoknkaa
open Go.RowKit
set_option maxRecDepth 100000
def Coin.size : Coin → Nat
  | .leaf _ _ => 1
  | .pack a b => a.size + b.size
def Coin.symsLt (n : Nat) : Coin → Prop
  | .leaf _ s => s < n
  | .pack a b => a.symsLt n ∧ b.symsLt n
theorem Coin.cnt_le (s : Nat) : ∀ c : Coin, c.cnt s ≤ c.size
  | .leaf w t => by unfold Coin.cnt Coin.size; split <;> omega
  | .pack a b => by have := Coin.cnt_le s a; have := Coin.cnt_le s b; unfold Coin.cnt Coin.size; omega
def CountOut (n cap g : Nat) (f : Nat → Nat) (F : List (List (Nat × Obj))) (B : Nat) (w0 : World) (e : Ending) (w' : World) : Prop :=
  e = .returned (.tuple #[]) ∧ ∃ c', RowC 3 1 (.slice (some ⟨g, 0, none⟩) n cap) n (iv (mkI (fun s => (f s : Int)) n)) c' ∧ St B w0 w' (c' :: F)
set_option maxHeartbeats 2000000 in
theorem count_any {B : Nat} {w0 : World} {F : List (List (Nat × Obj))} {A : List (Nat × Obj)} {g cap n : Nat} (j : Nat) (hj : F[j]? = some A) (hn : n ≤ 1000000) : ∀ (cn : Coin) (p : Nat) (c : List (Nat × Obj)) (w : World) (f : Nat → Nat), CoinAt A p cn →
    RowC 3 1 (.slice (some ⟨g, 0, none⟩) n cap) n (iv (mkI (fun s => (f s : Int)) n)) c → St B w0 w (c :: F) → cn.symsLt n → (∀ s, f s + cn.size ≤ 1000000000) →
    Calls Try.prog 73 #[.pointer (some ⟨p, 0, none⟩), .slice (some ⟨g, 0, none⟩) n cap] w (CountOut n cap g (fun s => f s + cn.cnt s) F B w0)
  | .leaf wo s, p, c, w, f, hc, hr, hS, hb, hf => by
    cases hc with
    | leaf hm =>
    have hj1 : (c :: F)[j + 1]? = some A := by simpa using hj
    have hc2 := hS.cell (j + 1) hj1 hm 2
    have hc1 := hS.cell (j + 1) hj1 hm 1
    simp only [List.getElem?_toArray, List.getElem?_cons_succ, List.getElem?_cons_zero] at hc1 hc2
    have hsn : s < n := hb
    have hsi : (s : Int) < (n : Int) := by omega
    have hl := hr.cellAt hS 0 rfl (iv_get _ s _ (mkI_get _ _ s hsn))
    have hfr := hr.freeAt hS 0 rfl s
    have hfs := hf s
    simp only [Coin.size] at hfs
    have HF : Hid (CountOut n cap g (fun t => f t + (Coin.leaf wo s).cnt t) F B w0 (.returned (.tuple #[])) (w.setCell ⟨g, s, none⟩ (.int .i64 ((f s : Int) + 1)))) := Lib.hid (by
      obtain ⟨c', h1, h2⟩ := hr.store hS 0 rfl rfl s (.int .i64 ((f s : Int) + 1))
      refine ⟨rfl, c', ?_, h2⟩
      rw [iv_set, mkI_set] at h1
      rw [mkI_congr _ _ _ (fun i hi => ?_)]
      · exact h1
      · simp only [Coin.cnt]
        by_cases e : i = s
        · subst e; simp
        · have e2 : ¬ s = i := fun h => e h.symm
          rw [if_neg e, if_neg e2]; simp)
    clear hr hS hf hm hj1
    generalize f s = z at *
    go_enter Try.func73, Try.ntmps73
    go_wp2_with fail
    go_end0
    exact HF.out
  | .pack a b, p, c, w, f, hc, hr, hS, hb, hf => by
    cases hc with
    | @pack _ q r _ _ hm ha hb2 =>
    have hj1 : (c :: F)[j + 1]? = some A := by simpa using hj
    have hc2 := hS.cell (j + 1) hj1 hm 2
    simp only [List.getElem?_toArray, List.getElem?_cons_succ, List.getElem?_cons_zero] at hc2
    have HA := Lib.hid (count_any j hj hn a q c w f ha hr hS hb.1 (fun s => by have := hf s; simp only [Coin.size] at this; omega))
    have H0 := Lib.hid (And.intro hm (And.intro hb2 (And.intro hb.2 hf)))
    clear hr hS hf hm ha hb2 hb
    go_enter Try.func73, Try.ntmps73
    go_wp2_with fail
    refine HA.out.mono ?_
    rintro e w2 ⟨rfl, c2, hr2, hS2⟩
    have hc3 := hS2.cell (j + 1) (by simpa using hj) H0.out.1 3
    simp only [List.getElem?_toArray, List.getElem?_cons_succ, List.getElem?_cons_zero] at hc3
    have HB := Lib.hid (count_any j hj hn b r c2 w2 (fun s => f s + a.cnt s) H0.out.2.1 hr2 hS2 H0.out.2.2.1 (fun s => by have := H0.out.2.2.2 s; have := Coin.cnt_le s a; simp only [Coin.size] at *; omega))
    clear hr2 hS2 hc2
    go_wp2_with fail
    refine HB.out.mono ?_
    rintro e w3 ⟨rfl, c3, hr3, hS3⟩
    go_wp2_with fail
    go_end0
    refine ⟨rfl, c3, ?_, hS3⟩
    rw [mkI_congr _ _ _ (fun i hi => ?_)]
    · exact hr3
    · simp only [Coin.cnt]
      omega
end Go.Proofs.Ythgbkncanoknkaa
/-
  Stable sorting in place, plain: stretches of a row that are in order, rows that are each other's permutations, turning a stretch about a place, the search of a merge.
-/
set_option linter.unusedVariables false
set_option linter.unusedSimpArgs false
namespace Go.Proofs.Ythgbkncanoknkaa
def Srt (R : Nat → Nat → Prop) (a b : Nat) (f : Nat → Nat) : Prop := ∀ i j, a ≤ i → i < j → j < b → R (f i) (f j)
/-- Outside of a stretch the same, within it in another order. -/
def Pm (a b : Nat) (f g : Nat → Nat) : Prop := (∀ k, k < a ∨ b ≤ k → g k = f k) ∧ ((List.range' a (b - a)).map g).Perm ((List.range' a (b - a)).map f)
theorem Pm.refl (a b : Nat) (f : Nat → Nat) : Pm a b f f := ⟨fun _ _ => rfl, List.Perm.refl _⟩
theorem Pm.trans {a b : Nat} {f g h : Nat → Nat} (h1 : Pm a b f g) (h2 : Pm a b g h) : Pm a b f h := ⟨fun k hk => (h2.1 k hk).trans (h1.1 k hk), h2.2.trans h1.2⟩
theorem range_split {a m b : Nat} (h1 : a ≤ m) (h2 : m ≤ b) : List.range' a (b - a) = List.range' a (m - a) ++ List.range' m (b - m) := by
  have := List.range'_append_1 (s := a) (m := m - a) (n := b - m)
  rw [show a + (m - a) = m from by omega, show m - a + (b - m) = b - a from by omega] at this
  exact this.symm
theorem map_range_congr {a n : Nat} {f g : Nat → Nat} (h : ∀ k, a ≤ k → k < a + n → g k = f k) : (List.range' a n).map g = (List.range' a n).map f := by
  apply List.map_congr_left
  intro k hk
  rw [List.mem_range'_1] at hk
  exact h k hk.1 hk.2
theorem Pm.mono {a b a' b' : Nat} {f g : Nat → Nat} (h : Pm a b f g) (ha : a' ≤ a) (hab : a ≤ b) (hb : b ≤ b') : Pm a' b' f g := by
  refine ⟨fun k hk => h.1 k (by omega), ?_⟩
  rw [range_split (m := a) ha (by omega), range_split (m := b) hab hb]
  simp only [List.map_append]
  refine List.Perm.append ?_ (List.Perm.append h.2 ?_)
  · rw [map_range_congr (f := f) (g := g) fun k h1 h2 => h.1 k (by omega)]
  · rw [map_range_congr (f := f) (g := g) fun k h1 h2 => h.1 k (by omega)]
theorem Pm.mem {a b : Nat} {f g : Nat → Nat} (h : Pm a b f g) {i : Nat} (h1 : a ≤ i) (h2 : i < b) : ∃ j, a ≤ j ∧ j < b ∧ g i = f j := by
  have : g i ∈ (List.range' a (b - a)).map g := List.mem_map.2 ⟨i, List.mem_range'_1.2 ⟨h1, by omega⟩, rfl⟩
  obtain ⟨j, hj, e⟩ := List.mem_map.1 (h.2.subset this)
  rw [List.mem_range'_1] at hj
  exact ⟨j, hj.1, by omega, e.symm⟩
def swp (i j : Nat) (f : Nat → Nat) : Nat → Nat := fun k => if k = i then f j else if k = j then f i else f k
theorem swp_comm (i j : Nat) (f : Nat → Nat) : swp i j f = swp j i f := by
  funext k
  unfold swp
  by_cases c1 : k = i
  · by_cases c2 : k = j
    · rw [if_pos c1, if_pos c2, ← c1, ← c2]
    · rw [if_pos c1, if_neg c2, if_pos c1]
  · rw [if_neg c1, if_neg c1]
theorem Pm.swp {a b i j : Nat} (f : Nat → Nat) (h1 : a ≤ i) (h2 : i < j) (h3 : j < b) : Pm a b f (swp i j f) := by
  refine ⟨fun k hk => by unfold Go.Proofs.Ythgbkncanoknkaa.swp; rw [if_neg (by omega), if_neg (by omega)], ?_⟩
  have one : ∀ (x : Nat), List.range' x (x + 1 - x) = [x] := by intro x; rw [show x + 1 - x = 1 from by omega]; rfl
  rw [range_split (m := i) h1 (by omega), range_split (a := i) (m := i + 1) (by omega) (by omega), range_split (a := i + 1) (m := j) (by omega) (by omega), range_split (a := j) (m := j + 1) (by omega) (by omega), one i, one j]
  simp only [List.map_append, List.map_cons, List.map_nil]
  have e1 : (List.range' a (i - a)).map (Go.Proofs.Ythgbkncanoknkaa.swp i j f) = (List.range' a (i - a)).map f := map_range_congr fun k _ _ => by unfold Go.Proofs.Ythgbkncanoknkaa.swp; rw [if_neg (by omega), if_neg (by omega)]
  have e2 : (List.range' (i + 1) (j - (i + 1))).map (Go.Proofs.Ythgbkncanoknkaa.swp i j f) = (List.range' (i + 1) (j - (i + 1))).map f := map_range_congr fun k _ _ => by unfold Go.Proofs.Ythgbkncanoknkaa.swp; rw [if_neg (by omega), if_neg (by omega)]
  have e3 : (List.range' (j + 1) (b - (j + 1))).map (Go.Proofs.Ythgbkncanoknkaa.swp i j f) = (List.range' (j + 1) (b - (j + 1))).map f := map_range_congr fun k _ _ => by unfold Go.Proofs.Ythgbkncanoknkaa.swp; rw [if_neg (by omega), if_neg (by omega)]
  have e4 : Go.Proofs.Ythgbkncanoknkaa.swp i j f i = f j := by unfold Go.Proofs.Ythgbkncanoknkaa.swp; rw [if_pos rfl]
  have e5 : Go.Proofs.Ythgbkncanoknkaa.swp i j f j = f i := by unfold Go.Proofs.Ythgbkncanoknkaa.swp; rw [if_neg (by omega), if_pos rfl]
  rw [e1, e2, e3, e4, e5]
  apply List.Perm.append_left
  simp only [List.singleton_append]
  refine (List.perm_middle (l₁ := f j :: _) (a := f i)).trans ?_
  refine List.Perm.cons _ ?_
  exact (List.perm_middle (a := f j)).symm
/-- A stretch turned about a place. -/
def rot (a m b : Nat) (f : Nat → Nat) : Nat → Nat := fun k => if a ≤ k ∧ k < a + (b - m) then f (k + (m - a)) else if a + (b - m) ≤ k ∧ k < b then f (k - (b - m)) else f k
theorem Pm.rot {a m b : Nat} (f : Nat → Nat) (h1 : a ≤ m) (h2 : m ≤ b) : Pm a b f (rot a m b f) := by
  refine ⟨fun k hk => by unfold Go.Proofs.Ythgbkncanoknkaa.rot; rw [if_neg (by omega), if_neg (by omega)], ?_⟩
  have e1 : (List.range' a (a + (b - m) - a)).map (Go.Proofs.Ythgbkncanoknkaa.rot a m b f) = (List.range' m (b - m)).map f := by
    rw [show a + (b - m) - a = b - m from by omega]
    apply List.ext_getElem?
    intro k
    by_cases hk : k < b - m
    · rw [List.getElem?_map, List.getElem?_map, List.getElem?_range' hk, List.getElem?_range' hk]
      simp only [Option.map_some, Nat.one_mul]
      unfold Go.Proofs.Ythgbkncanoknkaa.rot
      rw [if_pos (by omega), show a + k + (m - a) = m + k from by omega]
    · rw [List.getElem?_eq_none (by simpa using hk), List.getElem?_eq_none (by simpa using hk)]
  have e2 : (List.range' (a + (b - m)) (b - (a + (b - m)))).map (Go.Proofs.Ythgbkncanoknkaa.rot a m b f) = (List.range' a (m - a)).map f := by
    rw [show b - (a + (b - m)) = m - a from by omega]
    apply List.ext_getElem?
    intro k
    by_cases hk : k < m - a
    · rw [List.getElem?_map, List.getElem?_map, List.getElem?_range' hk, List.getElem?_range' hk]
      simp only [Option.map_some, Nat.one_mul]
      unfold Go.Proofs.Ythgbkncanoknkaa.rot
      rw [if_neg (by omega), if_pos (by omega), show a + (b - m) + k - (b - m) = a + k from by omega]
    · rw [List.getElem?_eq_none (by simpa using hk), List.getElem?_eq_none (by simpa using hk)]
  have e3 : (List.range' a (b - a)).map (Go.Proofs.Ythgbkncanoknkaa.rot a m b f) = (List.range' m (b - m)).map f ++ (List.range' a (m - a)).map f := by
    rw [range_split (a := a) (m := a + (b - m)) (b := b) (by omega) (by omega), List.map_append, e1, e2]
  rw [e3, range_split (a := a) (m := m) (b := b) h1 h2, List.map_append]
  exact List.perm_append_comm
/-- Two stretches of one length exchanged, the first n of them. -/
def swr (a b n : Nat) (f : Nat → Nat) : Nat → Nat := fun k => if a ≤ k ∧ k < a + n then f (k - a + b) else if b ≤ k ∧ k < b + n then f (k - b + a) else f k
theorem swr_zero (a b : Nat) (f : Nat → Nat) : swr a b 0 f = f := by
  funext k
  unfold swr
  rw [if_neg (by omega), if_neg (by omega)]
theorem swr_step (a b n : Nat) (f : Nat → Nat) (h : a + n < b) : swp (a + n) (b + n) (swr a b n f) = swr a b (n + 1) f := by
  funext k
  unfold swp swr
  by_cases c1 : k = a + n
  · subst c1
    rw [if_pos rfl, if_neg (by omega), if_neg (by omega), if_pos (by omega)]
    congr 1 <;> omega
  · rw [if_neg c1]
    by_cases c2 : k = b + n
    · subst c2
      rw [if_pos rfl, if_neg (by omega), if_neg (by omega), if_neg (by omega), if_pos (by omega)]
      congr 1 <;> omega
    · rw [if_neg c2]
      by_cases c3 : a ≤ k ∧ k < a + n
      · rw [if_pos c3, if_pos (by omega)]
      · rw [if_neg c3]
        by_cases c4 : b ≤ k ∧ k < b + n
        · rw [if_pos c4, if_neg (by omega), if_pos (by omega)]
        · rw [if_neg c4, if_neg (by omega), if_neg (by omega)]
/-- The steps of the turning. -/
theorem rot_left (m i j : Nat) (f : Nat → Nat) (hi : i ≤ m) (h : j < i) : rot (m - (i - j)) m (m + j) (swr (m - i) m j f) = rot (m - i) m (m + j) f := by
  funext k
  unfold rot swr
  by_cases c1 : k < m - i
  · rw [if_neg (by omega), if_neg (by omega), if_neg (by omega), if_neg (by omega), if_neg (by omega), if_neg (by omega)]
  · by_cases c2 : m + j ≤ k
    · rw [if_neg (by omega), if_neg (by omega), if_neg (by omega), if_neg (by omega), if_neg (by omega), if_neg (by omega)]
    · by_cases c3 : k < m - i + j
      · rw [if_neg (by omega), if_neg (by omega), if_pos (by omega), if_pos (by omega)]
        congr 1 <;> omega
      · by_cases c4 : k < m - (i - j) + j
        · rw [if_pos (by omega), if_neg (by omega), if_pos (by omega), if_neg (by omega), if_pos (by omega)]
          congr 1 <;> omega
        · rw [if_neg (by omega), if_pos (by omega), if_neg (by omega), if_neg (by omega), if_neg (by omega), if_pos (by omega)]
theorem rot_right (m i j : Nat) (f : Nat → Nat) (hi : i ≤ m) (h : i < j) : rot (m - i) m (m + (j - i)) (swr (m - i) (m + j - i) i f) = rot (m - i) m (m + j) f := by
  funext k
  unfold rot swr
  by_cases c1 : k < m - i
  · rw [if_neg (by omega), if_neg (by omega), if_neg (by omega), if_neg (by omega), if_neg (by omega), if_neg (by omega)]
  · by_cases c2 : m + j ≤ k
    · rw [if_neg (by omega), if_neg (by omega), if_neg (by omega), if_neg (by omega), if_neg (by omega), if_neg (by omega)]
    · by_cases c3 : m + (j - i) ≤ k
      · rw [if_neg (by omega), if_neg (by omega), if_neg (by omega), if_pos (by omega), if_neg (by omega), if_pos (by omega)]
        congr 1 <;> omega
      · by_cases c4 : k < m - i + (j - i)
        · rw [if_pos (by omega), if_neg (by omega), if_neg (by omega), if_pos (by omega)]
          try (congr 1 <;> omega)
        · have c6 : m - i ≤ k - (m + (j - i) - m) ∧ k - (m + (j - i) - m) < m - i + i := by omega
          rw [if_neg (by omega), if_pos (by omega), if_pos c6, if_pos (by omega)]
          try (congr 1 <;> omega)
theorem rot_end (m i : Nat) (f : Nat → Nat) (hi : i ≤ m) : swr (m - i) m i f = rot (m - i) m (m + i) f := by
  funext k
  unfold rot swr
  by_cases c1 : m - i ≤ k ∧ k < m - i + i
  · rw [if_pos c1, if_pos (by omega)]
    congr 1 <;> omega
  · by_cases c2 : m ≤ k ∧ k < m + i
    · rw [if_neg c1, if_pos c2, if_neg (by omega), if_pos (by omega)]
      congr 1 <;> omega
    · rw [if_neg c1, if_neg c2, if_neg (by omega), if_neg (by omega)]
end Go.Proofs.Ythgbkncanoknkaa
/-
  The library's stable sort, the functions that turn stretches: swapRange, rotate.
-/
set_option linter.unusedVariables false
set_option linter.unusedSimpArgs false
namespace Go.Proofs.Ythgbkncanoknkaa
open Go.RowKit
set_option maxRecDepth 100000
def rwC (f : Nat → Nat) (n : Nat) : List Value := (List.range n).map fun k => (Value.pointer (some ⟨f k, 0, none⟩))
theorem rwC_length (f : Nat → Nat) (n : Nat) : (rwC f n).length = n := by simp [rwC]
theorem rwC_get (f : Nat → Nat) (n i : Nat) (h : i < n) : (rwC f n)[i]? = some (Value.pointer (some ⟨f i, 0, none⟩)) := by simp [rwC, h]
theorem rwC_set (f : Nat → Nat) (n i v : Nat) : (rwC f n).set i (Value.pointer (some ⟨v, 0, none⟩)) = rwC (fun j => if j = i then v else f j) n := by
  apply List.ext_getElem?
  intro j
  rw [List.getElem?_set, rwC_length]
  by_cases hj : j < n
  · rw [rwC_get _ _ _ hj, rwC_get _ _ _ hj]
    by_cases e : i = j
    · subst e; simp [hj]
    · have e' : ¬ j = i := fun x => e x.symm
      simp [e, e']
  · rw [List.getElem?_eq_none (by rw [rwC_length]; omega), List.getElem?_eq_none (by rw [rwC_length]; omega)]
    by_cases e : i = j
    · subst e; simp [hj]
    · simp [e]
/-- A row under way: whose places hold these elements. -/
def RowSC (g cap n : Nat) (f : Nat → Nat) (c : List (Nat × Obj)) : Prop := RowC 106 1 (.slice (some ⟨g, 0, none⟩) n cap) n (rwC f n) c
section
variable {B : Nat} {w0 w : World} {F : List HL} {c : List (Nat × Obj)} {g cap n : Nat} {f : Nat → Nat}
theorem RowSC.cell (h : RowSC g cap n f c) (hS : St B w0 w (c :: F)) {i : Nat} (hi : i < n) : w.cell? ⟨g, i, none⟩ = some (Value.pointer (some ⟨f i, 0, none⟩)) := RowC.cellAt h hS 0 rfl (rwC_get f n i hi)
theorem RowSC.free (h : RowSC g cap n f c) (hS : St B w0 w (c :: F)) (i : Nat) : w.frozen? ⟨g, i, none⟩ = false := RowC.freeAt h hS 0 rfl i
theorem RowSC.caps (h : RowSC g cap n f c) : n ≤ cap ∧ cap ≤ 9223372036854775807 := RowC.cap h
theorem RowSC.store (h : RowSC g cap n f c) (hS : St B w0 w (c :: F)) (i v : Nat) : ∃ c', RowSC g cap n (fun j => if j = i then v else f j) c' ∧ St B w0 (w.setCell ⟨g, i, none⟩ (Value.pointer (some ⟨v, 0, none⟩))) (c' :: F) := by
  obtain ⟨c', h1, h2⟩ := RowC.store h hS 0 rfl rfl i (Value.pointer (some ⟨v, 0, none⟩))
  rw [rwC_set] at h1
  exact ⟨c', h1, h2⟩
/-- Two places exchanged. -/
theorem RowSC.swp (h : RowSC g cap n f c) (hS : St B w0 w (c :: F)) {i j : Nat} (hij : i ≠ j) (hi : i < n) (hj : j < n) :
    (w.setCell ⟨g, i, none⟩ (Value.pointer (some ⟨f j, 0, none⟩))).cell? ⟨g, j, none⟩ = some (Value.pointer (some ⟨f j, 0, none⟩)) ∧ (w.setCell ⟨g, i, none⟩ (Value.pointer (some ⟨f j, 0, none⟩))).frozen? ⟨g, j, none⟩ = false ∧
    ∃ c', RowSC g cap n (swp i j f) c' ∧ St B w0 ((w.setCell ⟨g, i, none⟩ (Value.pointer (some ⟨f j, 0, none⟩))).setCell ⟨g, j, none⟩ (Value.pointer (some ⟨f i, 0, none⟩))) (c' :: F) := by
  obtain ⟨c1, h1, hS1⟩ := h.store hS i (f j)
  obtain ⟨c2, h2, hS2⟩ := h1.store hS1 j (f i)
  have e : (fun k => if k = j then f i else if k = i then f j else f k) = Go.Proofs.Ythgbkncanoknkaa.swp i j f := by
    funext k
    unfold Go.Proofs.Ythgbkncanoknkaa.swp
    by_cases c1 : k = i
    · rw [if_pos c1, if_pos c1, if_neg (by omega)]
    · rw [if_neg c1, if_neg c1]
  rw [e] at h2
  refine ⟨?_, h1.free hS1 j, c2, h2, hS2⟩
  have := h1.cell hS1 hj
  simpa [Ne.symm hij] using this
def SOutC (g cap n : Nat) (f : Nat → Nat) (F : List (List (Nat × Obj))) (B : Nat) (w0 : World) (e : Ending) (w' : World) : Prop :=
  e = .returned (.tuple #[]) ∧ ∃ c', RowSC g cap n f c' ∧ St B w0 w' (c' :: F)
set_option maxHeartbeats 2000000 in
theorem swapC_any (a b k : Nat) (vf : Value) (h : RowSC g cap n f c) (hS : St B w0 w (c :: F)) (h1 : a + k ≤ b) (h2 : b + k ≤ n) (hn : n ≤ 1000000) :
    Calls Try.prog 100 #[.slice (some ⟨g, 0, none⟩) n cap, .int .i64 (a : Int), .int .i64 (b : Int), .int .i64 (k : Int), vf] w (SOutC g cap n (swr a b k f) F B w0) := by
  have hnl : (n : Int) ≤ 1000000 := by omega
  obtain ⟨hc1, hc2⟩ := h.caps
  have H0 := Lib.hid (And.intro h hS)
  clear h hS
  go_enter Try.func100, Try.ntmps100
  go_wp2_with fail
  go_loopg [10] k (fun m s10 wr => ∃ i : Nat, i + m = k ∧ s10 = .int .i64 (i : Int) ∧ ∃ c, Hid (RowSC g cap n (swr a b i f) c ∧ St B w0 wr (c :: F)))
  case atStart => exact ⟨0, by omega, rfl, c, Lib.hid (by rw [swr_zero]; exact H0.out)⟩
  case round =>
    obtain ⟨i, hi, rfl, c1, HQ⟩ := hrel
    cases gk with
    | zero =>
      obtain rfl : i = k := by omega
      have hz : ¬ (i : Int) < (i : Int) := by omega
      clear hi
      go_wp2_with fail
      go_end0
      exact ⟨rfl, c1, HQ.out⟩
    | succ m =>
      have hik : (i : Int) < (k : Int) := by omega
      have hp := HQ.out.1.cell HQ.out.2 (show a + i < n by omega)
      have hq := HQ.out.1.cell HQ.out.2 (show b + i < n by omega)
      have hf := HQ.out.1.free HQ.out.2 (a + i)
      obtain ⟨q1, q2, c2, q3, q4⟩ := HQ.out.1.swp HQ.out.2 (show a + i ≠ b + i by omega) (by omega) (by omega)
      rw [swr_step a b i f (by omega)] at q3
      have H2 := Lib.hid (And.intro q3 q4)
      clear q3 q4 HQ
      generalize swr a b i f (a + i) = x at *
      generalize swr a b i f (b + i) = y at *
      have hpi : (a : Int) + (i : Int) < (n : Int) := by omega
      have hqi : (b : Int) + (i : Int) < (n : Int) := by omega
      go_wp2_with fail
      go_region
      go_wp2_with fail
      go_roundg m
      case measure => omega
      case rel => exact ⟨i + 1, by omega, by go_num, c2, Lib.hid ⟨H2.out.1, H2.out.2.drew⟩⟩
theorem swapC_int (a b k : Nat) (A B1 K : Int) (eA : A = (a : Int)) (eB : B1 = (b : Int)) (eK : K = (k : Int)) (vf : Value) (h : RowSC g cap n f c) (hS : St B w0 w (c :: F)) (h1 : a + k ≤ b) (h2 : b + k ≤ n) (hn : n ≤ 1000000) :
    Calls Try.prog 100 #[.slice (some ⟨g, 0, none⟩) n cap, .int .i64 A, .int .i64 B1, .int .i64 K, vf] w (SOutC g cap n (swr a b k f) F B w0) := by
  subst eA eB eK
  exact swapC_any a b k vf h hS h1 h2 hn
set_option maxHeartbeats 2000000 in
theorem rotC_any (a m b : Nat) (vf : Value) (h : RowSC g cap n f c) (hS : St B w0 w (c :: F)) (h1 : a < m) (h2 : m < b) (h3 : b ≤ n) (hn : n ≤ 1000000) :
    Calls Try.prog 98 #[.slice (some ⟨g, 0, none⟩) n cap, .int .i64 (a : Int), .int .i64 (m : Int), .int .i64 (b : Int), vf] w (SOutC g cap n (rot a m b f) F B w0) := by
  have hnl : (n : Int) ≤ 1000000 := by omega
  have H0 := Lib.hid (And.intro h hS)
  clear h hS
  go_enter Try.func98, Try.ntmps98
  go_wp2_with fail
  go_loopg [10, 11] (b - a) (fun M s10 s11 wr => ∃ i j : Nat, 1 ≤ i ∧ 1 ≤ j ∧ i + j ≤ M ∧ i ≤ m ∧ m + j ≤ n ∧ s10 = .int .i64 (i : Int) ∧ s11 = .int .i64 (j : Int) ∧ ∃ (h : Nat → Nat) (c : List (Nat × Obj)), Hid (rot (m - i) m (m + j) h = rot a m b f ∧ RowSC g cap n h c ∧ St B w0 wr (c :: F)))
  case atStart => exact ⟨m - a, b - m, by omega, by omega, by omega, by omega, by omega, by congr 1; omega, by congr 1; omega, f, c, Lib.hid ⟨by rw [show m - (m - a) = a from by omega, show m + (b - m) = b from by omega], H0.out⟩⟩
  case round =>
    obtain ⟨i, j, hi1, hj1, hM, him, hjn, rfl, rfl, h, c1, HQ⟩ := hrel
    rcases Nat.lt_trichotomy i j with q | q | q
    · have q1 : ((i : Int) != (j : Int)) = true := by simp; omega
      have q2 : ¬ (j : Int) < (i : Int) := by omega
      go_wp2_with fail
      refine (swapC_int (m - i) (m + j - i) i _ _ _ (by omega) (by omega) rfl vf HQ.out.2.1 HQ.out.2.2 (by omega) (by omega) hn).mono ?_
      rintro e w2 ⟨rfl, c2, hr2, hS2⟩
      have HF : Hid (rot (m - i) m (m + (j - i)) (swr (m - i) (m + j - i) i h) = rot a m b f ∧ RowSC g cap n (swr (m - i) (m + j - i) i h) c2 ∧ St B w0 w2 (c2 :: F)) := Lib.hid ⟨by rw [rot_right m i j h him q]; exact HQ.out.1, hr2, hS2⟩
      clear hr2 hS2 HQ
      go_wp2_with fail
      cases gk with
      | zero => omega
      | succ M =>
        go_roundg (j)
        case measure => omega
        case rel => exact ⟨i, j - i, by omega, by omega, by omega, by omega, by omega, rfl, by congr 1; omega, _, c2, HF⟩
    · subst q
      have q1 : ((i : Int) != (i : Int)) = false := by simp
      go_wp2_with fail
      refine (swapC_int (m - i) m i _ _ _ (by omega) rfl rfl vf HQ.out.2.1 HQ.out.2.2 (by omega) (by omega) hn).mono ?_
      rintro e w2 ⟨rfl, c2, hr2, hS2⟩
      rw [rot_end m i h him, HQ.out.1] at hr2
      clear HQ
      go_wp2_with fail
      go_end0
      exact ⟨rfl, c2, hr2, hS2⟩
    · have q1 : ((i : Int) != (j : Int)) = true := by simp; omega
      have q2 : (j : Int) < (i : Int) := by omega
      go_wp2_with fail
      refine (swapC_int (m - i) m j _ _ _ (by omega) rfl rfl vf HQ.out.2.1 HQ.out.2.2 (by omega) (by omega) hn).mono ?_
      rintro e w2 ⟨rfl, c2, hr2, hS2⟩
      have HF : Hid (rot (m - (i - j)) m (m + j) (swr (m - i) m j h) = rot a m b f ∧ RowSC g cap n (swr (m - i) m j h) c2 ∧ St B w0 w2 (c2 :: F)) := Lib.hid ⟨by rw [rot_left m i j h him q]; exact HQ.out.1, hr2, hS2⟩
      clear hr2 hS2 HQ
      go_wp2_with fail
      cases gk with
      | zero => omega
      | succ M =>
        go_roundg (i)
        case measure => omega
        case rel => exact ⟨i - j, j, by omega, by omega, by omega, by omega, by omega, by congr 1; omega, rfl, _, c2, HF⟩
end
end Go.Proofs.Ythgbkncanoknkaa
/-
  Stable sorting in place, plain: the insertion of one, the merging of two stretches, step by step.
-/
set_option linter.unusedVariables false
set_option linter.unusedSimpArgs false
namespace Go.Proofs.Ythgbkncanoknkaa
/-- What a comparison of an earlier one with a later one tells. -/
def Tell (R : Nat → Nat → Prop) (cf : Nat → Nat → Int) (x y : Nat) : Prop := (cf y x < 0 → R y x) ∧ (¬ cf y x < 0 → R x y)
/-- One taken out of its place and put at another one. -/
def insP (i j : Nat) (g : Nat → Nat) : Nat → Nat := fun k => if k < j then g k else if k = j then g i else if k ≤ i then g (k - 1) else g k
theorem insP_self (i : Nat) (g : Nat → Nat) : insP i i g = g := by
  funext k
  unfold insP
  by_cases c1 : k < i
  · rw [if_pos c1]
  · rw [if_neg c1]
    by_cases c2 : k = i
    · subst c2; rw [if_pos rfl]
    · rw [if_neg c2, if_neg (by omega)]
theorem insP_step (i j : Nat) (g : Nat → Nat) (hj : 1 ≤ j) (hi : j ≤ i) : swp (j - 1) j (insP i j g) = insP i (j - 1) g := by
  funext k
  unfold swp insP
  by_cases c1 : k = j - 1
  · subst c1
    rw [if_pos rfl, if_neg (Nat.lt_irrefl j), if_pos rfl, if_neg (Nat.lt_irrefl _), if_pos rfl]
  · rw [if_neg c1]
    by_cases c2 : k = j
    · subst c2
      rw [if_pos rfl, if_pos (by omega), if_neg (by omega), if_neg (by omega), if_pos hi]
    · rw [if_neg c2]
      by_cases c3 : k < j
      · rw [if_pos c3, if_pos (by omega)]
      · rw [if_neg c3, if_neg c2, if_neg (show ¬ k < j - 1 by omega), if_neg c1]
theorem insP_at (i j : Nat) (g : Nat → Nat) : insP i j g j = g i := by
  unfold insP; rw [if_neg (Nat.lt_irrefl _), if_pos rfl]
theorem insP_pre (i j : Nat) (g : Nat → Nat) (h : 1 ≤ j) : insP i j g (j - 1) = g (j - 1) := by
  unfold insP; rw [if_pos (by omega)]
theorem insP_srt {R : Nat → Nat → Prop} (tr : ∀ x y z, R x y → R y z → R x z) {a i j : Nat} {g : Nat → Nat} (hg : Srt R a i g) (h1 : a ≤ j) (h2 : j ≤ i) (h3 : ∀ k, j ≤ k → k < i → R (g i) (g k)) (h4 : j = a ∨ R (g (j - 1)) (g i)) : Srt R a (i + 1) (insP i j g) := by
  have low : ∀ p, a ≤ p → p < j → R (g p) (g i) := by
    intro p hp1 hp2
    rcases h4 with e | e
    · omega
    · by_cases c : p = j - 1
      · subst c; exact e
      · exact tr _ _ _ (hg p (j - 1) hp1 (by omega) (by omega)) e
  intro p q hp hpq hq
  unfold insP
  by_cases c1 : p < j
  · rw [if_pos c1]
    by_cases c2 : q < j
    · rw [if_pos c2]; exact hg p q hp hpq (by omega)
    · rw [if_neg c2]
      by_cases c3 : q = j
      · rw [if_pos c3]; exact low p hp c1
      · rw [if_neg c3, if_pos (by omega)]; exact hg p (q - 1) hp (by omega) (by omega)
  · rw [if_neg c1, if_neg (show ¬ q < j by omega), if_neg (show ¬ q = j by omega), if_pos (show q ≤ i by omega)]
    by_cases c3 : p = j
    · rw [if_pos c3]; exact h3 (q - 1) (by omega) (by omega)
    · rw [if_neg c3, if_pos (by omega)]; exact hg (p - 1) (q - 1) (by omega) (by omega) (by omega)
/-- The first stretch's one put behind those of the second one that stand ahead of it. -/
def shl (a i k : Nat) (f : Nat → Nat) : Nat → Nat := fun x => if a ≤ x ∧ x < k then f (x + 1) else if x = k then f a else f x
theorem shl_zero (a i : Nat) (f : Nat → Nat) : shl a i a f = f := by
  funext x
  unfold shl
  rw [if_neg (by omega)]
  split
  · next h => rw [h]
  · rfl
theorem shl_step (a i k : Nat) (f : Nat → Nat) (h : a ≤ k) : swp k (k + 1) (shl a i k f) = shl a i (k + 1) f := by
  funext x
  unfold swp shl
  by_cases c1 : x = k
  · subst c1
    rw [if_pos rfl, if_neg (by omega), if_neg (by omega), if_pos (by omega)]
  · rw [if_neg c1]
    by_cases c2 : x = k + 1
    · subst c2
      rw [if_pos rfl, if_neg (by omega), if_pos rfl, if_neg (by omega), if_pos rfl]
    · rw [if_neg c2]
      by_cases c3 : a ≤ x ∧ x < k
      · rw [if_pos c3, if_pos (by omega)]
      · rw [if_neg c3, if_neg c1, if_neg (by omega), if_neg c2]
theorem shl_srt {R : Nat → Nat → Prop} (tr : ∀ x y z, R x y → R y z → R x z) {a k b : Nat} {f : Nat → Nat} (h1 : a ≤ k) (h2 : k < b) (hf : Srt R (a + 1) b f) (h3 : ∀ x, a + 1 ≤ x → x ≤ k → R (f x) (f a)) (h4 : ∀ x, k < x → x < b → R (f a) (f x)) : Srt R a b (shl a k k f) := by
  intro p q hp hpq hq
  unfold shl
  by_cases c1 : p < k
  · rw [if_pos ⟨hp, c1⟩]
    by_cases c2 : q < k
    · rw [if_pos (by omega)]; exact hf _ _ (by omega) (by omega) (by omega)
    · rw [if_neg (by omega)]
      by_cases c3 : q = k
      · rw [if_pos c3]; exact h3 _ (by omega) (by omega)
      · rw [if_neg c3]; exact hf _ _ (by omega) (by omega) hq
  · rw [if_neg (by omega), if_neg (show ¬ (a ≤ q ∧ q < k) by omega), if_neg (show ¬ q = k by omega)]
    by_cases c3 : p = k
    · rw [if_pos c3]; exact h4 q (by omega) hq
    · rw [if_neg c3]; exact hf p q (by omega) hpq hq
/-- The search in the midst of a merge: what two places tell of all. -/
structure Found (R : Nat → Nat → Prop) (a m b s e : Nat) (f : Nat → Nat) : Prop where
  low : ∀ x y, a ≤ x → x < s → e ≤ y → y < b → R (f x) (f y)
  high : ∀ x y, m ≤ x → x < e → s ≤ y → y < m → R (f x) (f y)
theorem Found.mk' {R : Nat → Nat → Prop} (tr : ∀ x y z, R x y → R y z → R x z) {a m b s0 r0 s e : Nat} {f : Nat → Nat} (hA : Srt R a m f) (hB : Srt R m b f) (ha : a ≤ s) (hs : s ≤ m) (he : m ≤ e) (heb : e ≤ b)
    (h0 : s0 = a ∨ (s = s0 → e = b)) (h1 : r0 = m ∨ (s = r0 → e = m)) (l : s = s0 ∨ R (f (s - 1)) (f e)) (r : s = r0 ∨ R (f (e - 1)) (f s)) : Found R a m b s e f := by
  constructor
  · intro x y hx hxs hy hyb
    rcases l with q | q
    · rcases h0 with q2 | q2
      · omega
      · have := q2 q; omega
    · have h2 : R (f x) (f e) := by
        by_cases c : x = s - 1
        · rw [c]; exact q
        · exact tr _ _ _ (hA x (s - 1) hx (by omega) (by omega)) q
      by_cases c : y = e
      · rw [c]; exact h2
      · exact tr _ _ _ h2 (hB e y (by omega) (by omega) hyb)
  · intro x y hx hxe hy hym
    rcases r with q | q
    · rcases h1 with q2 | q2
      · omega
      · have := q2 q; omega
    · have h2 : R (f x) (f s) := by
        by_cases c : x = e - 1
        · rw [c]; exact q
        · exact tr _ _ _ (hB x (e - 1) hx (by omega) (by omega)) q
      by_cases c : y = s
      · rw [c]; exact h2
      · exact tr _ _ _ h2 (hA s y (by omega) (by omega) hym)
/-- Behind the turning: each half is two stretches again; all of the first half stand ahead of all of the second one. -/
theorem rot_parts {R : Nat → Nat → Prop} {a m b s e mid : Nat} {f : Nat → Nat} (hA : Srt R a m f) (hB : Srt R m b f) (ha : a ≤ s) (hs : s ≤ m) (he : m ≤ e) (heb : e ≤ b) (hm : mid = s + (e - m)) (hF : Found R a m b s e f) :
    Srt R a s (rot s m e f) ∧ Srt R s mid (rot s m e f) ∧ Srt R mid e (rot s m e f) ∧ Srt R e b (rot s m e f) ∧
    (∀ x y, a ≤ x → x < mid → mid ≤ y → y < b → R (rot s m e f x) (rot s m e f y)) ∧
    (∀ x, a ≤ x → x < s → rot s m e f x = f x) ∧ (∀ x, e ≤ x → rot s m e f x = f x) ∧ (∀ x, s ≤ x → x < mid → rot s m e f x = f (x + (m - s))) ∧ (∀ x, mid ≤ x → x < e → rot s m e f x = f (x - (e - m))) := by
  subst hm
  have r1 : ∀ x, x < s → rot s m e f x = f x := fun x h => by unfold rot; rw [if_neg (by omega), if_neg (by omega)]
  have r2 : ∀ x, s ≤ x → x < s + (e - m) → rot s m e f x = f (x + (m - s)) := fun x h h' => by unfold rot; rw [if_pos ⟨h, h'⟩]
  have r3 : ∀ x, s + (e - m) ≤ x → x < e → rot s m e f x = f (x - (e - m)) := fun x h h' => by unfold rot; rw [if_neg (by omega), if_pos ⟨h, h'⟩]
  have r4 : ∀ x, e ≤ x → rot s m e f x = f x := fun x h => by unfold rot; rw [if_neg (by omega), if_neg (by omega)]
  refine ⟨?_, ?_, ?_, ?_, ?_, fun x _ h => r1 x h, r4, r2, r3⟩
  · intro i j hi hij hj; rw [r1 i (by omega), r1 j hj]; exact hA i j hi hij (by omega)
  · intro i j hi hij hj; rw [r2 i hi (by omega), r2 j (by omega) hj]; exact hB _ _ (by omega) (by omega) (by omega)
  · intro i j hi hij hj; rw [r3 i hi (by omega), r3 j (by omega) hj]; exact hA _ _ (by omega) (by omega) (by omega)
  · intro i j hi hij hj; rw [r4 i hi, r4 j (by omega)]; exact hB i j (by omega) hij hj
  · intro x y hx hxm hy hyb
    by_cases c1 : x < s
    · rw [r1 x c1]
      by_cases c2 : y < e
      · rw [r3 y hy c2]; exact hA _ _ hx (by omega) (by omega)
      · rw [r4 y (by omega)]; exact hF.low x y hx c1 (by omega) hyb
    · rw [r2 x (by omega) hxm]
      by_cases c2 : y < e
      · rw [r3 y hy c2]; exact hF.high _ _ (by omega) (by omega) (by omega) (by omega)
      · rw [r4 y (by omega)]; exact hB _ _ (by omega) (by omega) hyb
theorem rot_idle {s m e : Nat} (f : Nat → Nat) (h : s = m ∨ m = e) : rot s m e f = f := by
  funext k
  unfold rot
  rcases h with h | h
  · subst h
    by_cases c : s ≤ k ∧ k < s + (e - s)
    · rw [if_pos c, Nat.sub_self, Nat.add_zero]
    · rw [if_neg c]
      split
      · omega
      · rfl
  · subst h
    rw [if_neg (by omega)]
    split
    · rw [Nat.sub_self, Nat.sub_zero]
    · rfl
/-- Two halves that are in order, all of the first ahead of all of the second. -/
theorem srt_join {R : Nat → Nat → Prop} {a m b : Nat} {f g h : Nat → Nat} (h1 : Pm a m f g) (h2 : Pm m b g h) (ham : a ≤ m) (hmb : m ≤ b) (hs : Srt R a m g) (hs2 : Srt R m b h) (hc : ∀ x y, a ≤ x → x < m → m ≤ y → y < b → R (f x) (f y)) : Srt R a b h := by
  intro p q hp hpq hq
  by_cases c1 : q < m
  · rw [h2.1 p (by omega), h2.1 q (by omega)]; exact hs p q hp hpq c1
  · by_cases c2 : p < m
    · rw [h2.1 p (by omega)]
      obtain ⟨p', e1, e2, e3⟩ := h1.mem hp c2
      obtain ⟨q', e4, e5, e6⟩ := h2.mem (i := q) (by omega) hq
      rw [e3, e6, h1.1 q' (by omega)]
      exact hc p' q' e1 e2 e4 e5
    · exact hs2 p q (by omega) hpq hq
theorem Srt.congr {R : Nat → Nat → Prop} {a b : Nat} {f g : Nat → Nat} (h : Srt R a b f) (e : ∀ k, a ≤ k → k < b → g k = f k) : Srt R a b g := by
  intro p q hp hpq hq
  rw [e p hp (by omega), e q (by omega) hq]
  exact h p q hp hpq hq
end Go.Proofs.Ythgbkncanoknkaa
/-
  The library's stable sort: insertion.
-/
set_option linter.unusedVariables false
set_option linter.unusedSimpArgs false
namespace Go.Proofs.Ythgbkncanoknkaa
open Go.RowKit
set_option maxRecDepth 100000
/-- What the comparing function tells, wherever the row under way lies. -/
def CmpC (B : Nat) (w0 : World) (F : List (List (Nat × Obj))) (Ok : Nat → Prop) (cf : Nat → Nat → Int) : Prop :=
  ∀ (wx : World) (cd : List (Nat × Obj)), St B w0 wx (cd :: F) → ∀ x y, Ok x → Ok y → Calls Try.prog 71 #[(Value.pointer (some ⟨x, 0, none⟩)), (Value.pointer (some ⟨y, 0, none⟩))] wx fun e w' => e = .returned (.int .i64 (cf x y)) ∧ ∃ k, w' = wx.drewN k
theorem quiet_cmpC {P : Program} {f : FuncId} {args : Array Value} {w : World} {n : Nat} {v : Value}
    (h : Calls P f args (w.drewN n) fun e w' => e = .returned v ∧ ∃ k, w' = (w.drewN n).drewN k) : Calls P f args (w.drewN n) fun e w'' => e = .returned v ∧ ∃ m, w'' = w.drewN m :=
  h.mono fun _ _ ⟨he, k, hw⟩ => ⟨he, n + k, by rw [hw, World.drewN_drewN]⟩
/-- What a sorting of a stretch leaves. -/
def TOutC (R : Nat → Nat → Prop) (g cap n a b : Nat) (f : Nat → Nat) (F : List (List (Nat × Obj))) (B : Nat) (w0 : World) (e : Ending) (w' : World) : Prop :=
  e = .returned (.tuple #[]) ∧ ∃ f' c', Pm a b f f' ∧ Srt R a b f' ∧ RowSC g cap n f' c' ∧ St B w0 w' (c' :: F)
section
variable {B : Nat} {w0 w : World} {F : List (List (Nat × Obj))} {c : List (Nat × Obj)} {g cap n : Nat} {f : Nat → Nat} {R : Nat → Nat → Prop} {cf : Nat → Nat → Int} {Ok : Nat → Prop} 
set_option maxHeartbeats 4000000 in
theorem insC_any (tr : ∀ x y z, R x y → R y z → R x z) (hcmp : CmpC B w0 F Ok cf) (a b : Nat) (h : RowSC g cap n f c) (hS : St B w0 w (c :: F)) (h1 : a ≤ b) (h2 : b ≤ n) (hn : n ≤ 1000000) (hok : ∀ k, k < n → Ok (f k))
    (ht : ∀ p q, a ≤ p → p < q → q < b → Tell R cf (f p) (f q)) :
    Calls Try.prog 91 #[.slice (some ⟨g, 0, none⟩) n cap, .int .i64 (a : Int), .int .i64 (b : Int), .func (.func 71) #[] #[]] w (TOutC R g cap n a b f F B w0) := by
  have hnl : (n : Int) ≤ 1000000 := by omega
  have H0 := Lib.hid (And.intro h hS)
  have HC := Lib.hid (And.intro hcmp (And.intro hok ht))
  have HT := Lib.hid tr
  clear h hS hcmp hok ht tr
  go_enter Try.func91, Try.ntmps91
  go_wp2_with fail
  go_loopg [8] (b - a) (fun m s8 wr => ∃ i : Nat, i + m = b + 1 ∧ a < i ∧ s8 = .int .i64 (i : Int) ∧ ∃ (h : Nat → Nat) (c : List (Nat × Obj)), Hid (Pm a (min i b) f h ∧ Srt R a (min i b) h ∧ RowSC g cap n h c ∧ St B w0 wr (c :: F)))
  case atStart => exact ⟨a + 1, by omega, by omega, by go_num, f, c, Lib.hid ⟨Pm.refl _ _ _, by intro p q hp hpq hq; omega, H0.out⟩⟩
  case round =>
    obtain ⟨i, hi, hai, rfl, h, c1, HQ⟩ := hrel
    by_cases hib : i < b
    · have hii : (i : Int) < (b : Int) := by omega
      have hmin : min i b = i := by omega
      rw [hmin] at HQ
      clear hmin
      have hOk : ∀ k, k < n → Ok (h k) := by
        intro k hk
        by_cases c2 : a ≤ k ∧ k < i
        · obtain ⟨j, _, hj2, e⟩ := HQ.out.1.mem c2.1 c2.2
          rw [e]; exact HC.out.2.1 j (by omega)
        · rw [HQ.out.1.1 k (by omega)]; exact HC.out.2.1 k hk
      have hTl : ∀ k, a ≤ k → k < i → Tell R cf (h k) (h i) := by
        intro k hk1 hk2
        obtain ⟨j, hj1, hj2, e⟩ := HQ.out.1.mem hk1 hk2
        rw [e, HQ.out.1.1 i (by omega)]
        exact HC.out.2.2 j i hj1 hj2 hib
      have HO := Lib.hid (And.intro hOk hTl)
      clear hOk hTl
      go_wp2_with fail
      go_loopg [9] (i - a) (fun k s9 wr => ∃ j : Nat, Hid (j = a + k) ∧ j ≤ i ∧ s9 = .int .i64 (j : Int) ∧ ∃ (c : List (Nat × Obj)), Hid ((∀ k, j ≤ k → k < i → R (h i) (h k)) ∧ Pm a (i + 1) h (insP i j h) ∧ RowSC g cap n (insP i j h) c ∧ St B w0 wr (c :: F)))
      case atStart => exact ⟨i, Lib.hid (by omega), Nat.le_refl _, rfl, c1, Lib.hid ⟨fun k h1 h2 => by omega, by rw [insP_self]; exact Pm.refl _ _ _, by rw [insP_self]; exact HQ.out.2.2⟩⟩
      case round =>
        obtain ⟨j, HJ, hji, rfl, c2, HI⟩ := hrel
        have haj : a ≤ j := by have := HJ.out; omega
        have FIN : ∀ wx (c' : List (Nat × Obj)), (j = a ∨ R (h (j - 1)) (h i)) → RowSC g cap n (insP i j h) c' → St B w0 wx (c' :: F) → ∃ (h : Nat → Nat) (c : List (Nat × Obj)), Hid (Pm a (min (i + 1) b) f h ∧ Srt R a (min (i + 1) b) h ∧ RowSC g cap n h c ∧ St B w0 wx (c :: F)) := by
          intro wx c' hstop hr hs
          refine ⟨insP i j h, c', Lib.hid ⟨?_, ?_, hr, hs⟩⟩
          · rw [show min (i + 1) b = i + 1 from by omega]
            exact (HQ.out.1.mono (Nat.le_refl _) (by omega) (by omega)).trans HI.out.2.1
          · rw [show min (i + 1) b = i + 1 from by omega]
            exact insP_srt HT.out HQ.out.2.1 (by omega) hji HI.out.1 hstop
        have HFIN := Lib.hid FIN
        clear FIN
        cases gk with
        | zero =>
          have hja : j = a := HJ.out
          have HJA := Lib.hid hja
          clear hja
          have q1 : ¬ a < j := by have := HJ.out; omega
          have HS := HI.out.2.2
          go_wp2_with fail
          go_quiet (fail)
          go_wp2_with fail
          go_roundg (b - i)
          case measure => omega
          case rel => exact ⟨i + 1, by omega, by omega, by go_num, HFIN.out _ c2 (.inl HJA.out) HS.1 (HS.2.drewN _)⟩
        | succ k =>
          have q1 : a < j := by have := HJ.out; omega
          have hcm := fun nq => HC.out.1 (wr.drewN nq) c2 (HI.out.2.2.2.drewN nq) (h i) (h (j - 1)) (HO.out.1 i (by omega)) (HO.out.1 (j - 1) (by omega))
          have hl1 := HI.out.2.2.1.cell HI.out.2.2.2 (show j < n by omega)
          have hl2 := HI.out.2.2.1.cell HI.out.2.2.2 (show j - 1 < n by omega)
          rw [insP_at] at hl1
          rw [insP_pre i j h (by omega)] at hl2
          have hji1 : (j : Int) < (n : Int) := by omega
          have hji2 : (j : Int) - 1 < (n : Int) := by omega
          have hj1 : 1 ≤ j := by omega
          by_cases hlt : cf (h i) (h (j - 1)) < 0
          · have HLT := Lib.hid hlt
            go_wp2_with fail
            go_quiet ((go_at_call 71; exact quiet_cmpC (hcm _)))
            have S2 := HI.out.2.2.2.drewN nq
            have hr2 := HI.out.2.2.1
            generalize wr.drewN nq = w2 at S2 ⊢
            have hp := hr2.cell S2 (show j < n by omega)
            have hq := hr2.cell S2 (show j - 1 < n by omega)
            have hf := hr2.free S2 j
            have hf2 := hr2.free S2 (j - 1)
            obtain ⟨p1, p2, c3, p3, p4⟩ := hr2.swp S2 (show j ≠ j - 1 by omega) (by omega) (by omega)
            rw [swp_comm, insP_step i j h hj1 hji] at p3
            rw [insP_at, insP_pre i j h hj1] at *
            have HN : Hid ((∀ k, j - 1 ≤ k → k < i → R (h i) (h k)) ∧ Pm a (i + 1) h (insP i (j - 1) h) ∧ RowSC g cap n (insP i (j - 1) h) c3) := Lib.hid ⟨by
              intro k hk1 hk2
              by_cases e : k = j - 1
              · rw [e]; exact (HO.out.2 (j - 1) (by omega) (by omega)).1 HLT.out
              · exact HI.out.1 k (by omega) hk2, by
              have := HI.out.2.1.trans (Pm.swp (insP i j h) (show a ≤ j - 1 by omega) (show j - 1 < j by omega) (show j < i + 1 by omega))
              rwa [insP_step i j h hj1 hji] at this, p3⟩
            clear p3 hl1 hl2 hcm HI hr2
            generalize h i = x at *
            generalize h (j - 1) = y at *
            go_wp2_with fail
            go_region
            go_wp2_with fail
            go_roundg k
            case measure => omega
            case rel => exact ⟨j - 1, Lib.hid (by have := HJ.out; omega), by omega, by go_num, c3, Lib.hid ⟨HN.out.1, HN.out.2.1, HN.out.2.2, p4.drew⟩⟩
          · have HR : Hid (R (h (j - 1)) (h i)) := Lib.hid ((HO.out.2 (j - 1) (by omega) (by omega)).2 hlt)
            have HS := HI.out.2.2
            go_wp2_with fail
            go_quiet ((go_at_call 71; exact quiet_cmpC (hcm _)))
            go_wp2_with fail
            go_roundg (b - i)
            case measure => omega
            case rel => exact ⟨i + 1, by omega, by omega, by go_num, HFIN.out _ c2 (.inr HR.out) HS.1 (HS.2.drewN _)⟩
    · have hz : ¬ (i : Int) < (b : Int) := by omega
      have hmin : min i b = b := by omega
      rw [hmin] at HQ
      clear hmin
      go_wp2_with fail
      go_end0
      exact ⟨rfl, h, c1, HQ.out⟩
end
end Go.Proofs.Ythgbkncanoknkaa
/-
  The library's stable sort: merging two stretches that are in order.
-/
set_option linter.unusedVariables false
set_option linter.unusedSimpArgs false
namespace Go.Proofs.Ythgbkncanoknkaa
open Go.RowKit
set_option maxRecDepth 100000
section
variable {B : Nat} {w0 : World} {F : List (List (Nat × Obj))} {g cap n : Nat} {R : Nat → Nat → Prop} {cf : Nat → Nat → Int} {Ok : Nat → Prop} 
def SymOkC (B : Nat) (w0 : World) (F : List (List (Nat × Obj))) (g cap n : Nat) (R : Nat → Nat → Prop) (cf : Nat → Nat → Int) (Ok : Nat → Prop) (a m b : Nat) (f : Nat → Nat) (c : List (Nat × Obj)) (w : World) : Prop :=
  RowSC g cap n f c ∧ St B w0 w (c :: F) ∧ (∀ k, k < n → Ok (f k)) ∧ Srt R a m f ∧ Srt R m b f ∧ ∀ p q, a ≤ p → p < m → m ≤ q → q < b → Tell R cf (f p) (f q)
set_option maxHeartbeats 4000000 in
theorem symC_one (tr : ∀ x y z, R x y → R y z → R x z) (hcmp : CmpC B w0 F Ok cf) (a b : Nat) (f : Nat → Nat) (c : List (Nat × Obj)) (w : World) (h : SymOkC B w0 F g cap n R cf Ok a (a + 1) b f c w) (h1 : a + 1 < b) (h2 : b ≤ n) (hn : n ≤ 1000000) :
    Calls Try.prog 92 #[.slice (some ⟨g, 0, none⟩) n cap, .int .i64 (a : Int), .int .i64 ((a : Int) + 1), .int .i64 (b : Int), .func (.func 71) #[] #[]] w (TOutC R g cap n a b f F B w0) := by
  have hnl : (n : Int) ≤ 1000000 := by omega
  have H := Lib.hid h
  have HT := Lib.hid tr
  have HC := Lib.hid hcmp
  have hai : (a : Int) < (n : Int) := by omega
  have hq1 : (((a : Int) + 1 - (a : Int)) == 1) = true := by simp; omega
  clear h tr hcmp
  go_enter Try.func92, Try.ntmps92
  go_wp2_with fail
  go_loopg [10, 11] (b - (a + 1)) (fun M s10 s11 wr => ∃ i j : Nat, a + 1 ≤ i ∧ i ≤ j ∧ j ≤ b ∧ j ≤ i + M ∧ s10 = .int .i64 (i : Int) ∧ s11 = .int .i64 (j : Int) ∧ Hid ((∀ k, a + 1 ≤ k → k < i → R (f k) (f a)) ∧ (∀ k, j ≤ k → k < b → R (f a) (f k)) ∧ St B w0 wr (c :: F)))
  case atStart => exact ⟨a + 1, b, by omega, by omega, by omega, by omega, by go_num, rfl, Lib.hid ⟨fun k h1 h2 => by omega, fun k h1 h2 => by omega, H.out.2.1⟩⟩
  case round =>
    obtain ⟨i, j, hi1, hij, hjb, hjM, rfl, rfl, HQ⟩ := hrel
    by_cases q : i < j
    · have qi : (i : Int) < (j : Int) := by omega
      obtain ⟨p, hp⟩ : ∃ p : Nat, p = (i + j) / 2 := ⟨_, rfl⟩
      have HE : Hid (((i : Int) + (j : Int)) / 2 = (p : Int)) := Lib.hid (by omega)
      obtain ⟨hp1, hp2⟩ : i ≤ p ∧ p < j := by omega
      have hpn : (p : Int) < (n : Int) := by omega
      have HP := Lib.hid hp
      clear hp
      have hl1 := H.out.1.cell HQ.out.2.2 (show p < n by omega)
      have hl2 := H.out.1.cell HQ.out.2.2 (show a < n by omega)
      have hcm := fun nq => HC.out (wr.drewN nq) c (HQ.out.2.2.drewN nq) (f p) (f a) (H.out.2.2.1 p (by omega)) (H.out.2.2.1 a (by omega))
      have hTl := H.out.2.2.2.2.2 a p (Nat.le_refl _) (by omega) (by omega) (by omega)
      go_wp2_with fail
      rw [HE.out]
      by_cases hlt : cf (f p) (f a) < 0
      · have HR := Lib.hid (hTl.1 hlt)
        clear hTl
        go_quiet ((go_at_call 71; exact quiet_cmpC (hcm _)))
        have S2 := HQ.out.2.2.drewN nq
        generalize wr.drewN nq = w2 at S2 ⊢
        go_wp2_with fail
        cases gk with
        | zero => omega
        | succ M =>
          go_roundg M
          case measure => omega
          case rel =>
            refine ⟨p + 1, j, by omega, by omega, by omega, by have := HP.out; omega, by go_num, rfl, Lib.hid ⟨fun k hk1 hk2 => ?_, HQ.out.2.1, S2⟩⟩
            by_cases e : k = p
            · rw [e]; exact HR.out
            · exact HT.out _ _ _ (H.out.2.2.2.2.1 k p (by omega) (by omega) (by omega)) HR.out
      · have HR := Lib.hid (hTl.2 hlt)
        clear hTl
        go_quiet ((go_at_call 71; exact quiet_cmpC (hcm _)))
        have S2 := HQ.out.2.2.drewN nq
        generalize wr.drewN nq = w2 at S2 ⊢
        go_wp2_with fail
        cases gk with
        | zero => omega
        | succ M =>
          go_roundg M
          case measure => omega
          case rel =>
            refine ⟨i, p, by omega, by omega, by omega, by have := HP.out; omega, rfl, by go_num, Lib.hid ⟨HQ.out.1, fun k hk1 hk2 => ?_, S2⟩⟩
            by_cases e : k = p
            · rw [e]; exact HR.out
            · exact HT.out _ _ _ HR.out (H.out.2.2.2.2.1 p k (by omega) (by omega) (by omega))
    · obtain rfl : i = j := by omega
      have qz : ¬ (i : Int) < (i : Int) := by omega
      clear hij hjM
      go_wp2_with fail
      go_loopg [13] (i - 1 - a) (fun M s13 wr => ∃ k : Nat, k + M = i - 1 ∧ a ≤ k ∧ s13 = .int .i64 (k : Int) ∧ ∃ c, Hid (RowSC g cap n (shl a i k f) c ∧ Pm a b f (shl a i k f) ∧ St B w0 wr (c :: F)))
      case atStart => exact ⟨a, by omega, Nat.le_refl _, rfl, c, Lib.hid ⟨by rw [shl_zero]; exact H.out.1, by rw [shl_zero]; exact Pm.refl _ _ _, HQ.out.2.2⟩⟩
      case round =>
        obtain ⟨k, hk, hak, rfl, c2, HI⟩ := hrel
        cases gk with
        | zero =>
          have hki : k = i - 1 := by omega
          have qk : ¬ (k : Int) < (i : Int) - 1 := by omega
          have HK := Lib.hid hki
          clear hk hki
          go_wp2_with fail
          go_end0
          refine ⟨rfl, shl a i k f, c2, HI.out.2.1, ?_, HI.out.1, HI.out.2.2⟩
          have hk2 := HK.out
          exact shl_srt HT.out hak (by omega) H.out.2.2.2.2.1 (fun x h3 h4 => HQ.out.1 x h3 (by omega)) (fun x h3 h4 => HQ.out.2.1 x (by omega) h4)
        | succ M =>
          have qk : (k : Int) < (i : Int) - 1 := by omega
          have hkn : (k : Int) + 1 < (n : Int) := by omega
          have hp := HI.out.1.cell HI.out.2.2 (show k < n by omega)
          have hq := HI.out.1.cell HI.out.2.2 (show k + 1 < n by omega)
          have hf := HI.out.1.free HI.out.2.2 k
          have hf2 := HI.out.1.free HI.out.2.2 (k + 1)
          obtain ⟨p1, p2, c3, p3, p4⟩ := HI.out.1.swp HI.out.2.2 (show k ≠ k + 1 by omega) (by omega) (by omega)
          have hpm := HI.out.2.1.trans (Pm.swp (shl a i k f) (show a ≤ k by omega) (show k < k + 1 by omega) (show k + 1 < b by omega))
          rw [shl_step a i k f hak] at p3 hpm
          have HN := Lib.hid (And.intro p3 (And.intro hpm p4))
          clear p3 hpm p4
          have hk1 : k + 1 + M = i - 1 := by omega
          have HK1 := Lib.hid hk1
          clear hk hk1
          generalize shl a i k f k = x at *
          generalize shl a i k f (k + 1) = y at *
          go_wp2_with fail
          go_region
          go_wp2_with fail
          go_roundg M
          case measure => omega
          case rel => exact ⟨k + 1, HK1.out, by omega, by go_num, c3, Lib.hid ⟨HN.out.1, HN.out.2.1, HN.out.2.2.drew⟩⟩
set_option maxHeartbeats 4000000 in
theorem symC_two (tr : ∀ x y z, R x y → R y z → R x z) (hcmp : CmpC B w0 F Ok cf) (a m : Nat) (f : Nat → Nat) (c : List (Nat × Obj)) (w : World) (h : SymOkC B w0 F g cap n R cf Ok a m (m + 1) f c w) (h1 : a + 1 < m) (h2 : m + 1 ≤ n) (hn : n ≤ 1000000) :
    Calls Try.prog 92 #[.slice (some ⟨g, 0, none⟩) n cap, .int .i64 (a : Int), .int .i64 (m : Int), .int .i64 ((m : Int) + 1), .func (.func 71) #[] #[]] w (TOutC R g cap n a (m + 1) f F B w0) := by
  have hnl : (n : Int) ≤ 1000000 := by omega
  have H := Lib.hid h
  have HT := Lib.hid tr
  have HC := Lib.hid hcmp
  have hmi : (m : Int) < (n : Int) := by omega
  have hq1 : (((m : Int) - (a : Int)) == 1) = false := by rw [beq_eq_false_iff_ne]; omega
  have hq2 : (((m : Int) + 1 - (m : Int)) == 1) = true := by simp; omega
  clear h tr hcmp
  go_enter Try.func92, Try.ntmps92
  go_wp2_with fail
  go_loopg [14, 15] (m - a) (fun M s14 s15 wr => ∃ i j : Nat, a ≤ i ∧ i ≤ j ∧ j ≤ m ∧ j ≤ i + M ∧ s14 = .int .i64 (i : Int) ∧ s15 = .int .i64 (j : Int) ∧ Hid ((∀ k, a ≤ k → k < i → R (f k) (f m)) ∧ (∀ k, j ≤ k → k < m → R (f m) (f k)) ∧ St B w0 wr (c :: F)))
  case atStart => exact ⟨a, m, by omega, by omega, by omega, by omega, rfl, rfl, Lib.hid ⟨fun k h1 h2 => by omega, fun k h1 h2 => by omega, H.out.2.1⟩⟩
  case round =>
    obtain ⟨i, j, hi1, hij, hjb, hjM, rfl, rfl, HQ⟩ := hrel
    by_cases q : i < j
    · have qi : (i : Int) < (j : Int) := by omega
      obtain ⟨p, hp⟩ : ∃ p : Nat, p = (i + j) / 2 := ⟨_, rfl⟩
      have HE : Hid (((i : Int) + (j : Int)) / 2 = (p : Int)) := Lib.hid (by omega)
      obtain ⟨hp1, hp2⟩ : i ≤ p ∧ p < j := by omega
      have hpn : (p : Int) < (n : Int) := by omega
      have HP := Lib.hid hp
      clear hp
      have hl1 := H.out.1.cell HQ.out.2.2 (show p < n by omega)
      have hl2 := H.out.1.cell HQ.out.2.2 (show m < n by omega)
      have hcm := fun nq => HC.out (wr.drewN nq) c (HQ.out.2.2.drewN nq) (f m) (f p) (H.out.2.2.1 m (by omega)) (H.out.2.2.1 p (by omega))
      have hTl := H.out.2.2.2.2.2 p m (by omega) (by omega) (Nat.le_refl _) (by omega)
      go_wp2_with fail
      rw [HE.out]
      by_cases hlt : cf (f m) (f p) < 0
      · have HR := Lib.hid (hTl.1 hlt)
        clear hTl
        go_quiet ((go_at_call 71; exact quiet_cmpC (hcm _)))
        have S2 := HQ.out.2.2.drewN nq
        generalize wr.drewN nq = w2 at S2 ⊢
        go_wp2_with fail
        cases gk with
        | zero => omega
        | succ M =>
          go_roundg M
          case measure => omega
          case rel =>
            refine ⟨i, p, by omega, by omega, by omega, by have := HP.out; omega, rfl, by go_num, Lib.hid ⟨HQ.out.1, fun k hk1 hk2 => ?_, S2⟩⟩
            by_cases e : k = p
            · rw [e]; exact HR.out
            · exact HT.out _ _ _ HR.out (H.out.2.2.2.1 p k (by omega) (by omega) (by omega))
      · have HR := Lib.hid (hTl.2 hlt)
        clear hTl
        go_quiet ((go_at_call 71; exact quiet_cmpC (hcm _)))
        have S2 := HQ.out.2.2.drewN nq
        generalize wr.drewN nq = w2 at S2 ⊢
        go_wp2_with fail
        cases gk with
        | zero => omega
        | succ M =>
          go_roundg M
          case measure => omega
          case rel =>
            refine ⟨p + 1, j, by omega, by omega, by omega, by have := HP.out; omega, by go_num, rfl, Lib.hid ⟨fun k hk1 hk2 => ?_, HQ.out.2.1, S2⟩⟩
            by_cases e : k = p
            · rw [e]; exact HR.out
            · exact HT.out _ _ _ (H.out.2.2.2.1 k p (by omega) (by omega) (by omega)) HR.out
    · obtain rfl : i = j := by omega
      have qz : ¬ (i : Int) < (i : Int) := by omega
      clear hij hjM
      go_wp2_with fail
      go_loopg [17] (m - i) (fun M s17 wr => ∃ k : Nat, Hid (k = i + M) ∧ i ≤ k ∧ k ≤ m ∧ s17 = .int .i64 (k : Int) ∧ ∃ c, Hid (RowSC g cap n (insP m k f) c ∧ Pm a (m + 1) f (insP m k f) ∧ St B w0 wr (c :: F)))
      case atStart => exact ⟨m, Lib.hid (by omega), by omega, Nat.le_refl _, rfl, c, Lib.hid ⟨by rw [insP_self]; exact H.out.1, by rw [insP_self]; exact Pm.refl _ _ _, HQ.out.2.2⟩⟩
      case round =>
        obtain ⟨k, HK, hik, hkm, rfl, c2, HI⟩ := hrel
        cases gk with
        | zero =>
          have qk : ¬ i < k := by have := HK.out; omega
          go_wp2_with fail
          go_end0
          refine ⟨rfl, insP m k f, c2, HI.out.2.1, ?_, HI.out.1, HI.out.2.2⟩
          have hk2 : k = i := HK.out
          refine insP_srt HT.out H.out.2.2.2.1 (by omega) hkm (fun x h3 h4 => HQ.out.2.1 x (by omega) h4) ?_
          rcases Nat.eq_or_lt_of_le hi1 with e | e
          · exact .inl (by omega)
          · exact .inr (HQ.out.1 (k - 1) (by omega) (by omega))
        | succ M =>
          have qk : i < k := by have := HK.out; omega
          have hkn : (k : Int) - 1 < (n : Int) := by omega
          have hk1 : 1 ≤ k := by omega
          have hp := HI.out.1.cell HI.out.2.2 (show k < n by omega)
          have hq := HI.out.1.cell HI.out.2.2 (show k - 1 < n by omega)
          have hf := HI.out.1.free HI.out.2.2 k
          have hf2 := HI.out.1.free HI.out.2.2 (k - 1)
          obtain ⟨p1, p2, c3, p3, p4⟩ := HI.out.1.swp HI.out.2.2 (show k ≠ k - 1 by omega) (by omega) (by omega)
          have hpm := HI.out.2.1.trans (Pm.swp (insP m k f) (show a ≤ k - 1 by omega) (show k - 1 < k by omega) (show k < m + 1 by omega))
          rw [swp_comm, insP_step m k f hk1 hkm] at p3
          rw [insP_step m k f hk1 hkm] at hpm
          have HN := Lib.hid (And.intro p3 (And.intro hpm p4))
          clear p3 hpm p4
          generalize insP m k f k = x at *
          generalize insP m k f (k - 1) = y at *
          go_wp2_with fail
          go_region
          go_wp2_with fail
          go_roundg M
          case measure => omega
          case rel => exact ⟨k - 1, Lib.hid (by have := HK.out; omega), by omega, by omega, by go_num, c3, Lib.hid ⟨HN.out.1, HN.out.2.1, HN.out.2.2.drew⟩⟩
theorem ok_rot {n : Nat} {Ok : Nat → Prop} {f : Nat → Nat} (h : ∀ k, k < n → Ok (f k)) {s m e : Nat} (h1 : s ≤ m) (h2 : m ≤ e) (h3 : e ≤ n) : ∀ k, k < n → Ok (rot s m e f k) := by
  intro k hk
  unfold rot
  split
  · exact h _ (by omega)
  · split
    · exact h _ (by omega)
    · exact h _ hk
theorem ok_pm {n : Nat} {Ok : Nat → Prop} {f f' : Nat → Nat} (h : ∀ k, k < n → Ok (f k)) {a b : Nat} (hp : Pm a b f f') (hb : b ≤ n) : ∀ k, k < n → Ok (f' k) := by
  intro k hk
  by_cases c : a ≤ k ∧ k < b
  · obtain ⟨j, _, hj, e⟩ := hp.mem c.1 c.2
    rw [e]; exact h j (by omega)
  · rw [hp.1 k (by omega)]; exact h k hk
set_option maxHeartbeats 8000000 in
theorem symC_gen (tr : ∀ x y z, R x y → R y z → R x z) (hcmp : CmpC B w0 F Ok cf) (a m b : Nat) (f : Nat → Nat) (c : List (Nat × Obj)) (w : World) (h : SymOkC B w0 F g cap n R cf Ok a m b f c w) (h1 : a + 1 < m) (h2 : m + 1 < b) (h3 : b ≤ n) (hn : n ≤ 1000000)
    (ih : ∀ (a' m' b' : Nat) (f' : Nat → Nat) (c' : List (Nat × Obj)) (w' : World), b' - a' < b - a → SymOkC B w0 F g cap n R cf Ok a' m' b' f' c' w' → a' < m' → m' < b' → b' ≤ n →
      Calls Try.prog 92 #[.slice (some ⟨g, 0, none⟩) n cap, .int .i64 (a' : Int), .int .i64 (m' : Int), .int .i64 (b' : Int), .func (.func 71) #[] #[]] w' (TOutC R g cap n a' b' f' F B w0)) :
    Calls Try.prog 92 #[.slice (some ⟨g, 0, none⟩) n cap, .int .i64 (a : Int), .int .i64 (m : Int), .int .i64 (b : Int), .func (.func 71) #[] #[]] w (TOutC R g cap n a b f F B w0) := by
  have hnl : (n : Int) ≤ 1000000 := by omega
  have H := Lib.hid h
  have HT := Lib.hid tr
  have HC := Lib.hid hcmp
  have HIH := Lib.hid ih
  have hq1 : (((m : Int) - (a : Int)) == 1) = false := by rw [beq_eq_false_iff_ne]; omega
  have hq2 : (((b : Int) - (m : Int)) == 1) = false := by rw [beq_eq_false_iff_ne]; omega
  obtain ⟨mid, hmid⟩ : ∃ mid : Nat, mid = (a + b) / 2 := ⟨_, rfl⟩
  obtain ⟨N1, hN1⟩ : ∃ N1 : Nat, N1 + 1 = mid + m := ⟨mid + m - 1, by omega⟩
  have HE : Hid (((a : Int) + (b : Int)) / 2 = (mid : Int)) := Lib.hid (by omega)
  have HE2 : Hid ((mid : Int) + (m : Int) = (N1 : Int) + 1) := Lib.hid (by omega)
  obtain ⟨hm1, hm2⟩ : a < mid ∧ mid < b := by omega
  have HM := Lib.hid (And.intro hmid hN1)
  have hm3 : 2 * mid ≤ a + b := by omega
  have hm4 : a + b ≤ 2 * mid + 1 := by omega
  have hN2 : N1 + 1 ≤ mid + m := by omega
  have hN3 : mid + m ≤ N1 + 1 := by omega
  clear h tr hcmp ih hmid hN1
  go_enter Try.func92, Try.ntmps92
  have hE := HE.out
  have hE2 := HE2.out
  go_upto_if 140 with (fail)
  clear hE hE2
  go_cut [20, 21] (fun s20 s21 wc => ∃ s0 r0 : Nat, s20 = .int .i64 (s0 : Int) ∧ s21 = .int .i64 (r0 : Int) ∧ a ≤ s0 ∧ s0 ≤ r0 ∧ r0 ≤ m ∧ r0 ≤ mid ∧ N1 + 1 ≤ s0 + b ∧ Hid ((s0 = a ∨ s0 + b = N1 + 1) ∧ (r0 = m ∨ r0 = mid)) ∧ wc = w)
  case first =>
    by_cases q : mid < m
    · have q1 : (mid : Int) < (m : Int) := by omega
      go_wp2_with fail
      go_meet
      case rel => exact ⟨N1 + 1 - b, mid, by congr 1; omega, rfl, by omega, by omega, by omega, by omega, by omega, Lib.hid ⟨.inr (by omega), .inr rfl⟩, rfl⟩
    · have q1 : ¬ (mid : Int) < (m : Int) := by omega
      go_wp2_with fail
      go_meet
      case rel => exact ⟨a, m, rfl, rfl, by omega, by omega, by omega, by omega, by omega, Lib.hid ⟨.inl rfl, .inl rfl⟩, rfl⟩
  case rest =>
    obtain ⟨s0, r0, rfl, rfl, k1, k2, k3, k4, k5, HK, rfl⟩ := hcut
    go_wp2_with fail
    go_loopg [20, 21] (r0 - s0) (fun M s20 s21 wr => ∃ s r : Nat, s0 ≤ s ∧ s ≤ r ∧ r ≤ r0 ∧ r ≤ s + M ∧ s20 = .int .i64 (s : Int) ∧ s21 = .int .i64 (r : Int) ∧ Hid ((s = s0 ∨ R (f (s - 1)) (f (N1 + 1 - s))) ∧ (r = r0 ∨ R (f (N1 - r)) (f r)) ∧ St B w0 wr (c :: F)))
    case atStart => exact ⟨s0, r0, by omega, by omega, by omega, by omega, rfl, rfl, Lib.hid ⟨.inl rfl, .inl rfl, H.out.2.1⟩⟩
    case round =>
      obtain ⟨s, r, j1, j2, j3, j4, rfl, rfl, HQ⟩ := hrel
      by_cases q : s < r
      · have qi : (s : Int) < (r : Int) := by omega
        obtain ⟨p, hp⟩ : ∃ p : Nat, p = (s + r) / 2 := ⟨_, rfl⟩
        have HP1 : Hid (((s : Int) + (r : Int)) / 2 = (p : Int)) := Lib.hid (by omega)
        obtain ⟨hp1, hp2⟩ : s ≤ p ∧ p < r := by omega
        have HP := Lib.hid hp
        clear hp
        have hpn : (p : Int) < (n : Int) := by omega
        have hpN : (N1 : Int) - (p : Int) < (n : Int) := by omega
        have hpN2 : p ≤ N1 := by omega
        have hl1 := H.out.1.cell HQ.out.2.2 (show p < n by omega)
        have hl2 := H.out.1.cell HQ.out.2.2 (show N1 - p < n by omega)
        have hcm := fun nq => HC.out (wr.drewN nq) c (HQ.out.2.2.drewN nq) (f (N1 - p)) (f p) (H.out.2.2.1 (N1 - p) (by omega)) (H.out.2.2.1 p (by omega))
        have hTl := H.out.2.2.2.2.2 p (N1 - p) (by omega) (by omega) (by omega) (by omega)
        go_wp2_with fail
        rw [HP1.out]
        by_cases hlt : cf (f (N1 - p)) (f p) < 0
        · have HR := Lib.hid (hTl.1 hlt)
          clear hTl
          go_quiet ((go_at_call 71; exact quiet_cmpC (hcm _)))
          have S2 := HQ.out.2.2.drewN nq
          generalize wr.drewN nq = w2 at S2 ⊢
          go_wp2_with fail
          cases gk with
          | zero => omega
          | succ M =>
            go_roundg M
            case measure => omega
            case rel => exact ⟨s, p, by omega, by omega, by omega, by have := HP.out; omega, rfl, by go_num, Lib.hid ⟨HQ.out.1, .inr HR.out, S2⟩⟩
        · have HR := Lib.hid (hTl.2 hlt)
          clear hTl
          go_quiet ((go_at_call 71; exact quiet_cmpC (hcm _)))
          have S2 := HQ.out.2.2.drewN nq
          generalize wr.drewN nq = w2 at S2 ⊢
          go_wp2_with fail
          cases gk with
          | zero => omega
          | succ M =>
            go_roundg M
            case measure => omega
            case rel => exact ⟨p + 1, r, by omega, by omega, by omega, by have := HP.out; omega, by go_num, rfl, Lib.hid ⟨.inr (by rw [Nat.add_sub_cancel, show N1 + 1 - (p + 1) = N1 - p from by omega]; exact HR.out), HQ.out.2.1, S2⟩⟩
      · obtain rfl : s = r := by omega
        have qz : ¬ (s : Int) < (s : Int) := by omega
        obtain ⟨e, he⟩ : ∃ e : Nat, e + s = N1 + 1 := ⟨N1 + 1 - s, by omega⟩
        have HE3 : Hid ((N1 : Int) + 1 - (s : Int) = (e : Int)) := Lib.hid (by omega)
        have e1 : m ≤ e := by omega
        have e2 : e ≤ b := by omega
        have e3 : s ≤ mid := by omega
        have e4 : mid ≤ e := by omega
        have hms : mid = s + (e - m) := by omega
        have hF : Found R a m b s e f := by
          have hK := HK.out
          refine Found.mk' (s0 := s0) (r0 := r0) HT.out H.out.2.2.2.1 H.out.2.2.2.2.1 (by omega) (by omega) e1 e2 ?_ ?_ ?_ ?_
          · rcases hK.1 with h | h
            · exact .inl h
            · exact .inr fun h' => by omega
          · rcases hK.2 with h | h
            · exact .inl h
            · exact .inr fun h' => by omega
          · rcases HQ.out.1 with h | h
            · exact .inl h
            · rw [show N1 + 1 - s = e from by omega] at h; exact .inr h
          · rcases HQ.out.2.1 with h | h
            · exact .inl h
            · rw [show N1 - s = e - 1 from by omega] at h; exact .inr h
        have hparts := rot_parts H.out.2.2.2.1 H.out.2.2.2.2.1 (by omega) (by omega) e1 e2 hms hF
        have hsm : s ≤ m := by omega
        obtain ⟨P1, P2, P3, P4, P5, P6, P7, P8, P9⟩ := hparts
        have hok := ok_rot H.out.2.2.1 hsm e1 (show e ≤ n by omega)
        have REC1 : ∀ (c2 : List (Nat × Obj)) (wx : World), RowSC g cap n (rot s m e f) c2 → St B w0 wx (c2 :: F) → a < s → s < mid →
            Calls Try.prog 92 #[.slice (some ⟨g, 0, none⟩) n cap, .int .i64 (a : Int), .int .i64 (s : Int), .int .i64 (mid : Int), .func (.func 71) #[] #[]] wx (TOutC R g cap n a mid (rot s m e f) F B w0) := by
          intro c2 wx g1 g2 qa qb
          refine HIH.out a s mid (rot s m e f) c2 wx (by omega) ⟨g1, g2, hok, P1, P2, ?_⟩ qa qb (by omega)
          intro p q hp hps hq hqm
          rw [P6 p hp hps, P8 q hq hqm]
          exact H.out.2.2.2.2.2 p (q + (m - s)) hp (by omega) (by omega) (by omega)
        have REC2 : ∀ (f1 : Nat → Nat) (c3 : List (Nat × Obj)) (wx : World), Pm a mid (rot s m e f) f1 → RowSC g cap n f1 c3 → St B w0 wx (c3 :: F) → mid < e → e < b →
            Calls Try.prog 92 #[.slice (some ⟨g, 0, none⟩) n cap, .int .i64 (mid : Int), .int .i64 (e : Int), .int .i64 (b : Int), .func (.func 71) #[] #[]] wx (TOutC R g cap n mid b f1 F B w0) := by
          intro f1 c3 wx g0 g1 g2 qa qb
          refine HIH.out mid e b f1 c3 wx (by omega) ⟨g1, g2, ok_pm hok g0 (by omega), P3.congr (fun k h _ => g0.1 k (by omega)), P4.congr (fun k h _ => g0.1 k (by omega)), ?_⟩ qa qb h3
          intro p q hp hps hq hqm
          rw [g0.1 p (by omega), g0.1 q (by omega), P9 p hp hps, P7 q hq]
          exact H.out.2.2.2.2.2 (p - (e - m)) q (by omega) (by omega) (by omega) hqm
        have NO1 : ¬ (a < s ∧ s < mid) → Srt R a mid (rot s m e f) := by
          intro h
          by_cases c : a < s
          · rw [show mid = s from by omega]; exact P1
          · rw [show a = s from by omega]; exact P2
        have NO2 : ∀ (f1 : Nat → Nat), Pm a mid (rot s m e f) f1 → ¬ (mid < e ∧ e < b) → Srt R mid b f1 := by
          intro f1 g0 h
          by_cases c : mid < e
          · rw [show b = e from by omega]; exact P3.congr (fun k h _ => g0.1 k (by omega))
          · rw [show mid = e from by omega]; exact P4.congr (fun k h _ => g0.1 k (by omega))
        have LAST : ∀ (f1 f2 : Nat → Nat) (c4 : List (Nat × Obj)) (wx : World), Pm a mid (rot s m e f) f1 → Srt R a mid f1 → Pm mid b f1 f2 → Srt R mid b f2 → RowSC g cap n f2 c4 → St B w0 wx (c4 :: F) → TOutC R g cap n a b f F B w0 (.returned (.tuple #[])) wx := by
          intro f1 f2 c4 wx g1 g2 p1 p2 p3 p4
          have t1 : Pm a b f (rot s m e f) := (Pm.rot f hsm e1).mono (by omega) (by omega) e2
          have t2 : Pm a b f f2 := (t1.trans (g1.mono (Nat.le_refl _) (by omega) (by omega))).trans (p1.mono (by omega) (by omega) (Nat.le_refl _))
          exact ⟨rfl, f2, c4, t2, srt_join g1 p1 (by omega) (by omega) g2 p2 P5, p3, p4⟩
        have HL := Lib.hid (And.intro REC1 (And.intro REC2 (And.intro NO1 (And.intro NO2 LAST))))
        have HMS := Lib.hid hms
        have hE3 := HE3.out
        clear j4 hF he hms hok REC1 REC2 NO1 NO2 LAST P1 P2 P3 P4 P5 P6 P7 P8 P9
        by_cases qa : s < m
        · by_cases qb : m < e
          · -- turned
            have qa1 : (s : Int) < (m : Int) := by omega
            have qb1 : (m : Int) < (e : Int) := by omega
            have qc1 : (s : Int) < (mid : Int) := by have := HMS.out; omega
            have qd1 : (mid : Int) < (e : Int) := by have := HMS.out; omega
            go_wp2_with fail
            refine (rotC_any s m e _ H.out.1 HQ.out.2.2 qa qb (by omega) hn).mono ?_
            rintro e' w2 ⟨rfl, c2, hr2, hS2⟩
            have H2 := Lib.hid (And.intro hr2 hS2)
            clear hr2 hS2
            by_cases qe : a < s
            · have qe1 : (a : Int) < (s : Int) := by omega
              go_wp2_with fail
              refine (HL.out.1 c2 w2 H2.out.1 H2.out.2 qe (by omega)).mono ?_
              rintro e' w3 ⟨rfl, f1, c3, p1, p2, p3, p4⟩
              have H3 := Lib.hid (And.intro p1 (And.intro p2 (And.intro p3 p4)))
              clear p1 p2 p3 p4
              by_cases qf : e < b
              · have qf1 : (e : Int) < (b : Int) := by omega
                go_wp2_with fail
                refine (HL.out.2.1 f1 c3 w3 H3.out.1 H3.out.2.2.1 H3.out.2.2.2 (by omega) qf).mono ?_
                rintro e' w4 ⟨rfl, f2, c4, p1, p2, p3, p4⟩
                go_wp2_with fail
                go_end0
                exact HL.out.2.2.2.2 f1 f2 c4 _ H3.out.1 H3.out.2.1 p1 p2 p3 p4
              · have qf1 : ¬ (e : Int) < (b : Int) := by omega
                go_wp2_with fail
                go_end0
                exact HL.out.2.2.2.2 f1 f1 c3 _ H3.out.1 H3.out.2.1 (Pm.refl _ _ _) (HL.out.2.2.2.1 f1 H3.out.1 (by omega)) H3.out.2.2.1 H3.out.2.2.2
            · have qe1 : ¬ (a : Int) < (s : Int) := by omega
              by_cases qf : e < b
              · have qf1 : (e : Int) < (b : Int) := by omega
                go_wp2_with fail
                refine (HL.out.2.1 (rot s m e f) c2 w2 (Pm.refl _ _ _) H2.out.1 H2.out.2 (by omega) qf).mono ?_
                rintro e' w4 ⟨rfl, f2, c4, p1, p2, p3, p4⟩
                go_wp2_with fail
                go_end0
                exact HL.out.2.2.2.2 _ f2 c4 _ (Pm.refl _ _ _) (HL.out.2.2.1 (by omega)) p1 p2 p3 p4
              · have qf1 : ¬ (e : Int) < (b : Int) := by omega
                go_wp2_with fail
                go_end0
                exact HL.out.2.2.2.2 _ _ c2 _ (Pm.refl _ _ _) (HL.out.2.2.1 (by omega)) (Pm.refl _ _ _) (HL.out.2.2.2.1 _ (Pm.refl _ _ _) (by omega)) H2.out.1 H2.out.2
          · -- nothing to turn: the first half is as it was
            have hem : e = m := by omega
            have hid := rot_idle f (s := s) (m := m) (e := e) (.inr hem.symm)
            have HID := Lib.hid hid
            have hsmid : s = mid := by have := HMS.out; omega
            have HSM := Lib.hid hsmid
            have qa1 : (s : Int) < (m : Int) := by omega
            have qb1 : ¬ (m : Int) < (e : Int) := by omega
            have qc1 : (a : Int) < (s : Int) := by omega
            have qd1 : ¬ (s : Int) < (mid : Int) := by omega
            have qe1 : (mid : Int) < (e : Int) := by omega
            have qf1 : (e : Int) < (b : Int) := by omega
            clear hem hid hsmid
            go_wp2_with fail
            refine (HL.out.2.1 (rot s m e f) c _ (Pm.refl _ _ _) (by rw [HID.out]; exact H.out.1) HQ.out.2.2 (by omega) (by omega)).mono ?_
            rintro e' w4 ⟨rfl, f2, c4, p1, p2, p3, p4⟩
            go_wp2_with fail
            go_end0
            exact HL.out.2.2.2.2 _ f2 c4 _ (Pm.refl _ _ _) (HL.out.2.2.1 (by omega)) p1 p2 p3 p4
        · have hsm2 : s = m := by omega
          have HID := Lib.hid (rot_idle f (s := s) (m := m) (e := e) (.inl hsm2))
          have hemid : e = mid := by have := HMS.out; omega
          have qa1 : ¬ (s : Int) < (m : Int) := by omega
          have qc1 : (a : Int) < (s : Int) := by omega
          have qe1 : ¬ (mid : Int) < (e : Int) := by omega
          clear hsm2 hemid
          by_cases qg : s < mid
          · have qg1 : (s : Int) < (mid : Int) := by omega
            go_wp2_with fail
            refine (HL.out.1 c _ (by rw [HID.out]; exact H.out.1) HQ.out.2.2 (by omega) qg).mono ?_
            rintro e' w3 ⟨rfl, f1, c3, p1, p2, p3, p4⟩
            go_wp2_with fail
            go_end0
            exact HL.out.2.2.2.2 f1 f1 c3 _ p1 p2 (Pm.refl _ _ _) (HL.out.2.2.2.1 f1 p1 (by omega)) p3 p4
          · have qg1 : ¬ (s : Int) < (mid : Int) := by omega
            go_wp2_with fail
            go_end0
            exact HL.out.2.2.2.2 _ _ c _ (Pm.refl _ _ _) (HL.out.2.2.1 (by omega)) (Pm.refl _ _ _) (HL.out.2.2.2.1 _ (Pm.refl _ _ _) (by omega)) (by rw [HID.out]; exact H.out.1) HQ.out.2.2
end
end Go.Proofs.Ythgbkncanoknkaa
/-
  Stable sorting in place, plain: blocks that are in order, and their merging two by two.
-/
set_option linter.unusedVariables false
set_option linter.unusedSimpArgs false
namespace Go.Proofs.Ythgbkncanoknkaa
/-- Ahead of a place blocks of twenty are in order, behind it all is as it was. -/
structure InsB (R : Nat → Nat → Prop) (n : Nat) (f0 : Nat → Nat) (a : Nat) (f : Nat → Nat) : Prop where
  mem : ∀ i, i < n → ∃ j, j < n ∧ f i = f0 j ∧ ((i < a ∧ j / 20 = i / 20) ∨ (a ≤ i ∧ j = i))
  srt : ∀ p q, p < q → q < n → q < a → p / 20 = q / 20 → R (f p) (f q)
  pm : Pm 0 n f0 f
/-- Ahead of a place double blocks are in order, behind it blocks. -/
structure MrgB (R : Nat → Nat → Prop) (n : Nat) (f0 : Nat → Nat) (bs a : Nat) (f : Nat → Nat) : Prop where
  mem : ∀ i, i < n → ∃ j, j < n ∧ f i = f0 j ∧ ((i < a ∧ j / (2 * bs) = i / (2 * bs)) ∨ (a ≤ i ∧ j / bs = i / bs))
  srt : ∀ p q, p < q → q < n → (q < a → p / (2 * bs) = q / (2 * bs) → R (f p) (f q)) ∧ (a ≤ p → p / bs = q / bs → R (f p) (f q))
  pm : Pm 0 n f0 f
theorem InsB.init (R : Nat → Nat → Prop) (n : Nat) (f0 : Nat → Nat) : InsB R n f0 0 f0 :=
  ⟨fun i hi => ⟨i, hi, rfl, .inr ⟨Nat.zero_le _, rfl⟩⟩, fun p q _ _ h => by omega, Pm.refl _ _ _⟩
theorem InsB.tell {R : Nat → Nat → Prop} {cf : Nat → Nat → Int} {n a : Nat} {f0 f : Nat → Nat} (h : InsB R n f0 a f) (h0 : ∀ p q, p < q → q < n → Tell R cf (f0 p) (f0 q)) : ∀ p q, a ≤ p → p < q → q < n → Tell R cf (f p) (f q) := by
  intro p q hp hpq hq
  obtain ⟨j, _, e, c⟩ := h.mem p (by omega)
  obtain ⟨k, _, e', c'⟩ := h.mem q hq
  rw [e, e']
  exact h0 j k (by omega) (by omega)
theorem InsB.step {R : Nat → Nat → Prop} {n a b : Nat} {f0 f f' : Nat → Nat} (h : InsB R n f0 a f) (ha : a % 20 = 0) (hab : a ≤ b) (hb : b ≤ a + 20) (hbn : b ≤ n) (hp : Pm a b f f') (hs : Srt R a b f') (he : b = a + 20 ∨ b = n) : InsB R n f0 (a + 20) f' := by
  refine ⟨fun i hi => ?_, fun p q hpq hq hqa hd => ?_, h.pm.trans (hp.mono (Nat.zero_le _) hab hbn)⟩
  · by_cases c : a ≤ i ∧ i < b
    · obtain ⟨i', h1, h2, e⟩ := hp.mem c.1 c.2
      obtain ⟨j, hj, e2, c2⟩ := h.mem i' (by omega)
      exact ⟨j, hj, e.trans e2, .inl ⟨by omega, by omega⟩⟩
    · obtain ⟨j, hj, e2, c2⟩ := h.mem i hi
      refine ⟨j, hj, by rw [hp.1 i (by omega)]; exact e2, ?_⟩
      omega
  · by_cases c : q < a
    · rw [hp.1 p (by omega), hp.1 q (by omega)]
      exact h.srt p q hpq hq c hd
    · exact hs p q (by omega) hpq (by omega)
theorem InsB.mrg {R : Nat → Nat → Prop} {n a : Nat} {f0 f : Nat → Nat} (h : InsB R n f0 a f) (ha : n ≤ a) : MrgB R n f0 20 0 f := by
  refine ⟨fun i hi => ?_, fun p q hpq hq => ⟨fun h' => by omega, fun _ hd => h.srt p q hpq hq (by omega) hd⟩, h.pm⟩
  obtain ⟨j, hj, e, c⟩ := h.mem i hi
  exact ⟨j, hj, e, .inr ⟨Nat.zero_le _, by omega⟩⟩
def sizes (bs : Nat) : Prop := bs = 20 ∨ bs = 40 ∨ bs = 80 ∨ bs = 160
section
variable {R : Nat → Nat → Prop} {cf : Nat → Nat → Int} {n bs a b : Nat} {f0 f f' : Nat → Nat}
theorem MrgB.srtL (h : MrgB R n f0 bs a f) (hb : sizes bs) (ha : a % (2 * bs) = 0) (hn : a + bs ≤ n) : Srt R a (a + bs) f := by
  intro p q hp hpq hq
  refine (h.srt p q hpq (by omega)).2 hp ?_
  rcases hb with rfl | rfl | rfl | rfl <;> omega
theorem MrgB.srtR (h : MrgB R n f0 bs a f) (hb : sizes bs) (ha : a % (2 * bs) = 0) (hbn : b ≤ n) (hb2 : b ≤ a + 2 * bs) : Srt R (a + bs) b f := by
  intro p q hp hpq hq
  refine (h.srt p q hpq (by omega)).2 (by omega) ?_
  rcases hb with rfl | rfl | rfl | rfl <;> omega
theorem MrgB.tell (h : MrgB R n f0 bs a f) (hb : sizes bs) (ha : a % (2 * bs) = 0) (h0 : ∀ p q, p < q → q < n → Tell R cf (f0 p) (f0 q)) : ∀ p q, a ≤ p → p < a + bs → a + bs ≤ q → q < n → Tell R cf (f p) (f q) := by
  intro p q hp hpb hq hqn
  obtain ⟨j, _, e, c⟩ := h.mem p (by omega)
  obtain ⟨k, hk, e', c'⟩ := h.mem q hqn
  rw [e, e']
  refine h0 j k ?_ hk
  rcases hb with rfl | rfl | rfl | rfl <;> omega
theorem MrgB.step (h : MrgB R n f0 bs a f) (hb : sizes bs) (ha : a % (2 * bs) = 0) (hab : a ≤ b) (hb2 : b ≤ a + 2 * bs) (hbn : b ≤ n) (hp : Pm a b f f') (hs : Srt R a b f') (he : b = a + 2 * bs ∨ b = n) : MrgB R n f0 bs (a + 2 * bs) f' := by
  refine ⟨fun i hi => ?_, fun p q hpq hq => ⟨fun hqa hd => ?_, fun hpa hd => ?_⟩, h.pm.trans (hp.mono (Nat.zero_le _) hab hbn)⟩
  · by_cases c : a ≤ i ∧ i < b
    · obtain ⟨i', h1, h2, e⟩ := hp.mem c.1 c.2
      obtain ⟨j, hj, e2, c2⟩ := h.mem i' (by omega)
      refine ⟨j, hj, e.trans e2, .inl ⟨by omega, ?_⟩⟩
      rcases hb with rfl | rfl | rfl | rfl <;> omega
    · obtain ⟨j, hj, e2, c2⟩ := h.mem i hi
      refine ⟨j, hj, by rw [hp.1 i (by omega)]; exact e2, ?_⟩
      rcases hb with rfl | rfl | rfl | rfl <;> omega
  · by_cases c : q < a
    · rw [hp.1 p (by omega), hp.1 q (by omega)]
      exact (h.srt p q hpq hq).1 c hd
    · refine hs p q ?_ hpq (by omega)
      rcases hb with rfl | rfl | rfl | rfl <;> omega
  · rw [hp.1 p (by omega), hp.1 q (by omega)]
    exact (h.srt p q hpq hq).2 (by omega) hd
theorem MrgB.skip (h : MrgB R n f0 bs a f) (hb : sizes bs) (ha : a % (2 * bs) = 0) (hn : n ≤ a + bs) : MrgB R n f0 bs (a + 2 * bs) f := by
  refine ⟨fun i hi => ?_, fun p q hpq hq => ⟨fun hqa hd => ?_, fun hpa hd => ?_⟩, h.pm⟩
  · obtain ⟨j, hj, e2, c2⟩ := h.mem i hi
    refine ⟨j, hj, e2, .inl ⟨by omega, ?_⟩⟩
    rcases hb with rfl | rfl | rfl | rfl <;> omega
  · by_cases c : q < a
    · exact (h.srt p q hpq hq).1 c hd
    · refine (h.srt p q hpq hq).2 ?_ ?_
      · rcases hb with rfl | rfl | rfl | rfl <;> omega
      · rcases hb with rfl | rfl | rfl | rfl <;> omega
  · omega
theorem MrgB.next (h : MrgB R n f0 bs a f) (hn : n ≤ a) : MrgB R n f0 (2 * bs) 0 f := by
  refine ⟨fun i hi => ?_, fun p q hpq hq => ⟨fun h' => by omega, fun _ hd => (h.srt p q hpq hq).1 (by omega) hd⟩, h.pm⟩
  obtain ⟨j, hj, e, c⟩ := h.mem i hi
  exact ⟨j, hj, e, .inr ⟨Nat.zero_le _, by omega⟩⟩
theorem MrgB.done (h : MrgB R n f0 bs 0 f) (hn : n ≤ bs) : Srt R 0 n f := by
  intro p q _ hpq hq
  refine (h.srt p q hpq hq).2 (Nat.zero_le _) ?_
  rw [Nat.div_eq_of_lt (by omega), Nat.div_eq_of_lt (by omega)]
theorem MrgB.ok {Ok : Nat → Prop} (h : MrgB R n f0 bs a f) (h0 : ∀ k, k < n → Ok (f0 k)) : ∀ k, k < n → Ok (f k) := by
  intro k hk
  obtain ⟨j, hj, e, _⟩ := h.mem k hk
  rw [e]; exact h0 j hj
theorem InsB.ok {Ok : Nat → Prop} (h : InsB R n f0 a f) (h0 : ∀ k, k < n → Ok (f0 k)) : ∀ k, k < n → Ok (f k) := by
  intro k hk
  obtain ⟨j, hj, e, _⟩ := h.mem k hk
  rw [e]; exact h0 j hj
end
end Go.Proofs.Ythgbkncanoknkaa

/-
  The order of uses, in plain Lean.
-/
import Derived.Test.YtdhnmcdgiddhdabChOrd
set_option linter.unusedVariables false
set_option linter.unusedSimpArgs false
namespace Go.Proofs.Ytdhnmcdgiddhdab
open Go.RowKit Ieee
/-- Is a float greater than nought? -/
def posN (x : Nat) : Bool := double.order x 0 == some .gt
theorem posN_spec {x : Nat} (hx : x < 18446744073709551616) (h : posN x = true) : nanB x = false ∧ fkey x = (x : Int) ∧ 0 < x := by
  cases hn : nanB x with
  | true => unfold posN at h; rw [order_nan_left x 0 hn] at h; cases h
  | false =>
    unfold posN at h
    rw [order_eq x 0 hn (by decide)] at h
    have e0 : skey 0 = 0 := by decide
    rw [e0] at h
    have hgt : 0 < skey x := by
      have h2 : compare (skey x) 0 = .gt := by simpa using h
      exact Int.compare_eq_gt.1 h2
    rw [skey_of x hx] at hgt
    unfold fkey
    by_cases q : x < 9223372036854775808
    · rw [if_pos q] at hgt ⊢
      exact ⟨rfl, rfl, by omega⟩
    · rw [if_neg q] at hgt
      omega
theorem posN_nan {x : Nat} (h : nanB x = true) : posN x = false := by
  unfold posN
  rw [order_nan_left x 0 h]
  rfl
theorem less_pos {x y : Nat} (hx : x < 18446744073709551616) (hy : y < 18446744073709551616) (h1 : posN x = true) (h2 : posN y = true) : lessP x y = decide (x < y) := by
  obtain ⟨a1, a2, a3⟩ := posN_spec hx h1
  obtain ⟨b1, b2, b3⟩ := posN_spec hy h2
  unfold lessP
  rw [a1, b1, a2, b2]
  simp
def posO : Option Nat → Option Nat
  | some r => if posN r then some r else none
  | none => none
theorem posO_is {o : Option Nat} {x : Nat} (h : IsF o x) : (posO o).isSome = posN x ∧ (posN x = true → (posO o).getD 0 = x) := by
  cases o with
  | none =>
    have := posN_nan h.2
    rw [this]
    exact ⟨rfl, fun e => by cases e⟩
  | some r =>
    obtain ⟨_, rfl⟩ := h
    show (if posN x then some x else none).isSome = posN x ∧ (posN x = true → (if posN x then some x else none).getD 0 = x)
    cases hp : posN x
    · exact ⟨rfl, fun e => by cases e⟩
    · exact ⟨rfl, fun _ => rfl⟩
def gU (W : Nat) (u : UseP) : Option Nat := posO (gainP u.dead u.all u.age W)
def okU (W : Nat) (us : List UseP) (i : Nat) : Bool := match us[i]? with
  | some u => (gU W u).isSome
  | none => false
def rU (W : Nat) (us : List UseP) (i : Nat) : Nat := match us[i]? with
  | some u => (gU W u).getD 0
  | none => 0
def numU (us : List UseP) (i : Nat) : Int := match us[i]? with
  | some u => u.num
  | none => 0
theorem SpecC.congr {ok ok' : Nat → Bool} {r r' : Nat → Nat} {num num' : Nat → Int} {n : Nat} {js : List Nat} (h : SpecC ok r num n js) (h1 : ∀ i, i < n → ok i = ok' i) (h2 : ∀ i, i < n → ok i = true → r i = r' i ∧ num i = num' i) : SpecC ok' r' num' n js := by
  have e : (List.range n).filter ok = (List.range n).filter ok' := by
    apply List.filter_congr
    intro i hi
    exact h1 i (List.mem_range.1 hi)
  refine ⟨by rw [← e]; exact h.1, ?_⟩
  refine List.Pairwise.imp_of_mem ?_ h.2
  intro a b ha hb hab
  obtain ⟨a1, a2⟩ := h.mem ha
  obtain ⟨b1, b2⟩ := h.mem hb
  obtain ⟨c1, c2⟩ := h2 a a1 a2
  obtain ⟨d1, d2⟩ := h2 b b1 b2
  unfold befC at *
  omega
/-- The places of those that gain something. -/
def okX (xs : List Nat) (i : Nat) : Bool := posN (xs.getD i 0)
theorem spec_gains {W : Nat} {us : List UseP} {xs : List Nat} (hg : GainsP W us xs) {js : List Nat} (h : SpecC (okX xs) (fun i => xs.getD i 0) (numU us) us.length js) : SpecC (okU W us) (rU W us) (numU us) us.length js := by
  have key : ∀ i, i < us.length → ∃ u x, us[i]? = some u ∧ xs.getD i 0 = x ∧ IsF (gainP u.dead u.all u.age W) x := by
    intro i hi
    obtain ⟨u, hu⟩ : ∃ u, us[i]? = some u := ⟨_, List.getElem?_eq_getElem hi⟩
    obtain ⟨x, hx⟩ : ∃ x, xs[i]? = some x := ⟨_, List.getElem?_eq_getElem (by rw [hg.1]; exact hi)⟩
    exact ⟨u, x, hu, by rw [List.getD_eq_getElem?_getD, hx]; rfl, hg.2 i u x hu hx⟩
  refine h.congr (fun i hi => ?_) (fun i hi hok => ?_)
  · obtain ⟨u, x, hu, hx, hf⟩ := key i hi
    unfold okX okU gU
    rw [hx, hu]
    exact (posO_is hf).1.symm
  · obtain ⟨u, x, hu, hx, hf⟩ := key i hi
    unfold okX at hok
    rw [hx] at hok
    refine ⟨?_, rfl⟩
    unfold rU gU
    simp only [hx, hu]
    exact ((posO_is hf).2 hok).symm
/-- What the comparison tells of two that gain something. -/
theorem tell_ord {us : List UseP} {xs : List Nat} (hl : ∀ x ∈ xs, x < 18446744073709551616) (hlen : xs.length = us.length) {a b : Nat} (hab : a < b) (hb : b < us.length) (h1 : okX xs a = true) (h2 : okX xs b = true) : Tell (befC (fun i => xs.getD i 0) (numU us)) (cfO xs us) a b := by
  obtain ⟨x, hx⟩ : ∃ x, xs[a]? = some x := ⟨_, List.getElem?_eq_getElem (by omega)⟩
  obtain ⟨y, hy⟩ : ∃ y, xs[b]? = some y := ⟨_, List.getElem?_eq_getElem (by omega)⟩
  obtain ⟨u, hu⟩ : ∃ u, us[a]? = some u := ⟨_, List.getElem?_eq_getElem (by omega)⟩
  obtain ⟨v, hv⟩ : ∃ v, us[b]? = some v := ⟨_, List.getElem?_eq_getElem (by omega)⟩
  have ex : xs.getD a 0 = x := by rw [List.getD_eq_getElem?_getD, hx]; rfl
  have ey : xs.getD b 0 = y := by rw [List.getD_eq_getElem?_getD, hy]; rfl
  unfold okX at h1 h2
  rw [ex] at h1
  rw [ey] at h2
  have hx64 := hl x (List.mem_of_getElem? hx)
  have hy64 := hl y (List.mem_of_getElem? hy)
  have hc : cfO xs us b a = if x < y then -1 else if y < x then 1 else cmpZ v.num u.num := by
    unfold cfO
    rw [ex, ey, hu, hv, less_pos hx64 hy64 h1 h2, less_pos hy64 hx64 h2 h1]
    simp
  have na : numU us a = u.num := by unfold numU; rw [hu]
  have nb : numU us b = v.num := by unfold numU; rw [hv]
  unfold Tell befC
  rw [hc]
  simp only [ex, ey, na, nb]
  unfold cmpZ
  refine ⟨fun h => ?_, fun h => ?_⟩
  · split at h
    · omega
    · split at h
      · omega
      · split at h
        · omega
        · split at h <;> omega
  · split at h
    · omega
    · split at h
      · omega
      · split at h
        · omega
        · split at h <;> omega
theorem sorted_ord {us : List UseP} {xs : List Nat} {ix : List Nat} {f' : Nat → Nat} (hix : ix = (List.range us.length).filter (okX xs)) (h1 : Pm 0 ix.length (fun k => ix.getD k 0) f') (h2 : Srt (befC (fun i => xs.getD i 0) (numU us)) 0 ix.length f') :
    SpecC (okX xs) (fun i => xs.getD i 0) (numU us) us.length ((List.range ix.length).map f') := by
  refine ⟨?_, ?_⟩
  · have hp := h1.2
    rw [Nat.sub_zero, ← List.range_eq_range'] at hp
    refine hp.trans ?_
    have e : (List.range ix.length).map (fun k => ix.getD k 0) = ix := by
      apply List.ext_getElem?
      intro i
      rw [List.getElem?_map]
      by_cases hi : i < ix.length
      · rw [List.getElem?_range hi, List.getElem?_eq_getElem hi]
        simp [List.getD_eq_getElem?_getD, hi]
      · rw [List.getElem?_eq_none (by simpa using hi), List.getElem?_eq_none (by omega)]
        rfl
    rw [e, ← hix]
  · rw [List.pairwise_map]
    rw [List.pairwise_iff_getElem]
    intro i j hi hj hij
    simp only [List.length_range] at hi hj
    simp only [List.getElem_range]
    exact h2 i j (Nat.zero_le _) hij hj
end Go.Proofs.Ytdhnmcdgiddhdab

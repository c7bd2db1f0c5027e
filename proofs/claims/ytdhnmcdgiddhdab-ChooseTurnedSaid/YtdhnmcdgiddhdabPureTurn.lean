/-
  Uses told in another order.
-/
import Derived.Test.YtdhnmcdgiddhdabPureOrd
set_option linter.unusedVariables false
set_option linter.unusedSimpArgs false
namespace Go.Proofs.Ytdhnmcdgiddhdab
open Go.RowKit
theorem pairs_take (W : Nat) (us : List UseP) : ∀ k, k ≤ us.length → ((List.range k).filter (okU W us)).map (fun i => (rU W us i, numU us i)) = (us.take k).filterMap fun u => (gU W u).map fun r => (r, u.num)
  | 0, _ => by simp
  | k + 1, h => by
    have ih := pairs_take W us k (by omega)
    obtain ⟨u, hu⟩ : ∃ u, us[k]? = some u := ⟨_, List.getElem?_eq_getElem (by omega)⟩
    rw [List.range_succ, List.filter_append, List.map_append, ih, List.take_add_one, hu, List.filterMap_append]
    congr 1
    have e1 : okU W us k = (gU W u).isSome := by unfold okU; rw [hu]
    have e2 : rU W us k = (gU W u).getD 0 := by unfold rU; rw [hu]
    have e3 : numU us k = u.num := by unfold numU; rw [hu]
    cases hg : gU W u with
    | none => rw [hg] at e1; simp [e1, hg]
    | some r => rw [hg] at e1 e2; simp [e1, hg, e2, e3]
theorem pairs_all (W : Nat) (us : List UseP) : ((List.range us.length).filter (okU W us)).map (fun i => (rU W us i, numU us i)) = us.filterMap fun u => (gU W u).map fun r => (r, u.num) := by
  have := pairs_take W us us.length (Nat.le_refl _)
  rwa [List.take_length] at this
/-- Numbered anew. -/
def reN (i : Nat) (u : UseP) : UseP := ⟨(i : Int) + 1, u.dead, u.all, u.age⟩
def mT (os : List UseP) (i : Nat) : List UseP := (os.take i).mapIdx reN
theorem mT_length (os : List UseP) (i : Nat) (h : i ≤ os.length) : (mT os i).length = i := by simp [mT]; omega
theorem mT_succ {os : List UseP} {i : Nat} {u : UseP} (h : os[i]? = some u) : mT os (i + 1) = mT os i ++ [reN i u] := by
  have hi := (List.getElem?_eq_some_iff.1 h).1
  unfold mT
  rw [List.take_add_one, h, Option.toList_some, List.mapIdx_append]
  have e : (os.take i).length = i := by rw [List.length_take]; omega
  simp [e]
theorem mT_get {os : List UseP} {k i : Nat} (hi : i < k) (hk : k ≤ os.length) : ∃ u, os[i]? = some u ∧ (mT os k)[i]? = some (reN i u) := by
  obtain ⟨u, hu⟩ : ∃ u, os[i]? = some u := ⟨_, List.getElem?_eq_getElem (by omega)⟩
  refine ⟨u, hu, ?_⟩
  unfold mT
  rw [List.getElem?_mapIdx, List.getElem?_take, if_pos hi, hu]
  rfl
theorem mT_num {os : List UseP} {k i : Nat} (hi : i < k) (hk : k ≤ os.length) : numU (mT os k) i = (i : Int) + 1 := by
  obtain ⟨u, _, h⟩ := mT_get hi hk
  unfold numU
  rw [h]
  rfl
theorem mT_age {os : List UseP} {k : Nat} (h : ∀ o ∈ os, o.age < 18446744073709551616) : ∀ o ∈ mT os k, o.age < 18446744073709551616 := by
  intro o ho
  unfold mT at ho
  obtain ⟨i, hi, rfl⟩ := List.mem_mapIdx.1 ho
  exact h (os.take k)[i] (List.mem_of_mem_take (List.getElem_mem hi))
/-- The order does not know who was told first. -/
theorem turned {W : Nat} {os : List UseP} {n k : Nat} (hn : n ≤ os.length) {js js' : List Nat} (h : SpecC (okU W (mT os n)) (rU W (mT os n)) (numU (mT os n)) (mT os n).length js)
    (h' : SpecC (okU W ((mT os n).drop k ++ (mT os n).take k)) (rU W ((mT os n).drop k ++ (mT os n).take k)) (numU ((mT os n).drop k ++ (mT os n).take k)) ((mT os n).drop k ++ (mT os n).take k).length js') :
    js.map (numU (mT os n)) = js'.map (numU ((mT os n).drop k ++ (mT os n).take k)) := by
  refine SpecC.same h h' ?_ ?_
  · rw [pairs_all, pairs_all]
    refine List.Perm.filterMap _ ?_
    refine List.Perm.trans ?_ List.perm_append_comm
    rw [List.take_append_drop]
  · rw [List.Nodup, List.pairwise_map]
    have hp : ((List.range (mT os n).length).filter (okU W (mT os n))).Pairwise (· < ·) := List.Pairwise.filter _ List.pairwise_lt_range
    refine List.Pairwise.imp_of_mem ?_ hp
    intro a b ha hb hab
    have ha1 := List.mem_range.1 (List.mem_filter.1 ha).1
    have hb1 := List.mem_range.1 (List.mem_filter.1 hb).1
    rw [mT_length os n hn] at ha1 hb1
    rw [mT_num ha1 hn, mT_num hb1 hn]
    omega
end Go.Proofs.Ytdhnmcdgiddhdab

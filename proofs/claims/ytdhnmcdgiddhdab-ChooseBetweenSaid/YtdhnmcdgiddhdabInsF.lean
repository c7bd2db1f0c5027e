/-
  slices.Insert of one float.
-/
import Derived.Test.YtdhnmcdgiddhdabCopy
import Derived.Test.YtdhnmcdgiddhdabScoreG
import Derived.Test.YtdhnmcdgiddhdabMake
import Derived.BigRegion
import Derived.Lib.Overlaps
set_option linter.unusedVariables false
set_option linter.unusedSimpArgs false
namespace Go.Proofs.Ytdhnmcdgiddhdab
open Go.RowKit
set_option maxRecDepth 100000
theorem infoF : (Try.prog.info? 29).map (fun i => (i.zero, i.size, i.bytes)) = some (some (.float .f64 0), 1, 8) := by kernel_rfl
theorem fv_one (l : List Nat) : ∀ u ∈ fv l, u.oneCell' = true := by
  intro u hu
  obtain ⟨b, _, rfl⟩ := List.mem_map.1 hu
  rfl
theorem RowC.heapAt {T : TypeId} {g cap n : Nat} {xs : List Value} {c : HL} {B : Nat} {w0 w : World} {L : List HL} (h : RowC T 1 (.slice (some ⟨g, 0, none⟩) n cap) n xs c) (hS : St B w0 w L) (i : Nat) (hi : L[i]? = some c) : w.shape? g = some (T, cap) := by
  rcases h.2 with ⟨hv, _, _⟩ | ⟨g', cap', cur, hv, rfl, h1, h2, h3, h4⟩
  · simp at hv
  · simp only [Value.slice.injEq, Option.some.injEq, Addr.mk.injEq, and_true, true_and] at hv
    obtain ⟨rfl, rfl⟩ := hv
    have hg := (hS.own _ (List.mem_of_getElem? hi) (g, .cells cur T (0, 0)) (by simp)).1
    unfold World.shape?
    simp only at hg
    rw [hg]
    simp [h3]
theorem St.tl3 {B : Nat} {w0 w : World} {a b c : HL} {F : List HL} (h : St B w0 w (a :: b :: c :: F)) : St B w0 w (a :: F) := by
  refine h.reindex (fun i => if i = 0 then 0 else i + 2) (fun i j e => ?_) (a :: F) (fun i c hi => ?_)
  · by_cases h1 : i = 0 <;> by_cases h2 : j = 0 <;> simp [h1, h2] at e <;> omega
  · cases i with
    | zero => simpa using hi
    | succ i => simpa using hi
theorem ins_mid (xs ys : List Value) (k : Nat) (hk : k < xs.length) : ((xs ++ ys).drop k).take (xs.length - k) = xs.drop k := by
  rw [List.drop_append_of_le_length (by omega), List.take_append_of_le_length (by rw [List.length_drop]; exact Nat.le_refl _), List.take_of_length_le (by rw [List.length_drop]; exact Nat.le_refl _)]
theorem ins_list (xs ys : List Value) (u : Value) (k : Nat) (hk : k < xs.length) (hyl : ys.length = 1) : ((xs ++ ys).take (k + 1) ++ ((xs ++ ys).drop k).take (xs.length - k) ++ (xs ++ ys).drop (k + 1 + (xs.length - k))).take k ++ [u].take 1 ++ ((xs ++ ys).take (k + 1) ++ ((xs ++ ys).drop k).take (xs.length - k) ++ (xs ++ ys).drop (k + 1 + (xs.length - k))).drop (k + 1) = xs.take k ++ u :: xs.drop k := by
  have e1 : (xs ++ ys).take (k + 1) = xs.take (k + 1) := List.take_append_of_le_length (by omega)
  have e2 := ins_mid xs ys k hk
  have e3 : (xs ++ ys).drop (k + 1 + (xs.length - k)) = [] := List.drop_of_length_le (by simp [hyl]; omega)
  have e4 : (xs.take (k + 1)).length = k + 1 := by rw [List.length_take]; omega
  rw [e1, e2, e3, List.append_nil]
  rw [List.take_append_of_le_length (by omega), List.take_take, List.drop_append_of_le_length (by omega), List.drop_of_length_le (by omega), Nat.min_eq_left (by omega)]
  simp
def InsOut (xs : List Value) (k : Nat) (u : Value) (B : Nat) (w0 : World) (F : List HL) (e : Ending) (w' : World) : Prop :=
  ∃ v' c', e = .returned v' ∧ RowC 29 1 v' (xs.length + 1) (xs.take k ++ u :: xs.drop k) c' ∧ St B w0 w' (c' :: F)
section
variable {B : Nat} {w0 w : World} {F : List HL} {c cv : HL}
theorem insertf_end (s : Value) (xs : List Value) (u : Value) (gv cpv : Nat) (h1u : u.oneCell' = true) (hv : RowC 29 1 (.slice (some ⟨gv, 0, none⟩) 1 cpv) 1 [u] cv) (h : RowC 29 1 s xs.length xs c) (hS : St B w0 w (cv :: c :: F)) (hn : xs.length ≤ 1000000) :
    Calls Try.prog 31 #[s, .int .i64 (xs.length : Int), .slice (some ⟨gv, 0, none⟩) 1 cpv] w (InsOut xs xs.length u B w0 F) := by
  obtain ⟨i0, i0a, i0b, i0c, i0d⟩ := info_parts infoF
  obtain ⟨ao, cap, rfl⟩ := h.shape
  have hcp := h.cap
  obtain ⟨hc1, hc2⟩ := hcp
  have hrd := hv.rd hS 0 rfl
  go_enter Try.func31, Try.ntmps31
  go_wp2_with (at_builtin; (refine wpList_app 1 31 i0 (.float .f64 0) _ _ rfl rfl rfl rfl Try.underlying31 i0a i0b i0c i0d rfl (by decide) hS rfl h hrd (by intro z hz; simp at hz; subst hz; exact h1u) ?_ ?_ ?_); (unfold maxLen; omega); omega; intro v1 c1 w2 hr1 hS1)
  all_goals (
    go_ret
    exact ⟨v1, c1, rfl, by rw [List.take_length, List.drop_length]; exact hr1, hS1.tl⟩)
set_option maxHeartbeats 4000000 in
theorem insertf_room (g cap : Nat) (xs : List Value) (u : Value) (gv cpv k : Nat) (h1s : ∀ z ∈ xs, z.oneCell' = true) (h1u : u.oneCell' = true) (hv : RowC 29 1 (.slice (some ⟨gv, 0, none⟩) 1 cpv) 1 [u] cv) (h : RowC 29 1 (.slice (some ⟨g, 0, none⟩) xs.length cap) xs.length xs c) (hS : St B w0 w (cv :: c :: F)) (hn : xs.length ≤ 1000000) (hk : k < xs.length) (hroom : xs.length + 1 ≤ cap) :
    Calls Try.prog 31 #[.slice (some ⟨g, 0, none⟩) xs.length cap, .int .i64 (k : Int), .slice (some ⟨gv, 0, none⟩) 1 cpv] w (InsOut xs k u B w0 F) := by
  obtain ⟨hc1, hc2⟩ := h.cap
  obtain ⟨ys, hyl, hw⟩ := h.wide 1 hroom
  have hpv := hv.cap
  obtain ⟨i1, hi1, hz1, hs1, hb1⟩ := info_parts infoF
  have hne : gv ≠ g := by
    obtain ⟨g', cap', cur, e1, e2, _⟩ := hv.form (by omega)
    simp only [Value.slice.injEq, Option.some.injEq, Addr.mk.injEq, and_true, true_and] at e1
    obtain ⟨rfl, rfl⟩ := e1
    subst e2
    exact (h.apart hS 1 0 rfl rfl (by decide)).2
  have hov : ∀ lb cb, (callFunc 43 #[.slice (some ⟨gv, 0, none⟩) 1 cpv, .slice (some ⟨g, k + 1, none⟩) lb cb]).run Try.prog w = .ok (.value (.bool false)) w := fun lb cb => by
    rw [run_callFunc_extern Try.func43 (by kernel_rfl) (by kernel_rfl) (by kernel_rfl) (e := Extern.SlicesOverlaps.overlaps #[31, 31] #[4]) (by kernel_rfl),
      Lib.run_overlaps_apart w 31 4 29 Try.underlying31 1 (fun w => by simp [Go.sizeOf, typeInfo, hi1, hs1]) ⟨gv, 0, none⟩ ⟨g, k + 1, none⟩ 1 cpv lb cb hne 29 29 cpv cap (hv.heapAt hS 0 rfl) (h.heapAt hS 1 rfl) (by omega) (hv.freeAt hS 0 rfl 0) (hv.freeAt hS 0 rfl cpv)]
    rfl
  have hsz : (Try.prog.info? 29).map (·.size) = some 1 := by rw [hi1]; simp [hs1]
  have hki : (k : Int) < (xs.length : Int) := by omega
  have hkn : k ≤ xs.length := by omega
  have hwl : (xs ++ ys).length = xs.length + 1 := by simp [hyl]
  have hSd := hS.drew
  have hw1 : IntKind.i64.wrap ((k : Int) + 1) = (k : Int) + 1 := IntWalk.i64_in _ (by omega)
  have hw2 : (0 : Int) ≤ (k : Int) + 1 := by omega
  have hw3 : ((k : Int) + 1).toNat = k + 1 := by omega
  have hw4 : (k : Int) + 1 ≤ (xs.length : Int) + 1 := by omega
  have hw5 : ¬ cap = k + 1 := by omega
  have hw6 : (k : Int) ≤ (xs.length : Int) + 1 := by omega
  have hw7 : ¬ cap = k := by omega
  have HSRC : Hid (Rd w.drew 1 (.slice (some ⟨g, k, none⟩) (xs.length + 1 - k) (cap - k)) (xs.length + 1 - k) ((xs ++ ys).drop k)) := Lib.hid (by
    have := (hw.rd hSd 1 rfl).drop (ao' := some ⟨g, k, none⟩) k (by omega) (fun _ => by simp [Addr.add_lit]) (fun e => by omega)
    simpa using this)
  have HONE : Hid (∀ z ∈ ((xs ++ ys).drop k).take (xs.length - k), z.oneCell' = true) := Lib.hid (by rw [ins_mid xs ys k hk]; exact fun z hz => h1s z (List.mem_of_mem_drop hz))
  have HLIST : Hid (((xs ++ ys).take (k + 1) ++ ((xs ++ ys).drop k).take (xs.length - k) ++ (xs ++ ys).drop (k + 1 + (xs.length - k))).take k ++ [u].take 1 ++ ((xs ++ ys).take (k + 1) ++ ((xs ++ ys).drop k).take (xs.length - k) ++ (xs ++ ys).drop (k + 1 + (xs.length - k))).drop (k + 1) = xs.take k ++ u :: xs.drop k) := Lib.hid (ins_list xs ys u k hk hyl)
  go_enter Try.func31, Try.ntmps31
  go_wp2_with (simp only [hov])
  go_region_law (refine step_copyC (g := g) (n := xs.length + 1) (cap := cap) (xs := xs ++ ys) (ys := (xs ++ ys).drop k) (dl := xs.length - k) (dd := k + 1) (dc := cap - (k + 1)) (sl := xs.length + 1 - k) (sc := cap - k) (ad := ⟨g, k, none⟩) 1 31 31 (.tmp 73) (.tmp 76) rfl rfl (by kernel_rfl) (by kernel_rfl) Try.underlying31 hsz hSd rfl hw HSRC.out (xs.length - k) HONE.out (by omega) (by omega) (fun c1 w1 hr1 hS1 => ?_))
  all_goals (
    go_wp2_with ((refine wpList_copyC (g := g) (n := xs.length + 1) (cap := cap) (dd := k) (dl := xs.length + 1 - k) (dc := cap - k) (sl := 1) (sc := cpv) (ad := ⟨gv, 0, none⟩) (ys := [u]) 1 31 31 (.tmp 80) (.tmp 81) rfl rfl rfl rfl Try.underlying31 hsz hS1 rfl hr1 (hv.rd hS1 0 rfl) 1 (by intro z hz; simp at hz; subst hz; exact h1u) (by omega) (by omega) ?_); intro c2 w2 hr2 hS2)
    go_ret
    exact ⟨_, c2, rfl, by rw [← HLIST.out]; exact hr2, hS2.tl⟩)
theorem grow_list (xs : List Value) (z u : Value) (k : Nat) (hk : k < xs.length) :
    (((xs.take k ++ List.replicate (xs.length + 1 - k) z).take k ++ [u].take 1 ++ (xs.take k ++ List.replicate (xs.length + 1 - k) z).drop (k + 1)).take (k + 1) ++ (xs.drop k).take (xs.length - k) ++ ((xs.take k ++ List.replicate (xs.length + 1 - k) z).take k ++ [u].take 1 ++ (xs.take k ++ List.replicate (xs.length + 1 - k) z).drop (k + 1)).drop (k + 1 + (xs.length - k))) = xs.take k ++ u :: xs.drop k := by
  have e0 : (xs.take k).length = k := by rw [List.length_take]; omega
  have e1 : (xs.take k ++ List.replicate (xs.length + 1 - k) z).take k = xs.take k := by rw [List.take_append_of_le_length (by omega), List.take_of_length_le (by omega)]
  have e2 : (xs.drop k).take (xs.length - k) = xs.drop k := List.take_of_length_le (by rw [List.length_drop]; exact Nat.le_refl _)
  have e5 : (xs.take k ++ List.replicate (xs.length + 1 - k) z).length = xs.length + 1 := by rw [List.length_append, List.length_replicate, e0]; omega
  generalize xs.take k ++ List.replicate (xs.length + 1 - k) z = R at *
  rw [e1, e2]
  have e3 : (xs.take k ++ [u].take 1).length = k + 1 := by simp; omega
  have e4 : ((xs.take k ++ [u].take 1) ++ R.drop (k + 1)).length = xs.length + 1 := by
    rw [List.length_append, e3, List.length_drop]
    omega
  have h1 : ((xs.take k ++ [u].take 1) ++ R.drop (k + 1)).take (k + 1) = xs.take k ++ [u].take 1 := by
    rw [List.take_append_of_le_length (by rw [e3]; exact Nat.le_refl _)]
    exact List.take_of_length_le (by rw [e3]; exact Nat.le_refl _)
  have h2 : ((xs.take k ++ [u].take 1) ++ R.drop (k + 1)).drop (k + 1 + (xs.length - k)) = [] := List.drop_of_length_le (by rw [e4]; omega)
  rw [h1, h2]
  simp
set_option maxHeartbeats 4000000 in
theorem insertf_grow (g cap : Nat) (xs : List Value) (u : Value) (gv cpv k : Nat) (h1s : ∀ z ∈ xs, z.oneCell' = true) (h1u : u.oneCell' = true) (hv : RowC 29 1 (.slice (some ⟨gv, 0, none⟩) 1 cpv) 1 [u] cv) (h : RowC 29 1 (.slice (some ⟨g, 0, none⟩) xs.length cap) xs.length xs c) (hS : St B w0 w (cv :: c :: F)) (hn : xs.length ≤ 1000000) (hk : k < xs.length) (hroom : cap < xs.length + 1) :
    Calls Try.prog 31 #[.slice (some ⟨g, 0, none⟩) xs.length cap, .int .i64 (k : Int), .slice (some ⟨gv, 0, none⟩) 1 cpv] w (InsOut xs k u B w0 F) := by
  obtain ⟨hc1, hc2⟩ := h.cap
  have hpv := hv.cap
  obtain ⟨i1, hi1, hz1, hs1, hb1⟩ := info_parts infoF
  have hsz : (Try.prog.info? 29).map (·.size) = some 1 := by rw [hi1]; simp [hs1]
  have hki : (k : Int) < (xs.length : Int) := by omega
  have hkn : k ≤ xs.length := by omega
  have hshort := (h.short k hkn).rd hS 1 rfl
  have hw1 : IntKind.i64.wrap ((k : Int) + 1) = (k : Int) + 1 := IntWalk.i64_in _ (by omega)
  have hw2 : (0 : Int) ≤ (k : Int) + 1 := by omega
  have hw3 : ((k : Int) + 1).toNat = k + 1 := by omega
  have hw4 : (k : Int) + 1 ≤ (xs.length : Int) + 1 := by omega
  have hw6 : (k : Int) ≤ (xs.length : Int) + 1 := by omega
  have hw7 : ¬ cap = k := by omega
  have hw8 : (k : Int) ≤ (cap : Int) := by omega
  have hw9 : k ≤ cap := by omega
  have HONE : Hid (∀ z ∈ (xs.drop k).take (xs.length - k), z.oneCell' = true) := Lib.hid (fun z hz => h1s z (List.mem_of_mem_drop (List.mem_of_mem_take hz)))
  have HLIST := Lib.hid (grow_list xs (.float .f64 0) u k hk)
  go_enter Try.func31, Try.ntmps31
  go_wp2_with (first
    | (at_builtin; (refine wpList_app0G 31 3 i1 (.float .f64 0) .i64 .i64 (xs.length + 1 - k) _ _ rfl rfl _ rfl rfl Try.underlying31 Try.underlying3 hi1 hz1 hs1 hb1 rfl (by first | rfl | omega) hS hshort (by omega) (by omega) (by unfold maxLen; omega) (by omega) (xs.length + 1) (by omega) ?_); intro g1 cap1 c1 w1 hr1 hS1; obtain ⟨a1, a2⟩ := hr1.cap; have hwa : ¬ cap1 = k := by omega
       have hwb : ¬ cap1 = k + 1 := by omega)
    | ((refine wpList_copyC (g := g1) (n := xs.length + 1) (cap := cap1) (dd := k) (dl := xs.length + 1 - k) (dc := cap1 - k) (sl := 1) (sc := cpv) (ad := ⟨gv, 0, none⟩) (ys := [u]) 0 31 31 (.tmp 43) (.tmp 44) rfl rfl rfl rfl Try.underlying31 hsz hS1 rfl hr1 (hv.rd hS1 1 rfl) 1 (by intro z hz; simp at hz; subst hz; exact h1u) (by omega) (by omega) ?_); intro c2 w2 hr2 hS2))
  have HSRC : Hid (Rd w2.drew 1 (.slice (some ⟨g, k, none⟩) (xs.length - k) (cap - k)) (xs.length - k) (xs.drop k)) := Lib.hid (by
    have := (h.rd hS2.drew 2 rfl).drop (ao' := some ⟨g, k, none⟩) k (by omega) (fun _ => by simp [Addr.add_lit]) (fun e => by omega)
    simpa using this)
  go_region_law (refine step_copyC (g := g1) (n := xs.length + 1) (cap := cap1) (ys := xs.drop k) (dl := xs.length - k) (dd := k + 1) (dc := cap1 - (k + 1)) (sl := xs.length - k) (sc := cap - k) (ad := ⟨g, k, none⟩) 0 31 31 (.tmp 50) (.tmp 53) rfl rfl (by kernel_rfl) (by kernel_rfl) Try.underlying31 hsz hS2.drew rfl hr2 HSRC.out (xs.length - k) HONE.out (by omega) (by omega) (fun c3 w3 hr3 hS3 => ?_))
  all_goals (
    go_wp2_with fail
    go_ret
    exact ⟨_, c3, rfl, by rw [← HLIST.out]; exact hr3, (St.tl3 (show St B w0 w3 (c3 :: cv :: c :: F) from hS3))⟩)
/-- slices.Insert of one float: three roads. -/
theorem insertf_any (s : Value) (xs : List Value) (u : Value) (gv cpv k : Nat) (h1s : ∀ z ∈ xs, z.oneCell' = true) (h1u : u.oneCell' = true) (hv : RowC 29 1 (.slice (some ⟨gv, 0, none⟩) 1 cpv) 1 [u] cv) (h : RowC 29 1 s xs.length xs c) (hS : St B w0 w (cv :: c :: F)) (hn : xs.length ≤ 1000000) (hk : k ≤ xs.length) :
    Calls Try.prog 31 #[s, .int .i64 (k : Int), .slice (some ⟨gv, 0, none⟩) 1 cpv] w (InsOut xs k u B w0 F) := by
  by_cases e : k = xs.length
  · subst e
    exact insertf_end s xs u gv cpv h1u hv h hS hn
  · obtain ⟨ao, cap, rfl⟩ := h.shape
    obtain ⟨g, rfl⟩ := h.head (by omega)
    by_cases q : xs.length + 1 ≤ cap
    · exact insertf_room g cap xs u gv cpv k h1s h1u hv h hS hn (by omega) q
    · exact insertf_grow g cap xs u gv cpv k h1s h1u hv h hS hn (by omega) (by omega)
end
end Go.Proofs.Ytdhnmcdgiddhdab

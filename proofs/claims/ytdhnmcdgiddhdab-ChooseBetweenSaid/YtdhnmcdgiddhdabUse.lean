/-
  Uses: segments, as they lie in a row.
-/
import Derived.Test.YtdhnmcdgiddhdabMid
import Derived.Test.YtdhnmcdgiddhdabOpen
import Derived.Test.YtdhnmcdgiddhdabPureChoose
set_option linter.unusedVariables false
set_option linter.unusedSimpArgs false
namespace Go.Proofs.Ytdhnmcdgiddhdab
open Go.RowKit
set_option maxRecDepth 100000
structure UseP where
  num : Int
  dead : Int
  all : Int
  age : Nat
def useC (u : UseP) : List Value := [.int .i64 u.num, .int .i64 u.dead, .int .i64 u.all, .float .f64 u.age]
def uv (us : List UseP) : List Value := (us.map useC).flatten
theorem uv_len (us : List UseP) : (uv us).length = us.length * 4 := by
  unfold uv
  rw [rows_flat_len _ 4 (by intro r hr; obtain ⟨u, _, rfl⟩ := List.mem_map.1 hr; rfl), List.length_map]
theorem uv_get (us : List UseP) (i j : Nat) (u : UseP) (h : us[i]? = some u) (hj : j < 4) : (uv us)[i * 4 + j]? = (useC u)[j]? := by
  unfold uv
  rw [rows_flat_get _ 4 (by intro r hr; obtain ⟨u, _, rfl⟩ := List.mem_map.1 hr; rfl), if_neg (by omega), show (i * 4 + j) / 4 = i from by omega, show (i * 4 + j) % 4 = j from by omega, List.getElem?_map, h]
  rfl
theorem uv_append (a b : List UseP) : uv (a ++ b) = uv a ++ uv b := by simp [uv]
/-- The four cells of a use, where they are read. -/
theorem Rd.use {w : World} {n cap : Nat} {ad : Addr} {us : List UseP} (h : Rd w 4 (.slice (some ad) n cap) n (uv us)) {i : Nat} {u : UseP} (hu : us[i]? = some u) :
    w.cell? (ad.add (i * 4)) = some (.int .i64 u.num) ∧ w.cell? ⟨(ad.add (i * 4)).block, (ad.add (i * 4)).off + 1, none⟩ = some (.int .i64 u.dead) ∧ w.cell? ⟨(ad.add (i * 4)).block, (ad.add (i * 4)).off + 2, none⟩ = some (.int .i64 u.all) ∧ w.cell? ⟨(ad.add (i * 4)).block, (ad.add (i * 4)).off + 3, none⟩ = some (.float .f64 u.age) := by
  have key : ∀ j x, j < 4 → (useC u)[j]? = some x → w.cell? (ad.add (i * 4 + j)) = some x := by
    intro j x hj hx
    obtain ⟨ad', e, hc⟩ := h.at (j := i * 4 + j) (u := x) (by rw [uv_get us i j u hu hj]; exact hx)
    cases e
    exact hc
  have hadd : ∀ j, 0 < j → ad.add (i * 4 + j) = ⟨(ad.add (i * 4)).block, (ad.add (i * 4)).off + j, none⟩ := by
    intro j hj
    unfold Addr.add
    rw [if_neg (by omega)]
    by_cases hi : i * 4 = 0
    · rw [if_pos hi, hi, Nat.zero_add]
    · rw [if_neg hi]
      simp only [Addr.mk.injEq, and_true, true_and]
      omega
  refine ⟨key 0 _ (by omega) rfl, ?_, ?_, ?_⟩
  · rw [← hadd 1 (by omega)]; exact key 1 _ (by omega) rfl
  · rw [← hadd 2 (by omega)]; exact key 2 _ (by omega) rfl
  · rw [← hadd 3 (by omega)]; exact key 3 _ (by omega) rfl
theorem fvs_snoc (l : List Nat) (x : Nat) : fv l ++ [.float .f64 x] = fv (l ++ [x]) := by simp [fv]
theorem fvs_len (l : List Nat) (x : Nat) : l.length + 1 = (l ++ [x]).length := by simp
/-- The gains of some. -/
def GainsP (W : Nat) (us : List UseP) (xs : List Nat) : Prop := xs.length = us.length ∧ ∀ (i : Nat) (u : UseP) (x : Nat), us[i]? = some u → xs[i]? = some x → IsF (gainP u.dead u.all u.age W) x
theorem GainsP.snoc {W : Nat} {us : List UseP} {i : Nat} {xs : List Nat} {u : UseP} {x : Nat} (h : GainsP W (us.take i) xs) (hu : us[i]? = some u) (hx : IsF (gainP u.dead u.all u.age W) x) : GainsP W (us.take (i + 1)) (xs ++ [x]) := by
  have hl := h.1
  have hi := (List.getElem?_eq_some_iff.1 hu).1
  rw [List.take_add_one, hu]
  refine ⟨by simp [hl], ?_⟩
  intro k v y hv hy
  by_cases hk : k < (us.take i).length
  · simp only [Option.toList_some] at hv
    rw [List.getElem?_append_left hk] at hv
    rw [List.getElem?_append_left (by omega)] at hy
    exact h.2 k v y hv hy
  · simp only [Option.toList_some] at hv
    rw [List.getElem?_append_right (by omega)] at hv
    rw [List.getElem?_append_right (by omega)] at hy
    have : k - (us.take i).length = 0 := by
      rcases Nat.eq_zero_or_pos (k - (us.take i).length) with e | e
      · exact e
      · rw [List.getElem?_eq_none (by simp at e ⊢; omega)] at hv; cases hv
    rw [this] at hv
    rw [show k - xs.length = 0 from by omega] at hy
    cases hv
    cases hy
    exact hx
def GainsOut (W : Nat) (us : List UseP) (w : World) (e : Ending) (w' : World) : Prop := ∃ v xs c, e = .returned v ∧ RowC 29 1 v xs.length (fv xs) c ∧ GainsP W us xs ∧ (∀ x ∈ xs, x < 18446744073709551616) ∧ St w.heap.size w w' [c]
set_option maxHeartbeats 4000000 in
theorem gains_any (v : Value) (us : List UseP) (W : Nat) (w : World) (h : Rd w 4 v us.length (uv us)) (hW : W < 18446744073709551616) (hage : ∀ u ∈ us, u.age < 18446744073709551616) (hn : us.length ≤ 100000) :
    Calls Try.prog 11 #[v, .float .f64 W] w (GainsOut W us w) := by
  obtain ⟨i0, i0a, i0b, i0c, i0d⟩ := info_parts infoF
  obtain ⟨ao, cap, rfl⟩ := h.shape
  have H0 := Lib.hid (And.intro h hage)
  have hnl : (us.length : Int) ≤ 100000 := by omega
  have hS0 := (St.init w).one_nil
  clear h hage
  go_enter Try.func11, Try.ntmps11
  go_wp2_with fail
  go_loopg [5, 10] us.length (fun m s5 s10 wr => ∃ i : Nat, i + m = us.length ∧ s10 = .int .i64 (i : Int) ∧ ∃ (xs : List Nat) (c : List (Nat × Obj)), RowC 29 1 s5 xs.length (fv xs) c ∧ St w.heap.size w wr [c] ∧ Hid (xs.length = i ∧ GainsP W (us.take i) xs ∧ ∀ x ∈ xs, x < 18446744073709551616))
  case atStart => exact ⟨0, by omega, rfl, [], [], RowC.nil 29 1, hS0, Lib.hid ⟨rfl, ⟨by simp, by intro i u x hu; simp at hu⟩, by simp⟩⟩
  case round =>
    clear hS0
    obtain ⟨i, hi, rfl, xs, c, hr, hS, HX⟩ := hrel
    obtain ⟨ao5, cap5, rfl⟩ := hr.shape
    cases gk with
    | succ m =>
      have hif : (i : Int) < (us.length : Int) := by omega
      obtain ⟨u, hu⟩ : ∃ u, us[i]? = some u := ⟨_, List.getElem?_eq_getElem (by omega)⟩
      obtain ⟨ad, rfl⟩ : ∃ ad, ao = some ad := by
        obtain ⟨ad, e, _⟩ := H0.out.1.at (j := i * 4 + 0) (by rw [uv_get us i 0 u hu (by omega)]; rfl)
        exact ⟨ad, e⟩
      obtain ⟨k0, k1, k2, k3⟩ := (H0.out.1.st hS).use hu
      have hage := H0.out.2 u (List.mem_of_getElem? hu)
      have hxl : (xs.length : Int) ≤ 100000 := by have := HX.out.1; omega
      go_wp2_with fail
      refine (gain_any u.dead u.all u.age W _ hage hW).mono ?_
      rintro e w2 ⟨x, rfl, hx, hd⟩
      have hS2 := (hS.alloc' (.cells #[.int .i64 u.num, .int .i64 u.dead, .int .i64 u.all, .float .f64 u.age] 51)).Drew hd
      have HN : Hid ((xs ++ [x]).length = i + 1 ∧ GainsP W (us.take (i + 1)) (xs ++ [x]) ∧ ∀ y ∈ xs ++ [x], y < 18446744073709551616) := Lib.hid ⟨by simp [HX.out.1], HX.out.2.1.snoc hu hx, by
        intro y hy
        rcases List.mem_append.1 hy with hy | hy
        · exact HX.out.2.2 y hy
        · simp at hy; subst hy; exact hx.1⟩
      clear hS hd hu hx
      go_wp2_with (at_builtin; (refine wpList_app1 0 31 i0 (.float .f64 0) _ _ _ rfl rfl rfl rfl Try.underlying31 i0a i0b i0c i0d rfl hS2 rfl hr rfl ?_ ?_ ?_); (unfold maxLen; omega); omega; intro v1 c1 w5 hr1 hS5)
      rw [fvs_snoc, fvs_len] at hr1
      go_roundg m
      case measure => omega
      case rel => exact ⟨i + 1, by omega, by go_num, xs ++ [x], c1, hr1, hS5, HN⟩
    | zero =>
      obtain rfl : i = us.length := by omega
      have hz : ¬ (us.length : Int) < (us.length : Int) := by omega
      have HF : Hid (∃ c, RowC 29 1 (.slice ao5 xs.length cap5) xs.length (fv xs) c ∧ GainsP W us xs ∧ (∀ x ∈ xs, x < 18446744073709551616) ∧ St w.heap.size w wr [c]) := Lib.hid ⟨c, hr, by have := HX.out.2.1; rwa [List.take_length] at this, HX.out.2.2, hS⟩
      clear hr hS
      go_wp2_with fail
      go_ret
      obtain ⟨c, hx⟩ := HF.out
      exact ⟨_, xs, c, rfl, hx⟩
end Go.Proofs.Ytdhnmcdgiddhdab

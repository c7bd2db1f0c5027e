/-
  lengths.Of: what it asks of the frequencies; how it compares coins.
-/
import Derived.Test.YtmjkacfhhnnlnaaCoinB
import Derived.Test.YtmjkacfhhnnlnaaSortTC
set_option linter.unusedVariables false
set_option linter.unusedSimpArgs false
namespace Go.Proofs.Ytmjkacfhhnnlnaa
open Go.RowKit
set_option maxRecDepth 100000
def badF (x : Int) : Bool := decide (x < 0) || decide (1073741824 < x)
theorem lenof1_any (x : Int) (w : World) : Calls Try.prog 15 #[.int .i64 x] w fun e w' => e = .returned (.bool (badF x)) ∧ w = w' := by
  unfold badF
  by_cases q1 : x < 0
  · go_enter Try.func15, Try.ntmps15
    go_wp2_with fail
    go_ret
    exact ⟨by simp [q1], rfl⟩
  · by_cases q2 : 1073741824 < x
    · go_enter Try.func15, Try.ntmps15
      go_wp2_with fail
      go_ret
      exact ⟨by simp [q1, q2], rfl⟩
    · go_enter Try.func15, Try.ntmps15
      go_wp2_with fail
      go_ret
      exact ⟨by simp [q1, q2], rfl⟩
def IdxOut (l : List Int) (w : World) (e : Ending) (w' : World) : Prop := ∃ r : Int, e = .returned (.int .i64 r) ∧ (0 ≤ r ↔ l.any badF = true) ∧ w = w'
set_option maxHeartbeats 1000000 in
theorem indexf_any (v : Value) (l : List Int) (w : World) (h : Rd w 1 v l.length (iv l)) (hn : l.length ≤ 1000000) :
    Calls Try.prog 21 #[v, .func (.func 15) #[] #[]] w (IdxOut l w) := by
  obtain ⟨ao, cap, rfl⟩ := h.shape
  have hnl : (l.length : Int) ≤ 1000000 := by omega
  have H := Lib.hid h
  clear h
  go_enter Try.func21, Try.ntmps21
  go_wp2_with fail
  go_loopg [8] l.length (fun m s8 wr => ∃ i : Nat, i + m = l.length ∧ s8 = .int .i64 (i : Int) ∧ Hid ((l.take i).any badF = false) ∧ w = wr)
  case atStart => exact ⟨0, by omega, rfl, Lib.hid rfl, rfl⟩
  case round =>
    obtain ⟨i, hi, rfl, HN, rfl⟩ := hrel
    cases gk with
    | zero =>
      have hil : i = l.length := by omega
      have hz : ¬ (i : Int) < (l.length : Int) := by omega
      have HI := Lib.hid hil
      clear hi hil
      go_wp2_with fail
      go_ret
      refine ⟨-1, rfl, ?_, rfl⟩
      have := HN.out
      rw [HI.out, List.take_length] at this
      rw [this]
      simp
    | succ m =>
      have hil : (i : Int) < (l.length : Int) := by omega
      obtain ⟨x, hx⟩ : ∃ x, l[i]? = some x := ⟨_, List.getElem?_eq_getElem (by omega)⟩
      obtain ⟨ad, rfl, hc⟩ := H.out.at (iv_get l i x hx)
      have htk : (l.take (i + 1)).any badF = badF x := by rw [List.take_add_one, hx, List.any_append, HN.out]; simp
      have HX := Lib.hid (And.intro hx htk)
      clear hx htk
      go_wp2_with fail
      refine (lenof1_any x w).mono ?_
      rintro e w2 ⟨rfl, rfl⟩
      cases hb : badF x with
      | true =>
        have HB := Lib.hid hb
        clear hb
        go_wp2_with fail
        go_ret
        refine ⟨(i : Int), rfl, ?_, rfl⟩
        rw [List.any_eq_true.2 ⟨x, List.mem_of_getElem? HX.out.1, HB.out⟩]
        simp
      | false =>
        have HB := Lib.hid hb
        clear hb
        go_wp2_with fail
        go_roundg m
        case measure => omega
        case rel => exact ⟨i + 1, by omega, by go_num, Lib.hid (by rw [HX.out.2]; exact HB.out), rfl⟩
theorem containsf_any (v : Value) (l : List Int) (w : World) (h : Rd w 1 v l.length (iv l)) (hn : l.length ≤ 1000000) :
    Calls Try.prog 14 #[v, .func (.func 15) #[] #[]] w fun e w' => e = .returned (.bool (l.any badF)) ∧ w = w' := by
  have H := Lib.hid h
  obtain ⟨ao, cap, rfl⟩ := h.shape
  clear h
  go_enter Try.func14, Try.ntmps14
  go_wp2_with fail
  refine (indexf_any _ l w H.out hn).mono ?_
  rintro e w2 ⟨r, rfl, hr, rfl⟩
  cases hb : l.any badF with
  | true =>
    have q : 0 ≤ r := hr.2 hb
    have HB := Lib.hid hb
    clear hr hb
    go_wp2_with fail
    go_ret
    refine ⟨?_, rfl⟩
    rw [HB.out]
    simp [q]
  | false =>
    have q : ¬ 0 ≤ r := fun h => by rw [hr.1 h] at hb; cases hb
    have HB := Lib.hid hb
    clear hr hb
    go_wp2_with fail
    go_ret
    refine ⟨?_, rfl⟩
    rw [HB.out]
    simp [q]
/-- How coins are compared. -/
def cfC (K : Nat → Coin) (p q : Nat) : Int := if (K p).worth < (K q).worth then -1 else if (K q).worth < (K p).worth then 1 else 0
set_option maxHeartbeats 1000000 in
theorem lenof2_any (p q : Nat) (a b : Nat) (w : World) (hp : w.cell? ⟨p, 0, none⟩ = some (.int .i64 (a : Int))) (hq : w.cell? ⟨q, 0, none⟩ = some (.int .i64 (b : Int))) :
    Calls Try.prog 17 #[.pointer (some ⟨p, 0, none⟩), .pointer (some ⟨q, 0, none⟩)] w fun e w' => e = .returned (.int .i64 (if a < b then -1 else if b < a then 1 else 0)) ∧ ∃ k, w' = w.drewN k := by
  by_cases q1 : a < b
  · have q1i : (a : Int) < (b : Int) := by omega
    go_enter Try.func17, Try.ntmps17
    go_wp2_with (first | ((with_reducible refine wpStill_plain ?_ ?_ (fun _ _ => ?_)); rfl; rfl) | (with_reducible refine wpStill_nil ?_) | ((with_reducible refine wp_draw_all (id := 1) mixed ?_ (fun _ _ => ?_)); kernel_rfl) | ((with_reducible refine wp_draw_all (id := 3) mixed ?_ (fun _ _ => ?_)); kernel_rfl))
    go_ret
    exact ⟨rfl, 1, rfl⟩
  · have q1i : ¬ (a : Int) < (b : Int) := by omega
    by_cases q2 : b < a
    · have q2i : (b : Int) < (a : Int) := by omega
      go_enter Try.func17, Try.ntmps17
      go_wp2_with (first | ((with_reducible refine wpStill_plain ?_ ?_ (fun _ _ => ?_)); rfl; rfl) | (with_reducible refine wpStill_nil ?_) | ((with_reducible refine wp_draw_all (id := 1) mixed ?_ (fun _ _ => ?_)); kernel_rfl) | ((with_reducible refine wp_draw_all (id := 3) mixed ?_ (fun _ _ => ?_)); kernel_rfl))
      go_ret
      exact ⟨rfl, 2, rfl⟩
    · have q2i : ¬ (b : Int) < (a : Int) := by omega
      go_enter Try.func17, Try.ntmps17
      go_wp2_with (first | ((with_reducible refine wpStill_plain ?_ ?_ (fun _ _ => ?_)); rfl; rfl) | (with_reducible refine wpStill_nil ?_) | ((with_reducible refine wp_draw_all (id := 1) mixed ?_ (fun _ _ => ?_)); kernel_rfl) | ((with_reducible refine wp_draw_all (id := 3) mixed ?_ (fun _ _ => ?_)); kernel_rfl))
      go_ret
      exact ⟨rfl, 2, rfl⟩
theorem mergeK_map : ∀ a b : List (Nat × Coin), (mergeK keyP a b).map Prod.snd = mergeK Coin.worth (a.map Prod.snd) (b.map Prod.snd) := by
  apply mergeK_ind
  · intro b; rw [mergeK_nil, List.map_nil, mergeK_nil]
  · intro x a; rw [mergeK_nil2, List.map_nil, mergeK_nil2]
  · intro x a y b h1 h2
    rw [mergeK_cons, List.map_cons, List.map_cons, mergeK_cons]
    by_cases h : x.2.worth ≤ y.2.worth
    · rw [if_pos (show keyP x ≤ keyP y from h), if_pos h, List.map_cons, h1, List.map_cons]
    · rw [if_neg (show ¬ keyP x ≤ keyP y from h), if_neg h, List.map_cons, h2, List.map_cons]
theorem level_bounds {l : List Coin} {n M : Nat} (h : ∀ x ∈ l, x.symsLt n ∧ x.worth ≤ M ∧ x.size ≤ 1) : ∀ k, ∀ x ∈ levelC l k, x.symsLt n ∧ x.worth ≤ 2 ^ k * M ∧ x.size ≤ 2 ^ k
  | 0, x, hx => by have := h x hx; simpa using this
  | k + 1, x, hx => by
    rw [levelC] at hx
    have hx2 := (mergeK_perm Coin.worth l (pairsC (levelC l k))).subset hx
    rw [List.mem_append] at hx2
    have hpw : 1 ≤ 2 ^ k := Nat.one_le_two_pow
    rcases hx2 with h1 | h1
    · obtain ⟨a, b, c⟩ := h x h1
      refine ⟨a, Nat.le_trans b ?_, by rw [Nat.pow_succ]; omega⟩
      exact Nat.le_mul_of_pos_left M (Nat.two_pow_pos _)
    · obtain ⟨p, hp⟩ := List.mem_iff_getElem?.1 h1
      have hl := (List.getElem?_eq_some_iff.1 hp).1
      rw [pairsC_length] at hl
      obtain ⟨u, v, e1, e2, e3⟩ := pairsC_get (levelC l k) p (by omega)
      rw [hp] at e3
      cases e3
      obtain ⟨a1, b1, c1⟩ := level_bounds h k u (List.mem_of_getElem? e1)
      obtain ⟨a2, b2, c2⟩ := level_bounds h k v (List.mem_of_getElem? e2)
      refine ⟨⟨a1, a2⟩, ?_, ?_⟩
      · simp only [Coin.worth, Nat.pow_succ]
        rw [Nat.mul_comm (2 ^ k) 2, Nat.mul_assoc]
        omega
      · simp only [Coin.size, Nat.pow_succ]
        omega
end Go.Proofs.Ytmjkacfhhnnlnaa

/-
  lengths.count.
-/
import Derived.Test.YtmjkacfhhnnlnaaCoin
set_option linter.unusedVariables false
set_option linter.unusedSimpArgs false
namespace Go.Proofs.Ytmjkacfhhnnlnaa
open Go.RowKit
set_option maxRecDepth 100000
def Coin.size : Coin → Nat
  | .leaf _ _ => 1
  | .pack a b => a.size + b.size
def Coin.symsLt (n : Nat) : Coin → Prop
  | .leaf _ s => s < n
  | .pack a b => a.symsLt n ∧ b.symsLt n
theorem Coin.cnt_le (s : Nat) : ∀ c : Coin, c.cnt s ≤ c.size
  | .leaf w t => by unfold Coin.cnt Coin.size; split <;> omega
  | .pack a b => by have := Coin.cnt_le s a; have := Coin.cnt_le s b; unfold Coin.cnt Coin.size; omega
def CountOut (n cap g : Nat) (f : Nat → Nat) (F : List (List (Nat × Obj))) (B : Nat) (w0 : World) (e : Ending) (w' : World) : Prop :=
  e = .returned (.tuple #[]) ∧ ∃ c', RowC 3 1 (.slice (some ⟨g, 0, none⟩) n cap) n (iv (mkI (fun s => (f s : Int)) n)) c' ∧ St B w0 w' (c' :: F)
set_option maxHeartbeats 2000000 in
theorem count_any {B : Nat} {w0 : World} {F : List (List (Nat × Obj))} {A : List (Nat × Obj)} {g cap n : Nat} (j : Nat) (hj : F[j]? = some A) (hn : n ≤ 1000000) : ∀ (cn : Coin) (p : Nat) (c : List (Nat × Obj)) (w : World) (f : Nat → Nat), CoinAt A p cn →
    RowC 3 1 (.slice (some ⟨g, 0, none⟩) n cap) n (iv (mkI (fun s => (f s : Int)) n)) c → St B w0 w (c :: F) → cn.symsLt n → (∀ s, f s + cn.size ≤ 1000000000) →
    Calls Try.prog 19 #[.pointer (some ⟨p, 0, none⟩), .slice (some ⟨g, 0, none⟩) n cap] w (CountOut n cap g (fun s => f s + cn.cnt s) F B w0)
  | .leaf wo s, p, c, w, f, hc, hr, hS, hb, hf => by
    cases hc with
    | leaf hm =>
    have hj1 : (c :: F)[j + 1]? = some A := by simpa using hj
    have hc2 := hS.cell (j + 1) hj1 hm 2
    have hc1 := hS.cell (j + 1) hj1 hm 1
    simp only [List.getElem?_toArray, List.getElem?_cons_succ, List.getElem?_cons_zero] at hc1 hc2
    have hsn : s < n := hb
    have hsi : (s : Int) < (n : Int) := by omega
    have hl := hr.cellAt hS 0 rfl (iv_get _ s _ (mkI_get _ _ s hsn))
    have hfr := hr.freeAt hS 0 rfl s
    have hfs := hf s
    simp only [Coin.size] at hfs
    have HF : Hid (CountOut n cap g (fun t => f t + (Coin.leaf wo s).cnt t) F B w0 (.returned (.tuple #[])) (w.setCell ⟨g, s, none⟩ (.int .i64 ((f s : Int) + 1)))) := Lib.hid (by
      obtain ⟨c', h1, h2⟩ := hr.store hS 0 rfl rfl s (.int .i64 ((f s : Int) + 1))
      refine ⟨rfl, c', ?_, h2⟩
      rw [iv_set, mkI_set] at h1
      rw [mkI_congr _ _ _ (fun i hi => ?_)]
      · exact h1
      · simp only [Coin.cnt]
        by_cases e : i = s
        · subst e; simp
        · have e2 : ¬ s = i := fun h => e h.symm
          rw [if_neg e, if_neg e2]; simp)
    clear hr hS hf hm hj1
    generalize f s = z at *
    go_enter Try.func19, Try.ntmps19
    go_wp2_with fail
    go_end0
    exact HF.out
  | .pack a b, p, c, w, f, hc, hr, hS, hb, hf => by
    cases hc with
    | @pack _ q r _ _ hm ha hb2 =>
    have hj1 : (c :: F)[j + 1]? = some A := by simpa using hj
    have hc2 := hS.cell (j + 1) hj1 hm 2
    simp only [List.getElem?_toArray, List.getElem?_cons_succ, List.getElem?_cons_zero] at hc2
    have HA := Lib.hid (count_any j hj hn a q c w f ha hr hS hb.1 (fun s => by have := hf s; simp only [Coin.size] at this; omega))
    have H0 := Lib.hid (And.intro hm (And.intro hb2 (And.intro hb.2 hf)))
    clear hr hS hf hm ha hb2 hb
    go_enter Try.func19, Try.ntmps19
    go_wp2_with fail
    refine HA.out.mono ?_
    rintro e w2 ⟨rfl, c2, hr2, hS2⟩
    have hc3 := hS2.cell (j + 1) (by simpa using hj) H0.out.1 3
    simp only [List.getElem?_toArray, List.getElem?_cons_succ, List.getElem?_cons_zero] at hc3
    have HB := Lib.hid (count_any j hj hn b r c2 w2 (fun s => f s + a.cnt s) H0.out.2.1 hr2 hS2 H0.out.2.2.1 (fun s => by have := H0.out.2.2.2 s; have := Coin.cnt_le s a; simp only [Coin.size] at *; omega))
    clear hr2 hS2 hc2
    go_wp2_with fail
    refine HB.out.mono ?_
    rintro e w3 ⟨rfl, c3, hr3, hS3⟩
    go_wp2_with fail
    go_end0
    refine ⟨rfl, c3, ?_, hS3⟩
    rw [mkI_congr _ _ _ (fun i hi => ?_)]
    · exact hr3
    · simp only [Coin.cnt]
      omega
end Go.Proofs.Ytmjkacfhhnnlnaa

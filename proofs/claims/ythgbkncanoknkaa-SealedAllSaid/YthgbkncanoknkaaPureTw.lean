/-
  The same records are the same bytes; others are others.
-/
import Derived.Test.YthgbkncanoknkaaSg12
set_option linter.unusedVariables false
set_option linter.unusedSimpArgs false
namespace Go.Proofs.Ythgbkncanoknkaa
open Go.RowKit
theorem BlkR.one {b y z : List UInt8} (hy : BlkR b y) (hz : BlkR b z) : y = z := by
  obtain ⟨e, h1, rfl⟩ := hy
  obtain ⟨e', h1', rfl⟩ := hz
  rw [h1.one h1']
theorem BlksR.one : ∀ {X Y : List (List UInt8)} {b : List UInt8}, BlksR b X → BlksR b Y → X = Y
  | [], [], _, _, _ => rfl
  | [], _ :: _, _, h, h' => absurd h h'.1
  | _ :: _, [], _, h, h' => absurd h' h.1
  | x :: X, y :: Y, b, ⟨_, h1, h2⟩, ⟨_, h1', h2'⟩ => by rw [h1.one h1', BlksR.one h2 h2']
theorem PackR.one {b x y : List UInt8} (hx : PackR b x) (hy : PackR b y) : x = y := by
  obtain ⟨X, h1, rfl⟩ := hx
  obtain ⟨Y, h1', rfl⟩ := hy
  rw [h1.one h1']
theorem SealR.one {l : List Rec} {x y : List UInt8} (hx : SealR l x) (hy : SealR l y) : x = y := by
  obtain ⟨p, h1, rfl⟩ := hx
  obtain ⟨q, h1', rfl⟩ := hy
  rw [h1.one h1']
theorem SealR.same {a b : List Rec} {y : List UInt8} (ha : SealR a y) (hb : SealR b y) (oa : ∀ r ∈ a, OkR r) (ob : ∀ r ∈ b, OkR r) (la : a.length ≤ 100) (lb : b.length ≤ 100) (va : (valsP a).length ≤ 100000) (vb : (valsP b).length ≤ 100000) : a = b := by
  obtain ⟨p, hp, hs⟩ := ha.seg oa la
  obtain ⟨q, hq, ht⟩ := hb.seg ob lb
  obtain ⟨e1, rfl⟩ := hs.one ht
  apply List.ext_getElem?
  intro i
  have e2 : (a.map entOf)[i]? = (b.map entOf)[i]? := by rw [e1]
  rw [List.getElem?_map, List.getElem?_map] at e2
  cases hx : a[i]? with
  | none =>
    rw [hx] at e2
    cases hy : b[i]? with
    | none => rfl
    | some y => rw [hy] at e2; cases e2
  | some x =>
    rw [hx] at e2
    cases hy : b[i]? with
    | none => rw [hy] at e2; cases e2
    | some y =>
      rw [hy] at e2
      simp only [Option.map_some, Option.some.injEq] at e2
      have h1 := (val_of hp va hx (val := x.val)).2 rfl
      rw [e1, e2] at h1
      have h2 := (val_of hq vb hy).1 h1
      have h3 := recE_of (oa x (List.mem_of_getElem? hx))
      have h4 := recE_of (ob y (List.mem_of_getElem? hy))
      rw [e2, h2, h4] at h3
      rw [h3]
/-- One form for both ends of a build. -/
theorem BuildOut.form {l : List Rec} {w w' : World} {e : Ending} (h : BuildOut l w e w') : ∃ (f : Nat) (y : List UInt8) (v : Value) (c : List (Nat × Obj)), e = .returned (.tuple #[v, .int .i64 (f : Int)]) ∧ RowC 5 1 v y.length (bv y) c ∧ St w.heap.size w w' [c] ∧ Hid (f = faultR l ∧ (f = 0 → SealR l y)) := by
  rcases h with ⟨h1, rfl, h3⟩ | ⟨h1, y, v, c, rfl, h3, h4, h5⟩
  · exact ⟨faultR l, [], _, [], rfl, RowC.nil _ _, h3.one_nil, Lib.hid ⟨rfl, fun e => absurd e h1⟩⟩
  · exact ⟨0, y, v, c, rfl, h3, h5, Lib.hid ⟨h1.symm, fun _ => h4⟩⟩
theorem vals_small : ∀ {l : List Rec} {k : Nat}, (∀ r ∈ l, r.val.length ≤ k) → (valsP l).length ≤ k * l.length
  | [], _, _ => by simp [valsP]
  | r :: l, k, h => by
    have h1 := vals_small (l := l) (k := k) fun x hx => h x (by simp [hx])
    have h2 := h r (by simp)
    have h3 : valsP (r :: l) = r.val ++ valsP l := by simp [valsP]
    rw [h3, List.length_append, List.length_cons, Nat.mul_add]
    omega
end Go.Proofs.Ythgbkncanoknkaa

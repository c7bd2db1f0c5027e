/-
  An argument []foliolaw27.Use opened.
-/
import Derived.Test.YtdhnmcdgiddhdabUse
import Derived.Lib.SmallJoins
import Derived.OpenShut
set_option linter.unusedVariables false
set_option linter.unusedSimpArgs false
namespace Go.Proofs.Ytdhnmcdgiddhdab
open Go.ChangeShapes Go.WideShapes Go.ChangeAt Go.RowKit
/-- A use as the law tells it: its age by bits. -/
def useL (u : UseP) : List Value := [.int .i64 u.num, .int .i64 u.dead, .int .i64 u.all, .int .u64 (u.age : Int)]
def uvL (us : List UseP) : List Value := (us.map useL).flatten
theorem uvL_get (us : List UseP) (i j : Nat) (u : UseP) (h : us[i]? = some u) (hj : j < 4) : (uvL us)[i * 4 + j]? = (useL u)[j]? := by
  unfold uvL
  rw [rows_flat_get _ 4 (by intro r hr; obtain ⟨u, _, rfl⟩ := List.mem_map.1 hr; rfl), if_neg (by omega), show (i * 4 + j) / 4 = i from by omega, show (i * 4 + j) % 4 = j from by omega, List.getElem?_map, h]
  rfl
theorem open_foliolaw27_Use {H : Type} {enc : TypeId × Value → H} {W : World} {spare : Nat → Bool} {held : Bool} {v : Value} {d : DataW H} {ps : List MemPlace} {ts : List TypeId} {ds : List (DataW H)} {j : Nat} {base : Nat}
    (hsz : (DataW.weightsEach Try.prog ts ds).all (· ≤ reachBytes) = true) (ht : ts[j]? = some 22) (hd : ds[j]? = some d)
    (hv : Value.okWide Try.prog W .any base 22 v) (h : DataW.Trod enc Try.prog W 0 spare held 22 v d ps) :
    ∃ (n : Nat) (os : List UseP), (Rd W 4 v n (uvL os) ∧ os.length = n ∧ ∀ o ∈ os, o.age < 18446744073709551616 ∧ (Lit.int .i64 o.num).wf = true ∧ (Lit.int .i64 o.dead).wf = true ∧ (Lit.int .i64 o.all).wf = true) ∧ n * 32 ≤ 140737488351232 := by
  obtain ⟨n, rows, h1, h2, h3, h4⟩ := open_structs (sz := 4) (B := 32) (fun r => ∃ o : UseP, r = useL o ∧ (o.age < 18446744073709551616 ∧ (Lit.int .i64 o.num).wf = true ∧ (Lit.int .i64 o.dead).wf = true ∧ (Lit.int .i64 o.all).wf = true)) hsz ht hd Try.underlying22 (by kernel_rfl) (by omega) (by kernel_rfl) (by
    intro k cs x hx
    obtain ⟨y0, y1, y2, y3, m, _, hl, g0, g1, g2, g3⟩ := Go.Joins.trod_struct4 Try.underlying42 hx
    obtain ⟨a, e0, _, w0⟩ := DataW.trod_int Try.underlying2 g0
    obtain ⟨b, e1, _, w1⟩ := DataW.trod_int Try.underlying3 g1
    obtain ⟨c, e2, _, w2⟩ := DataW.trod_int Try.underlying3 g2
    obtain ⟨z, e3, _, w3⟩ := DataW.trod_int Try.underlying23 g3
    have hz := bounds_u64 w3
    refine ⟨⟨a, b, c, z.toNat⟩, ?_, by show z.toNat < _; omega, w0, w1, w2⟩
    have hl2 : cs.length = 4 := hl.trans (by kernel_rfl)
    match cs, hl2 with
    | [c0, c1, c2, c3], _ =>
      have e0' : [c0] = [.int .i64 a] := e0
      have e1' : [c1] = [.int .i64 b] := e1
      have e2' : [c2] = [.int .i64 c] := e2
      have e3' : [c3] = [.int .u64 z] := e3
      simp only [List.cons.injEq, and_true] at e0' e1' e2' e3'
      rw [e0', e1', e2', e3']
      unfold useL
      simp only [Int.toNat_of_nonneg hz.1]) hv h
  obtain ⟨os, e, hw⟩ := rows_of useL _ rows fun r hr => (h2 r hr).1
  refine ⟨n, os, ⟨?_, ?_, hw⟩, h4⟩
  · rw [e] at h3
    exact h3
  · rw [e, List.length_map] at h1
    exact h1
end Go.Proofs.Ytdhnmcdgiddhdab

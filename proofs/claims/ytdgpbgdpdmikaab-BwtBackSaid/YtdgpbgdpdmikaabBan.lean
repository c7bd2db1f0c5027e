/-
  Constant bytes that are read; the word of the first example.
-/
import Derived.Test.YtdgpbgdpdmikaabSufSort
set_option linter.unusedVariables false
set_option linter.unusedSimpArgs false
namespace Go.Proofs.Ytdgpbgdpdmikaab
open Go.RowKit
theorem Rd.litsF (w : World) (X : Array Value) (T : TypeId) (fr : Nat × Nat) (n : Nat) (hn : X.size = n) (hm : n ≤ maxLen) : Rd (w.alloc (.cells X T fr)) 1 (.slice (some ⟨w.heap.size, 0, none⟩) n n) n X.toList := by
  refine ⟨_, n, rfl, ⟨Nat.le_refl _, hm⟩, by simp [hn], fun e => by simp at e, fun ad e j u hu => ?_⟩
  simp only [Option.some.injEq] at e
  subst e
  rw [add_lit0]
  have h1 : (w.alloc (.cells X T fr)).heap[w.heap.size]? = some (.cells X T fr) := heap_alloc_new w _
  simp only [World.cell?, h1]
  simpa using hu
def ban : List UInt8 := [98, 97, 110, 97, 110, 97]
theorem ban_sa : IsSA (nb ban) [5, 3, 1, 0, 4, 2] := ⟨by decide, by decide⟩
theorem m6 : 6 ≤ maxLen := by decide
theorem nb_inj {a b : List UInt8} (h : nb a = nb b) : a = b := (List.map_inj_right fun _ _ h => UInt8.toNat_inj.1 h).1 h
end Go.Proofs.Ytdgpbgdpdmikaab

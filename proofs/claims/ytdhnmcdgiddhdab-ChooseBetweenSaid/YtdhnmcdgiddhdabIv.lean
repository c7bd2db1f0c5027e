/-
  append of a row of zeros, the greater of two, numbers as cells.
-/
import Derived.Test.YtdhnmcdgiddhdabCore
import Derived.Lib.AppendZerosOnto
set_option linter.unusedVariables false
set_option linter.unusedSimpArgs false
namespace Go.Proofs.Ytdhnmcdgiddhdab
open Go.RowKit
set_option maxRecDepth 100000

theorem infoInt : (Try.prog.info? 3).map (fun i => (i.zero, i.size, i.bytes)) = some (some (.int .i64 0), 1, 8) := by kernel_rfl
/-- Numbers as cells. -/
def iv (l : List Int) : List Value := l.map (Value.int .i64)
theorem iv_length (l : List Int) : (iv l).length = l.length := by simp [iv]
theorem iv_append (a b : List Int) : iv (a ++ b) = iv a ++ iv b := by simp [iv]
theorem iv_get (l : List Int) (i : Nat) (x : Int) (h : l[i]? = some x) : (iv l)[i]? = some (.int .i64 x) := by simp [iv, h]
theorem iv_one (l : List Int) : ∀ u ∈ iv l, u.oneCell' = true := by
  intro u hu
  obtain ⟨b, _, rfl⟩ := List.mem_map.1 hu
  rfl

theorem Rd.take {w : World} {sz n cap : Nat} {ao : Option Addr} {xs : List Value} (h : Rd w sz (.slice ao n cap) n xs) (k : Nat) (hk : k ≤ n) : Rd w sz (.slice ao k cap) k (xs.take (k * sz)) := by
  obtain ⟨ao', cap', h1, h2, h3, h4, h5⟩ := h
  simp only [Value.slice.injEq, true_and] at h1
  obtain ⟨rfl, rfl⟩ := h1
  refine ⟨ao, cap, rfl, ⟨by omega, h2.2⟩, ?_, fun e => ?_, fun ad e j u hu => ?_⟩
  · rw [List.length_take, h3]
    exact Nat.min_eq_left (Nat.mul_le_mul_right _ hk)
  · have := h4 e
    omega
  · rw [List.getElem?_take] at hu
    split at hu
    · exact h5 ad e j u hu
    · simp at hu
/-- The greater of two numbers. -/
theorem max2_ints (k k' : IntKind) (x y : Int) : Builtin.max2 (.int k x) (.int k' y) = pure (.int k (if x < y then y else x)) := by simp only [Builtin.max2, gt_iff_lt]
theorem max_of_two (ats : Array TypeId) (ty : TypeId) (a b : Value) : Builtin.max_ ats ty #[a, b] = (Builtin.max2 a b >>= fun s => pure s) := by simp only [Builtin.max_, List.foldlM_cons, List.foldlM_nil]
theorem min2_ints (k k' : IntKind) (x y : Int) : Builtin.min2 (.int k x) (.int k' y) = pure (.int k (if y < x then y else x)) := by simp only [Builtin.min2, gt_iff_lt]
theorem min_of_two (ats : Array TypeId) (ty : TypeId) (a b : Value) : Builtin.min_ ats ty #[a, b] = (Builtin.min2 a b >>= fun s => pure s) := by simp only [Builtin.min_, List.foldlM_cons, List.foldlM_nil]

theorem zeroCells_one (z : Value) (k : Nat) : (Builtin.zeroCells #[z] k).toList = List.replicate k z := by
  unfold Builtin.zeroCells
  apply List.ext_getElem?
  intro i
  simp [List.getElem?_replicate]
  by_cases h : i < k <;> simp [h, Nat.mod_one]

section
variable {P : Program} {B : Nat} {w0 w w' : World} {L : List HL} {c : HL} {T : TypeId} {v : Value} {n by_ : Nat} {xs : List Value}
theorem run_app0 (t tn ty : TypeId) (i : TypeInfo) (z : Value) (kq kn : IntKind) (ht : P.underlying t = some (.slice T)) (htn : P.underlying tn = some (.int kn)) (hi : P.info? T = some i) (hz : i.zero = some z) (hsize : i.size = 1) (hby : i.bytes = by_) (hzs : z.cells = #[z]) (hz1 : z.oneCell' = true)
    (hS : St B w0 w L) (j : Nat) (hj : L[j]? = some c) (hr : RowC T 1 v n xs c) (k : Nat) (h63 : n + k ≤ maxLen) (hbytes : (n + k) * by_ ≤ 140737488355328) :
    ∃ v' w' c', (Builtin.append_ #[t, tn] ty #[v, .int kq k]).run P w = .ok v' w' ∧ RowC T 1 v' (n + k) (xs ++ List.replicate k z) c' ∧ St B w0 w' (L.set j c') := by
  have hsmall : n + k ≤ 9223372036854775807 := by simp only [maxLen] at h63; omega
  have hl := hr.len
  have hlen : (xs ++ List.replicate k z).length = (n + k) * 1 := by rw [List.length_append, hl, List.length_replicate]; omega
  have hw : IntKind.i64.wrap (k : Int) = k := by rw [IntKind.wrap_i64]; omega
  have hneg : ¬ ((k : Int) < 0) := by omega
  have hkb : k * by_ ≤ 140737488355328 := Nat.le_trans (Nat.mul_le_mul_right _ (Nat.le_add_left k n)) hbytes
  have h48i : ¬ (281474976710656 < (k : Int) * (by_ : Int)) := by rw [← Int.natCast_mul]; omega
  have grown : ∀ (old : Nat), old < n + k →
      RowC T 1 (.slice (some ⟨w.heap.size, 0, none⟩) (n + k) (grownCap w (n + k) old T)) (n + k) (xs ++ List.replicate k z)
        [(w.heap.size, .cells (xs.toArray ++ Builtin.zeroCells z.cells k ++ Builtin.zeroCells z.cells (grownCap w (n + k) old T - (n + k))) T (0, 0))] := by
    intro old ho
    have hge := grownCap_ge w (n + k) old T
    refine RowC.fresh _ _ hlen hge (grownCap_le_maxLen w (n + k) old T h63) ?_ ?_
    · simp only [Array.size_append, List.size_toArray, size_zeroCells, hzs, hl]
      simp
      omega
    · simp only [Array.toList_append, hzs, zeroCells_one]
      rw [← hlen]
      exact List.take_left
  subst hby
  rcases hr.2 with ⟨rfl, rfl, rfl⟩ | ⟨g, cp, cur, rfl, rfl, hnc, hcm, hcs, htake⟩
  · have hx0 : xs = [] := List.eq_nil_of_length_eq_zero (by simpa using hl)
    subst hx0
    by_cases hk0 : k = 0
    · subst hk0
      refine ⟨.slice none 0 0, w, [], ?_, by simpa using RowC.nil T 1, by rw [set_same hj]; exact hS⟩
      simp [Builtin.append_, run_underlying ht, run_underlying htn, sizeOf, typeInfo, hi, asInt, asIntOf, show IntKind.i64.wrap 0 = 0 from by decide]
    · have hrun := Lib.run_append_nil_zeros (P := P) w t tn ty T i z kq kn ht htn hi hz k (by omega) (by omega) (by omega) (by omega)
      have hgr := grown 0 (by omega)
      simp only [Nat.zero_add, List.nil_append, Array.empty_append] at hgr ⊢
      exact ⟨_, _, _, hrun, hgr, hS.renew j hj _ T⟩
  · by_cases hroom : n + k ≤ cp
    · have hg := (hS.own _ (List.mem_of_getElem? hj) (g, .cells cur T (0, 0)) (by simp)).1
      have hfit : n + (List.replicate k z).length ≤ cur.size := by rw [List.length_replicate, hcs]; omega
      have hst := run_storeCells_at P g n T (List.replicate k z) 0 cur w hg (by simpa using hfit) (by intro u hu; rw [(List.mem_replicate.1 hu).2]; exact hz1)
      have hrun : (Builtin.append_ #[t, tn] ty #[.slice (some ⟨g, 0, none⟩) n cp, .int kq k]).run P w =
          .ok (.slice (some ⟨g, 0, none⟩) (n + k) cp) (w.setRow g (cur.toList.take n ++ List.replicate k z ++ cur.toList.drop (n + (List.replicate k z).length)).toArray) := by
        simp only [Nat.add_zero] at hst
        by_cases hk0 : k = 0
        · subst hk0
          simp only [List.replicate_zero] at hst
          simp [Builtin.append_, run_underlying ht, run_underlying htn, sizeOf, typeInfo, hi, asInt, asIntOf, show IntKind.i64.wrap 0 = 0 from by decide, hsize, hnc, Addr.add_lit, hst]
        · simp [Builtin.append_, run_underlying ht, run_underlying htn, sizeOf, typeInfo, zeroValue, hi, hz, asInt, asIntOf, hw, hneg, h48i, hsize, hroom, hk0, hzs, zeroCells_one, Addr.add_lit, hst]
      refine ⟨_, _, _, hrun, RowC.fresh g (xs ++ List.replicate k z) hlen hroom hcm (X := (cur.toList.take n ++ List.replicate k z ++ cur.toList.drop (n + (List.replicate k z).length)).toArray) ?_ ?_, ?_⟩
      · simp only [List.size_toArray, List.length_append, List.length_take, List.length_drop, Array.length_toList, List.length_replicate]
        omega
      · have e : cur.toList.take n = xs := by rw [← htake, Nat.mul_one]
        rw [e, ← hlen]
        exact List.take_left
      · refine hS.change j hj _ rfl rfl rfl (by simp [World.setRow]) ?_ ?_ ?_ (by simp)
        · intro k hk hne
          have : g ≠ k := hne (g, .cells cur T (0, 0)) (by simp)
          exact setRow_other w g k _ (fun e => this e.symm)
        · intro x hx
          simp only [List.mem_singleton] at hx
          subst hx
          exact setRow_heap w g cur _ T _ hg
        · intro x hx
          simp only [List.mem_singleton] at hx
          subst hx
          exact .inl ⟨_, List.mem_singleton.2 rfl, rfl⟩
    · have holds : ∀ j u, xs[j]? = some u → w.cell? ((⟨g, 0, none⟩ : Addr).add j) = some u := (hr.owns hS j hj).cells (g := g) rfl
      have hfc := run_firstCells_some (P := P) (w := w.drew) i.size n ⟨g, 0, none⟩ n cp xs (by rw [hsize]; exact hl) (fun j u hu => by rw [World.cell?_drew]; exact holds j u hu)
      have hrun := Lib.run_append_grow_zeros (P := P) w t tn ty T i z kq kn ht htn hi hz (some ⟨g, 0, none⟩) n cp xs hfc k (by omega) (by omega) (by omega) (by omega) (by omega) (growslice_fits (by omega) hbytes)
      exact ⟨_, _, _, hrun, grown cp (by omega), hS.renew j hj _ T⟩
variable {ops : Array Oper} {rest : List Oper} {o : Oper} {a : Act} {Q : Exit → Act → World → Prop}
/-- 'append(s, make([]T, k)...)' at a row of the call's own. -/
theorem wpList_app0 (j : Nat) (t tn : TypeId) (i : TypeInfo) (z : Value) (kq kn : IntKind) (k : Nat) (s x : Operand) (hgd : o.guard = none) (ho : o.op = .call { callee := .builtin .append, args := #[s, x], argTypes := #[t, tn] })
    (X : Int) (hs : a.eval s = v) (hx : a.eval x = .int kq X) (ht : P.underlying t = some (.slice T)) (htn : P.underlying tn = some (.int kn)) (hi : P.info? T = some i) (hz : i.zero = some z) (hsize : i.size = 1) (hby : i.bytes = by_) (hzs : z.cells = #[z]) (hz1 : z.oneCell' = true)
    (hX : X = (k : Int)) (hS : St B w0 w L) (hj : L[j]? = some c) (hr : RowC T 1 v n xs c) (h63 : n + k ≤ maxLen) (hbytes : (n + k) * by_ ≤ 140737488355328)
    (h : ∀ v' c' w', RowC T 1 v' (n + k) (xs ++ List.replicate k z) c' → St B w0 w' (L.set j c') → wpList P ops Q rest (a.put o.dst v') w') : wpList P ops Q (o :: rest) a w := by
  subst hX
  refine wpList_plain hgd fun K hK => ?_
  obtain ⟨v', w', c', hrun, h2, h3⟩ := run_app0 (P := P) t tn o.type i z kq kn ht htn hi hz hsize hby hzs hz1 hS j hj hr k h63 hbytes
  unfold Oper.wp execOp
  simp only [ho, resolve, invoke, builtin, Sem.run_bind, Sem.run_pure, Result.andThen_ok, List.map_toArray, List.map_cons, List.map_nil, hs, hx, hrun]
  exact hK _ _ (h v' c' w' h2 h3)
end
end Go.Proofs.Ytdhnmcdgiddhdab

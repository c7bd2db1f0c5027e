/-
  Contract of codes.Read.
-/
import Derived.Test.YtdgpbgdpdmikaaaCodesR
import Derived.Test.YtdgpbgdpdmikaaaAppG
import Derived.Deep.RegionHeld3
set_option linter.unusedVariables false
set_option linter.unusedSimpArgs false
namespace Go.Proofs.Ytdgpbgdpdmikaaa
open Go.RowKit
set_option maxRecDepth 100000
theorem wp_build2 {P : Program} {o : Oper} {a : Act} {w : World} {K : Act → World → Prop} {Q : Exit → Act → World → Prop} (t : TypeId) (i1 i2 : Nat) (x1 x2 : Operand) (ho : o.op = .build t #[(i1, x1), (i2, x2)]) (v1 v2 : Value) (h1 : a.eval x1 = v1) (h2 : a.eval x2 = v2) (cells : Array Value)
    (hb : P.built t [(i1, v1), (i2, v2)] = some cells) (h : K (a.put o.dst (.agg cells)) w) : o.wp P a w K Q := by
  subst h1; subst h2
  refine wp_build t _ ho ?_ ?_
  · simp [hb]
  · simpa [hb] using h
/-- The cells of a code reader. -/
def rdrI (n f : Nat → Int) (sl : Nat → Value) : Array Value := arrI n ++ arrI f ++ ((List.range 16).map sl).toArray
theorem rdrI_n (n f : Nat → Int) (sl : Nat → Value) (k : Nat) (h : k < 16) : (rdrI n f sl)[k]? = some (.int .i64 (n k)) := by
  unfold rdrI
  rw [Array.getElem?_append_left (by rw [Array.size_append, arrI_size]; omega), Array.getElem?_append_left (by rw [arrI_size]; exact h), arrI_get _ _ h]
theorem rdrI_f (n f : Nat → Int) (sl : Nat → Value) (k : Nat) (h : k < 16) : (rdrI n f sl)[16 + k]? = some (.int .i64 (f k)) := by
  unfold rdrI
  rw [Array.getElem?_append_left (by rw [Array.size_append, arrI_size, arrI_size]; omega), Array.getElem?_append_right (by rw [arrI_size]; omega), arrI_size, show 16 + k - 16 = k from by omega, arrI_get _ _ h]
theorem rdrI_s (n f : Nat → Int) (sl : Nat → Value) (k : Nat) (h : k < 16) : (rdrI n f sl)[32 + k]? = some (sl k) := by
  unfold rdrI
  rw [Array.getElem?_append_right (by rw [Array.size_append, arrI_size, arrI_size]; omega), Array.size_append, arrI_size, arrI_size, show 32 + k - (16 + 16) = k from by omega]
  simp [h]
theorem rdrI_size (n f : Nat → Int) (sl : Nat → Value) : (rdrI n f sl).size = 48 := by
  unfold rdrI
  rw [Array.size_append, Array.size_append, arrI_size, arrI_size]
  simp
theorem rdrI_set (n f : Nat → Int) (sl : Nat → Value) (k : Nat) (hk : k < 16) (v : Value) : (rdrI n f sl).setIfInBounds (32 + k) v = rdrI n f (fun j => if j = k then v else sl j) := by
  apply Array.ext_getElem?
  intro j
  rw [Array.getElem?_setIfInBounds, rdrI_size]
  by_cases e : 32 + k = j
  · subst e
    rw [if_pos rfl, if_pos (by omega), rdrI_s _ _ _ _ hk, if_pos rfl]
  · rw [if_neg e]
    by_cases h1 : j < 16
    · rw [rdrI_n _ _ _ _ h1, rdrI_n _ _ _ _ h1]
    · by_cases h2 : j < 32
      · obtain ⟨i, rfl⟩ : ∃ i, j = 16 + i := ⟨j - 16, by omega⟩
        rw [rdrI_f _ _ _ _ (by omega), rdrI_f _ _ _ _ (by omega)]
      · obtain ⟨i, rfl⟩ : ∃ i, j = 32 + i := ⟨j - 32, by omega⟩
        by_cases h3 : i < 16
        · rw [rdrI_s _ _ _ _ h3, rdrI_s _ _ _ _ h3, if_neg (by omega)]
        · rw [Array.getElem?_eq_none (by rw [rdrI_size]; omega), Array.getElem?_eq_none (by rw [rdrI_size]; omega)]
theorem built_reader (f g : Nat → Int) : Try.prog.built 80 [(0, .agg (arrI f)), (1, .agg (arrI g))] = some (rdrI f g fun _ => .slice none 0 0) := by kernel_rfl
/-- The heaplets while codes are read: the bits' reader, the codes' reader, its sixteen rows. -/
def rdL (c : HL) (q : Nat) (n f : Nat → Int) (sl : Nat → Value) (cl : Nat → HL) (F : List HL) : List HL := c :: [(q, Obj.cells (rdrI n f sl) 80 (0, 0))] :: ((List.range 16).map cl ++ F)
theorem rdL_row (c : HL) (q : Nat) (n f : Nat → Int) (sl : Nat → Value) (cl : Nat → HL) (F : List HL) (k : Nat) (h : k < 16) : (rdL c q n f sl cl F)[k + 2]? = some (cl k) := by
  unfold rdL
  simp only [List.getElem?_cons_succ]
  rw [List.getElem?_append_left (by simp; exact h)]
  simp [h]
theorem rdL_set (c : HL) (q : Nat) (n f : Nat → Int) (sl : Nat → Value) (cl : Nat → HL) (F : List HL) (k : Nat) (h : k < 16) (c' : HL) : (rdL c q n f sl cl F).set (k + 2) c' = rdL c q n f sl (fun j => if j = k then c' else cl j) F := by
  unfold rdL
  simp only [List.set_cons_succ]
  rw [List.set_append_left _ _ (by simp; exact h)]
  congr 3
  apply List.ext_getElem?
  intro j
  rw [List.getElem?_set]
  by_cases e : k = j
  · subst e; simp [h]
  · rw [if_neg e]
    have e' : ¬ j = k := fun x => e x.symm
    by_cases hj : j < 16 <;> simp [hj, e']
theorem rdL_tail (c c' : HL) (q : Nat) (n f : Nat → Int) (sl : Nat → Value) (cl : Nat → HL) (F : List HL) : c' :: (rdL c q n f sl cl F).tail = rdL c' q n f sl cl F := rfl
theorem St.outer {B : Nat} {w0 w : World} {c : HL} {q : Nat} {n f : Nat → Int} {sl : Nat → Value} {cl : Nat → HL} {F : List HL} (h : St B w0 w (rdL c q n f sl cl F)) : St B w0 w (c :: F) := by
  refine h.reindex (fun i => if i = 0 then 0 else i + 17) (by intro i j; split <;> split <;> omega) _ ?_
  intro i x hi
  cases i with
  | zero => exact hi
  | succ i =>
    rw [if_neg (by omega)]
    unfold rdL
    rw [show i + 1 + 17 = (i + 16) + 2 from by omega]
    simp only [List.getElem?_cons_succ] at hi ⊢
    rw [List.getElem?_append_right (by simp)]
    simpa using hi
/-- The symbols among the first ones, by lengths, as rows. -/
def RowsTo (l : List Int) (i : Nat) (sl : Nat → Value) (cl : Nat → HL) : Prop := ∀ k, k < 16 → RowC 3 1 (sl k) (symsP (l.take i) k).length (iv (symsP (l.take i) k)) (cl k)
theorem RowsTo.step {l : List Int} {i K : Nat} {sl : Nat → Value} {cl : Nat → HL} (h : RowsTo l i sl cl) (hK : l[i]? = some (K : Int)) {v : Value} {c : HL} (hr : RowC 3 1 v ((symsP (l.take i) K).length + 1) (iv (symsP (l.take i) K) ++ [.int .i64 (i : Int)]) c) :
    RowsTo l (i + 1) (fun j => if j = K then v else sl j) (fun j => if j = K then c else cl j) := by
  intro k hk
  have h1 := symsP_take_succ l i k (K : Int) hK
  by_cases e : k = K
  · subst e
    rw [if_pos rfl] at h1
    simp only [if_true]
    rw [h1, iv_append, List.length_append]
    exact hr
  · rw [if_neg (by omega), List.append_nil] at h1
    simp only [if_neg e, h1]
    exact h k hk
theorem rdL_store {B : Nat} {w0 w : World} {a c c1 : HL} {q : Nat} {n f : Nat → Int} {sl : Nat → Value} {cl : Nat → HL} {F : List HL} {K : Nat} (hS : St B w0 w ((a :: rdL c q n f sl cl F).set (K + 2 + 1) c1)) (hK : K < 16) (v : Value) :
    St B w0 (w.setCell ⟨q, 32 + K, none⟩ v) (rdL c q n f (fun j => if j = K then v else sl j) (fun j => if j = K then c1 else cl j) F) := by
  have h1 : St B w0 w (rdL c q n f sl (fun j => if j = K then c1 else cl j) F) := by
    rw [← rdL_set _ _ _ _ _ _ _ K hK]
    exact hS.tl
  have h2 := h1.store 1 rfl (32 + K) v
  rw [rdrI_set _ _ _ _ hK] at h2
  exact h2
theorem rdL_out {B : Nat} {w0 w : World} {cu c : HL} {q : Nat} {n f : Nat → Int} {sl : Nat → Value} {cl : Nat → HL} {F : List HL} (h : St B w0 w (rdL c q n f sl cl (cu :: F))) : St B w0 w (cu :: c :: F) := by
  refine h.reindex (fun i => if i = 0 then 18 else if i = 1 then 0 else i + 17) (by intro i j; split <;> split <;> (try split) <;> (try split) <;> omega) _ ?_
  intro i x hi
  rcases i with _ | _ | i
  · exact hi
  · exact hi
  · rw [if_neg (by omega), if_neg (by omega)]
    unfold rdL
    rw [show i + 1 + 1 + 17 = (i + 17) + 2 from by omega]
    simp only [List.getElem?_cons_succ] at hi ⊢
    rw [List.getElem?_append_right (by simp)]
    simp only [List.length_map, List.length_range]
    rw [show i + 17 - 16 = i + 1 from by omega, List.getElem?_cons_succ]
    exact hi
theorem rdL_cr {B : Nat} {w0 w : World} {l : List Int} {c : HL} {q : Nat} {sl : Nat → Value} {cl : Nat → HL} {F : List HL} (hR : RowsTo l l.length sl cl) (h : St B w0 w (rdL c q (fun k => (cntP l k : Int)) (fun k => (fstP l k : Int)) sl cl F)) : CrOk w q l sl := by
  have h1 := fun k => h.cell 1 rfl (List.mem_singleton.2 rfl) k
  refine ⟨fun k hk => (h1 k).trans (rdrI_n _ _ _ k hk), fun k hk => (h1 _).trans (rdrI_f _ _ _ k hk), fun k hk => (h1 _).trans (rdrI_s _ _ _ k hk), fun k hk => ?_⟩
  have := (hR k hk).rd h _ (rdL_row _ _ _ _ _ _ _ k hk)
  rw [List.take_length] at this
  exact this
section
variable {B : Nat} {w0 w : World} {F : List HL} {c : HL}
theorem St.rangeAt {L : List HL} (hS : St B w0 w L) (i : Nat) {g : Nat} {X : Array Value} {T : TypeId} (hi : L[i]? = some [(g, .cells X T (0, 0))]) : w.rangeAt g 0 X.toList := by
  intro j v hv
  rw [Nat.zero_add, hS.cell i hi (List.mem_singleton.2 rfl) j]
  simpa using hv
theorem read_bad (v : Value) (pv : Value) (l : List Int) (e most : Int) (hS : St B w0 w F) (h : Rd w 1 v l.length (iv l)) (hn : l.length ≤ 1000000) (hb : okLens l = false) :
    Calls Try.prog 27 #[pv, v, .int .i64 e, .int .i64 most] w fun e w' => e = .returned (.tuple #[.slice none 0 0, .int .i64 10]) ∧ St B w0 w' F := by
  have HB := Lib.hid hb
  clear hb
  go_enter Try.func27, Try.ntmps27
  go_wp2_with fail
  refine (counts_any v l w h hn).mono ?_
  rintro e w1 ⟨f, rfl, _, hS1⟩
  rw [HB.out]
  have hS2 := hS1.alloc (.cells (arrI fun _ => 0) 70)
  have hz : (#[.int .i64 0, .int .i64 0, .int .i64 0, .int .i64 0, .int .i64 0, .int .i64 0, .int .i64 0, .int .i64 0, .int .i64 0, .int .i64 0, .int .i64 0, .int .i64 0, .int .i64 0, .int .i64 0, .int .i64 0, .int .i64 0] : Array Value) = arrI (fun _ => 0) := rfl
  go_wp2_with (first | (refine wpList_storeRow 0 70 _ _ rfl rfl rfl rfl (h16 _) (by rw [arrI_size, arrI_size]) (arrI_all _) hS2 rfl ?_; intro w2 hS3))
  go_ret2
  exact ⟨rfl, hS.mono hS3.below⟩
/-- What Read comes to. -/
def RdOut (B : Nat) (w0 : World) (F : List HL) (p : Nat) (bs : List UInt8) (at_ : Nat) (r : Int × List Int × Nat) (x : Ending) (w' : World) : Prop :=
  ∃ u cu, x = .returned (.tuple #[u, .int .i64 r.1]) ∧ RowC 3 1 u r.2.1.length (iv r.2.1) cu ∧ ∃ c' n, RdC p bs (at_ + n) c' ∧ St B w0 w' (cu :: c' :: F) ∧ (r.1 = 0 → at_ + n = r.2.2)
set_option maxHeartbeats 4000000 in
theorem read_any (p : Nat) (v : Value) (l : List Int) (bs : List UInt8) (at_ : Nat) (e most : Int) (hS : St B w0 w (c :: F)) (hc : RdC p bs at_ c) (h : Rd w 1 v l.length (iv l)) (hn : l.length ≤ 300) (hbn : bs.length ≤ 1000000) (hok : okLens l = true) 
    (hv : ∀ w' c', St B w0 w' (c' :: F) → Rd w' 1 v l.length (iv l)) :
    Calls Try.prog 27 #[.pointer (some ⟨p, 0, none⟩), v, .int .i64 e, .int .i64 most] w fun x w' => RdOut B w0 F p bs at_ (readP l e most (8 * bs.length + 1) [] at_ ((bitsB bs).drop at_)) x w' := by
  obtain ⟨i0, i0a, i0b, i0c, i0d⟩ := info_parts infoInt
  have hok2 := (okLens_iff l).1 hok
  have hk := hok2.2.1
  have HOK := Lib.hid hok
  have HALL := Lib.hid hok2.2.2
  obtain ⟨ao, cap, rfl⟩ := h.shape
  have hnl : (l.length : Int) ≤ 300 := by omega
  have HV : Hid (∀ w' c', St B w0 w' (c' :: [] :: F) → Rd w' 1 (.slice ao l.length cap) l.length (iv l)) := Lib.hid fun w' c' h => hv w' c' h.swap.tl
  have HC := Lib.hid hc
  replace hS := hS.one_nil.swap
  clear hok hok2 hv hc
  have hz : (#[.int .i64 0, .int .i64 0, .int .i64 0, .int .i64 0, .int .i64 0, .int .i64 0, .int .i64 0, .int .i64 0, .int .i64 0, .int .i64 0, .int .i64 0, .int .i64 0, .int .i64 0, .int .i64 0, .int .i64 0, .int .i64 0] : Array Value) = arrI (fun _ => 0) := rfl
  go_enter Try.func27, Try.ntmps27
  go_wp2_with fail
  refine (counts_any _ l w h (by omega)).mono ?_
  rintro e w1 ⟨f, rfl, hf, hS1⟩
  rw [HOK.out]
  replace hf := hf HOK.out
  rw [hf]
  clear hf
  have hS2 := hS1.alloc (.cells (arrI fun _ => 0) 70)
  go_wp2_with (first | (refine wpList_storeRow 0 70 _ _ rfl rfl rfl rfl (h16 _) (by rw [arrI_size, arrI_size]) (arrI_all _) hS2 rfl ?_; intro w2 hS3))
  have hrg := St.rangeAt hS3 0 rfl
  have hu := Try.underlying70
  have hi : (Try.prog.info? 70).map (·.size) = some (arrI fun k => (cntP l k : Int)).toList.length := h16 _
  have hr0 : w2.drew.rangeAt w1.heap.size 0 (arrI fun k => (cntP l k : Int)).toList := St.rangeAt hS3.drew 0 rfl
  refine wp_region_held_drew (S := fun w' => w'.rangeAt w1.heap.size 0 (arrI fun k => (cntP l k : Int)).toList) mixed hr0 (fun _ => ?_)
  refine wpAnyH_take (i := 0) (v := .agg ((arrI fun k => (cntP l k : Int)))) rfl (by kernel_rfl) (by kernel_rfl) (by kernel_rfl) (fun _ _ _ h => h) (yieldsIf_load_mid (by rfl) _ _ rfl _ _ rfl ((arrI fun k => (cntP l k : Int))).toList _ (fun w hw => hw) hu rfl hi) hr0 ?_
  simp only [Act.put, List.setIfInBounds_toArray, List.set_cons_zero, List.set_cons_succ]
  refine wpAnyH_take (i := 1) (v := .agg ((arrI fun k => (cntP l k : Int)))) rfl (by kernel_rfl) (by kernel_rfl) (by kernel_rfl) (fun _ _ _ h => h) (yieldsIf_load_mid (by rfl) _ _ rfl _ _ rfl ((arrI fun k => (cntP l k : Int))).toList _ (fun w hw => hw) hu rfl hi) hr0 ?_
  simp only [Act.put, List.setIfInBounds_toArray, List.set_cons_zero, List.set_cons_succ]
  refine wpAnyH_ready (rs := [2]) (by kernel_rfl) (by simp) (AllReadyH.cons rfl (fun K2 hK2 => ?_) AllReadyH.nil)
  rw [if_pos (by rfl)]
  go_simp
  refine (firsts_any l _ hk).mono ?_
  rintro e w3 ⟨rfl, hS4⟩
  have hS5 := (hS.join hS3).drew.mono hS4.below
  refine hK2.out _ _ (St.rangeAt hS5 0 rfl) (fun hx0 => ?_)
  refine wpAnyH_ready (rs := [3]) (by kernel_rfl) (by simp) (AllReadyH.cons rfl (fun K3 hK3 => ?_) AllReadyH.nil)
  rw [if_pos (by rfl)]
  refine wp_build2 _ _ _ _ _ rfl _ _ rfl rfl _ (built_reader _ _) ?_
  refine hK3.out _ _ (St.rangeAt hS5 0 rfl) (fun hx1 => ?_)
  refine wpAnyH_ready (rs := [4]) (by kernel_rfl) (by simp) (AllReadyH.cons rfl (fun K4 hK4 => ?_) AllReadyH.nil)
  rw [if_pos (by rfl)]
  go_simp
  have hS6 := hS5.alloc (.cells (rdrI (fun k => (cntP l k : Int)) (fun k => (fstP l k : Int)) fun _ => .slice none 0 0) 80)
  refine hK4.out _ _ (St.rangeAt hS6 1 rfl) (fun hx2 => ?_)
  refine wpAnyH_ready (rs := [5]) (by kernel_rfl) (by simp) (AllReadyH.cons rfl (fun K5 hK5 => ?_) AllReadyH.nil)
  rw [if_pos (by rfl)]
  go_simp
  refine hK5.out _ _ (St.rangeAt hS6 1 rfl) (fun hx3 => ?_)
  refine wpAnyH_done (by kernel_rfl) ?_ _
  have hS7 : St B w0 _ (rdL c w3.heap.size (fun k => (cntP l k : Int)) (fun k => (fstP l k : Int)) (fun _ => .slice none 0 0) (fun _ => []) ([] :: F)) := (hS6.swap.tl.swap.nils 16)
  have hR0 : RowsTo l 0 (fun _ => .slice none 0 0) (fun _ => []) := fun k _ => by
    simp only [List.take_zero]
    exact RowC.nil _ _
  have HR := Lib.hid (And.intro hR0 hS7)
  clear hS1 hS2 hS3 hS4 hS5 hS6 hS7 hR0 hrg hr0 hS hu hi hz
  clear hx0 hx1 hx2 hx3
  generalize w3.heap.size = q at *
  generalize (World.alloc w3 _) = w4 at *
  have hvw := HV.out w4 c HR.out.2.outer
  go_wp2_with fail
  go_loopg [31] l.length (fun m s31 wr => ∃ i : Nat, i + m = l.length ∧ s31 = .int .i64 (i : Int) ∧ ∃ sl cl, Hid (RowsTo l i sl cl) ∧ St B w0 wr (rdL c q (fun k => (cntP l k : Int)) (fun k => (fstP l k : Int)) sl cl ([] :: F)))
  case atStart => exact ⟨0, by omega, rfl, _, _, Lib.hid HR.out.1, HR.out.2⟩
  case round =>
    clear HR hvw
    obtain ⟨i, hi, rfl, sl, cl, HR, hS⟩ := hrel
    cases gk with
    | zero =>
      obtain rfl : i = l.length := by omega
      clear hi
      go_wp2_with fail
      have HCR : Hid (∀ w' c' cu, St B w0 w' (rdL c' q (fun k => (cntP l k : Int)) (fun k => (fstP l k : Int)) sl cl (cu :: F)) → CrOk w' q l sl) := Lib.hid fun w' c' cu h => rdL_cr HR.out h
      go_loopg [15] (8 * bs.length + 1) (fun m s15 wr => ∃ out n c cu, Hid (RowC 3 1 s15 out.length (iv out) cu ∧ RdC p bs (at_ + n) c ∧ St B w0 wr (rdL c q (fun k => (cntP l k : Int)) (fun k => (fstP l k : Int)) sl cl (cu :: F)) ∧ readP l e most m out (at_ + n) ((bitsB bs).drop (at_ + n)) = readP l e most (8 * bs.length + 1) [] at_ ((bitsB bs).drop at_)) ∧ 8 * bs.length < m + (at_ + n) ∧ out.length ≤ n)
      case atStart => exact ⟨[], 0, c, [], Lib.hid ⟨RowC.nil _ _, HC.out, hS, by simp⟩, by omega, by simp⟩
      case round =>
        clear hS
        obtain ⟨out, n, c2, cu, HQ, hm, hon⟩ := hrel
        have hle : at_ + n ≤ 8 * bs.length := by
          obtain ⟨_, _, _, _, h⟩ := HQ.out.2.1
          exact h
        have hol : (out.length : Int) ≤ 8000000 := by omega
        have hr := HQ.out.1
        obtain ⟨ao5, cap5, rfl⟩ := hr.shape
        cases gk with
        | zero => omega
        | succ m =>
          by_cases q1 : most ≤ (out.length : Int)
          · have he := HQ.out.2.2.2
            rw [readP, if_pos q1] at he
            have HE := Lib.hid he
            clear he
            go_wp2_with fail
            go_ret2
            rw [← HE.out]
            exact ⟨_, [], rfl, RowC.nil _ _, c2, n, HQ.out.2.1, (rdL_out HQ.out.2.2.1).tl.one_nil, fun h => by cases h⟩
          · have he := HQ.out.2.2.2
            rw [readP, if_neg q1] at he
            have HE := Lib.hid he
            clear he
            go_wp2_with fail
            refine (symbol_any p q l sl bs (at_ + n) HQ.out.2.2.1 HQ.out.2.1 (by omega) hk hn (fun w' c' h => HCR.out w' c' cu h)).mono ?_
            rintro e w6 ⟨rfl, c3, n3, hc3, hS3, hn3⟩
            replace hS3 : St B w0 w6 (rdL c3 q (fun k => (cntP l k : Int)) (fun k => (fstP l k : Int)) sl cl (cu :: F)) := hS3
            have he := HE.out
            have hlen := symP_len l 15 0 0 ((bitsB bs).drop (at_ + n))
            cases hsy : symP l 15 0 0 ((bitsB bs).drop (at_ + n)) with
            | none =>
              rw [hsy] at he
              have HE2 := Lib.hid he
              have HC3 := Lib.hid (And.intro hc3 hS3)
              clear he HE hn3 hlen hsy hS3
              simp only [symInt]
              go_wp2_with fail
              go_ret2
              rw [← HE2.out]
              exact ⟨_, [], rfl, RowC.nil _ _, c3, n + n3, by rw [← Nat.add_assoc]; exact HC3.out.1, (rdL_out HC3.out.2).tl.one_nil, fun h => by cases h⟩
            | some sn =>
              obtain ⟨sy, ns⟩ := sn
              rw [hsy] at he
              obtain rfl := hn3 sy ns hsy
              obtain ⟨l1, l2, l3, l4⟩ := hlen sy ns hsy
              have HE2 := Lib.hid he
              have HC3 := Lib.hid hc3
              have hs0 : (0 : Int) ≤ (sy : Int) := by omega
              clear he HE hn3 hlen hsy hc3
              simp only [symInt]
              by_cases q2 : (sy : Int) = e
              · subst q2
                have he := HE2.out
                simp only [if_true] at he
                have HE3 := Lib.hid he
                clear he HE2
                go_wp2_with (at_builtin; (refine wpList_app1 18 22 i0 (.int .i64 0) _ _ _ rfl rfl rfl rfl Try.underlying22 i0a i0b i0c i0d rfl hS3 rfl hr rfl ?_ ?_ ?_); (unfold maxLen; omega); omega; intro v1 c1 w7 hr1 hS4)
                go_ret2
                rw [← HE3.out]
                refine ⟨_, c1, rfl, ?_, c3, n + ns, by rw [← Nat.add_assoc]; exact HC3.out, rdL_out hS4, fun _ => (Nat.add_assoc _ _ _).symm⟩
                simpa [iv] using hr1
              · have he := HE2.out
                simp only [if_neg q2] at he
                have HE3 := Lib.hid he
                clear he HE2
                go_wp2_with (at_builtin; (refine wpList_app1 18 22 i0 (.int .i64 0) _ _ _ rfl rfl rfl rfl Try.underlying22 i0a i0b i0c i0d rfl hS3 rfl hr rfl ?_ ?_ ?_); (unfold maxLen; omega); omega; intro v1 c1 w7 hr1 hS4)
                go_roundg m
                case measure => omega
                case rel =>
                  refine ⟨out ++ [(sy : Int)], n + ns, c3, c1, Lib.hid ⟨?_, by rw [← Nat.add_assoc]; exact HC3.out, hS4, ?_⟩, by omega, by simp; omega⟩
                  · simpa [iv] using hr1
                  · rw [← HE3.out, ← Nat.add_assoc, List.drop_drop]
    | succ m =>
      have hlt : i < l.length := by omega
      obtain ⟨k, hk⟩ : ∃ k, l[i]? = some k := ⟨_, List.getElem?_eq_getElem hlt⟩
      obtain ⟨ad, rfl, hcell⟩ := (HV.out wr c hS.outer).at (iv_get l i k hk)
      have hk0 := HALL.out k (List.mem_of_getElem? hk)
      obtain ⟨K, rfl⟩ := Int.eq_ofNat_of_zero_le hk0.1
      have hK : K < 16 := by omega
      have hr := HR.out K hK
      have hsl := symsP_length l K i (by omega)
      have hcn : (l.take i).count (K : Int) ≤ 300 := Nat.le_trans List.count_le_length (by rw [List.length_take]; omega)
      rw [← hsl] at hcn
      have hld := hS.cell 1 rfl (List.mem_singleton.2 rfl) (32 + K)
      rw [rdrI_s _ _ _ _ hK] at hld
      have hfr := hS.free 1 rfl (List.mem_singleton.2 rfl) (32 + K)
      have HK := Lib.hid hk
      clear hk hsl
      obtain ⟨aos, caps, hsv⟩ := hr.shape
      have HRow := Lib.hid hr
      rw [hsv] at hr hld
      have hSa := (hS.alloc (.cells #[.int .i64 (i : Int)] 3)).drew
      have hone : Rd (wr.alloc (.cells #[.int .i64 (i : Int)] 3)).drew 1 (.slice (some ⟨wr.heap.size, 0, none⟩) 1 1) 1 [.int .i64 (i : Int)] := (Rd.one wr _ _).drewN 1
      have hld2 := ((hS.alloc (.cells #[.int .i64 (i : Int)] 3)).cell 2 rfl (List.mem_singleton.2 rfl) (32 + K)).trans (rdrI_s (fun k => (cntP l k : Int)) (fun k => (fstP l k : Int)) sl K hK)
      rw [hsv] at hld2
      have HSV := Lib.hid hsv
      clear hsv
      have b1 : (0 : Int) ≤ (K : Int) := by omega
      have b2 : (K : Int) < 16 := by omega
      go_wp2_with fail
      have hrow := rdL_row c q (fun k => (cntP l k : Int)) (fun k => (fstP l k : Int)) sl cl ([] :: F) K hK
      rw [← List.getElem?_cons_succ (a := [(wr.heap.size, Obj.cells #[.int .i64 (i : Int)] 3 (0, 0))])] at hrow
      have h1c : ∀ u ∈ [Value.int .i64 (i : Int)], u.oneCell' = true := by
        intro u hu
        rw [List.mem_singleton.1 hu]
        rfl
      have h63 : (symsP (l.take i) K).length + 1 ≤ maxLen := by unfold maxLen; omega
      have hby : ((symsP (l.take i) K).length + 1) * 8 ≤ 140737488355328 := by omega
      go_region_law (refine step_app (n := (symsP (l.take i) K).length) (m := 1) (xs := iv (symsP (l.take i) K)) (news := [.int .i64 (i : Int)]) (K + 2 + 1) 22 i0 (.int .i64 0) _ _ rfl rfl rfl rfl Try.underlying22 i0a i0b i0c i0d rfl (by decide) hSa hrow hr hone h1c h63 hby (fun v1 c1 w2 hr1 hS2 => ?_); obtain ⟨ao1, cap1, hv1⟩ := hr1.shape; subst hv1; have k0 := (hS2.cell 2 rfl (List.mem_singleton.2 rfl) (32 + K)).trans (rdrI_s (fun k => (cntP l k : Int)) (fun k => (fstP l k : Int)) sl K hK); have f0 := hS2.free 2 rfl (List.mem_singleton.2 rfl) (32 + K))
      all_goals
        go_wp2_with fail
        go_roundg m
        (case measure => omega)
        (case rel => exact ⟨i + 1, by omega, by go_num, _, _, Lib.hid (RowsTo.step HR.out HK.out hr1), rdL_store hS2 hK _⟩)
end
end Go.Proofs.Ytdgpbgdpdmikaaa

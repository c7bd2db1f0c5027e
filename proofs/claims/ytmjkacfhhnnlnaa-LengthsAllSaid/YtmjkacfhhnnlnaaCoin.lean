/-
  Coins in memory; lengths.merged, lengths.count.
-/
import Derived.Test.YtmjkacfhhnnlnaaMkF
import Derived.Test.YtmjkacfhhnnlnaaPureLenC
import Derived.Test.YtmjkacfhhnnlnaaAppG
import Derived.Test.YtmjkacfhhnnlnaaGuard
set_option linter.unusedVariables false
set_option linter.unusedSimpArgs false
namespace Go.Proofs.Ytmjkacfhhnnlnaa
open Go.RowKit
set_option maxRecDepth 100000
theorem infoCoinP : (Try.prog.info? 37).map (fun i => (i.zero, i.size, i.bytes)) = some (some (.pointer none), 1, 8) := by kernel_rfl
/-- A pointer to a block. -/
def pp (p : Nat) : Value := .pointer (some ⟨p, 0, none⟩)
/-- A coin that lies in a heaplet. -/
inductive CoinAt (A : List (Nat × Obj)) : Nat → Coin → Prop where
  | leaf {p w s : Nat} : (p, Obj.cells #[.int .i64 (w : Int), .int .i64 (s : Int), .pointer none, .pointer none] 39 (0, 0)) ∈ A → CoinAt A p (.leaf w s)
  | pack {p q r : Nat} {a b : Coin} : (p, Obj.cells #[.int .i64 ((a.worth + b.worth : Nat) : Int), .int .i64 0, .pointer (some ⟨q, 0, none⟩), .pointer (some ⟨r, 0, none⟩)] 39 (0, 0)) ∈ A → CoinAt A q a → CoinAt A r b → CoinAt A p (.pack a b)
theorem CoinAt.mono {A A' : List (Nat × Obj)} {p : Nat} {c : Coin} (h : CoinAt A p c) (hA : A ⊆ A') : CoinAt A' p c := by
  induction h with
  | leaf h => exact .leaf (hA h)
  | pack h _ _ i1 i2 => exact .pack (hA h) i1 i2
section
variable {B : Nat} {w0 w : World} {L : List HL} {A : List (Nat × Obj)} {p : Nat} {c : Coin}
theorem CoinAt.worth (h : CoinAt A p c) (hS : St B w0 w L) (i : Nat) (hi : L[i]? = some A) : w.cell? ⟨p, 0, none⟩ = some (.int .i64 (c.worth : Int)) := by
  cases h with
  | leaf h => exact hS.cell i hi h 0
  | pack h _ _ => exact hS.cell i hi h 0
end
/-- The pointers of coins. -/
def pv (l : List (Nat × Coin)) : List Value := l.map fun x => .pointer (some ⟨x.1, 0, none⟩)
theorem pv_length (l : List (Nat × Coin)) : (pv l).length = l.length := by simp [pv]
theorem pv_get (l : List (Nat × Coin)) (i : Nat) (x : Nat × Coin) (h : l[i]? = some x) : (pv l)[i]? = some (.pointer (some ⟨x.1, 0, none⟩)) := by simp [pv, h]
theorem pv_append (a b : List (Nat × Coin)) : pv (a ++ b) = pv a ++ pv b := by simp [pv]
def keyP (x : Nat × Coin) : Nat := x.2.worth
/-- What each coin is worth can be read. -/
def Reads (w : World) (l : List (Nat × Coin)) : Prop := ∀ x ∈ l, w.cell? ⟨x.1, 0, none⟩ = some (.int .i64 (x.2.worth : Int)) ∧ x.2.worth ≤ 1000000000000000000
theorem Reads.keep {w w' : World} {l : List (Nat × Coin)} (h : Reads w l) (hb : Below w.heap.size w w') : Reads w' l := by
  intro x hx
  obtain ⟨h1, h2⟩ := h x hx
  exact ⟨by rw [hb.cell (World.block_lt_of_cell? w _ h1)]; exact h1, h2⟩
theorem Reads.tail {w : World} {x : Nat × Coin} {l : List (Nat × Coin)} (h : Reads w (x :: l)) : Reads w l := fun y hy => h y (List.mem_cons_of_mem _ hy)
/-- A slice that is read and of which the first one was taken. -/
theorem Rd.tail {w : World} {x : Nat × Coin} {l : List (Nat × Coin)} {ad : Addr} {cap : Nat} (h : Rd w 1 (.slice (some ad) (x :: l).length cap) (x :: l).length (pv (x :: l))) :
    (¬ cap = 1 → Rd w 1 (.slice (some (ad.add 1)) l.length (cap - 1)) l.length (pv l)) ∧ (cap = 1 → Rd w 1 (.slice (some ad) l.length (cap - 1)) l.length (pv l)) := by
  constructor
  · intro hc
    have := h.drop 1 (by simp) (ao' := some (ad.add 1)) (fun _ => by simp) (fun e => absurd e hc)
    simpa [pv] using this
  · intro hc
    have := h.drop 1 (by simp) (ao' := some ad) (fun e => absurd hc e) (fun _ => rfl)
    simpa [pv] using this
def MergeOut (l1 l2 : List (Nat × Coin)) (w : World) (e : Ending) (w' : World) : Prop :=
  ∃ (v : Value) (c : List (Nat × Obj)), e = .returned v ∧ RowC 37 1 v (mergeK keyP l1 l2).length (pv (mergeK keyP l1 l2)) c ∧ St w.heap.size w w' [c]
set_option maxHeartbeats 1500000 in
theorem merged_any (l1 l2 : List (Nat × Coin)) (v1 v2 : Value) (w : World) (h1 : Rd w 1 v1 l1.length (pv l1)) (h2 : Rd w 1 v2 l2.length (pv l2)) (r1 : Reads w l1) (r2 : Reads w l2) (hn : l1.length + l2.length ≤ 1000000) :
    Calls Try.prog 18 #[v1, v2] w (MergeOut l1 l2 w) := by
  obtain ⟨i0, i0a, i0b, i0c, i0d⟩ := info_parts infoCoinP
  obtain ⟨ao1, cap1, rfl⟩ := h1.shape
  obtain ⟨ao2, cap2, rfl⟩ := h2.shape
  have H1 := Lib.hid (And.intro h1 (And.intro h2 (And.intro r1 r2)))
  have hS0 := (St.init w).one_nil
  clear h1 h2 r1 r2
  go_enter Try.func18, Try.ntmps18
  go_wp2_with fail
  go_loopg [0, 1, 5] (l1.length + l2.length) (fun M s0 s1 s5 wr => ∃ (a b out : List (Nat × Coin)) (aoa aob : Option Addr) (ca cb : Nat) (c : List (Nat × Obj)), a.length + b.length = M ∧ out.length + M = l1.length + l2.length ∧ s0 = .slice aoa a.length ca ∧ s1 = .slice aob b.length cb ∧ RowC 37 1 s5 out.length (pv out) c ∧ St w.heap.size w wr [c] ∧
    Hid (out ++ mergeK keyP a b = mergeK keyP l1 l2) ∧ Hid (Rd w 1 (.slice aoa a.length ca) a.length (pv a) ∧ Rd w 1 (.slice aob b.length cb) b.length (pv b) ∧ Reads w a ∧ Reads w b))
  case atStart => exact ⟨l1, l2, [], ao1, ao2, cap1, cap2, [], rfl, by simp, rfl, rfl, RowC.nil _ _, hS0, Lib.hid rfl, H1⟩
  case round =>
    clear hS0
    obtain ⟨a, b, out, aoa, aob, ca, cb, c, hM, hol, rfl, rfl, hr, hS, HE, HR⟩ := hrel
    obtain ⟨ao5, cap5, rfl⟩ := hr.shape
    have hob : out.length ≤ 1000000 := by omega
    have hSd : ∀ x : Nat × Coin, St w.heap.size w (wr.drew.drew.alloc (.cells #[.pointer (some ⟨x.1, 0, none⟩)] 37)) [c] := fun x => hS.drew.drew.alloc' _
    cases a with
    | nil =>
      cases b with
      | nil =>
        simp only [List.length_nil] at *
        go_wp2_with fail
        go_ret
        have e := HE.out
        rw [mergeK_nil, List.append_nil] at e
        refine ⟨.slice ao5 out.length cap5, c, rfl, ?_, hS⟩
        rw [← e]
        exact hr
      | cons y b =>
        obtain ⟨adb, rfl, hcb⟩ := (HR.out.2.1.keep hS.below).at (pv_get (y :: b) 0 y rfl)
        have hcb' : wr.cell? adb = some (.pointer (some ⟨y.1, 0, none⟩)) := hcb
        have qb1 : ((b.length : Int) + 1 == 0) = false := by rw [beq_eq_false_iff_ne]; omega
        have qb2 : (0 : Int) < (b.length : Int) + 1 := by omega
        have hbc := Rd.cap HR.out.2.1
        simp only [List.length_cons] at hbc
        obtain ⟨hbc1, hbc2⟩ := hbc
        have hbc3 : (1 : Int) ≤ (cb : Int) := by omega
        have hbc4 : 1 ≤ cb := by omega
        have hbc5 : (1 : Int) ≤ (b.length : Int) + 1 := by omega
        have hbc6 : 1 ≤ b.length + 1 := by omega
        by_cases hca : cb = 1
        · subst hca
          obtain rfl : b = [] := List.eq_nil_of_length_eq_zero (by omega)
          have htl := (Rd.tail HR.out.2.1).2 rfl
          have HTL := Lib.hid htl
          clear htl
          go_wp2_with (first | ((with_reducible refine wpStill_plain ?_ ?_ (fun _ _ => ?_)); rfl; rfl) | (with_reducible refine wpStill_nil ?_) | ((with_reducible refine wpStill_wantg 3 false ?_ ?_ ?_ (fun _ _ => ?_)); rfl; kernel_rfl; rfl) | ((with_reducible refine wpStill_skipg 7 true ?_ ?_ (fun _ _ => ?_)); rfl; kernel_rfl) | ((with_reducible refine wp_draw_all (id := 3) mixed ?_ (fun _ _ => ?_)); kernel_rfl))
          go_region_law (refine step_app (n := out.length) (m := 1) (xs := pv out) (news := [.pointer (some ⟨y.1, 0, none⟩)]) 0 36 i0 (.pointer none) _ _ rfl rfl rfl rfl Try.underlying36 i0a i0b i0c i0d rfl (by decide) (hSd y) rfl hr (Rd.one _ _ _) (by simp [Value.oneCell']) (by unfold maxLen; omega) (by omega) (fun v1 c1 w2 hr1 hS2 => ?_))
          go_wp2_with fail
          cases gk with
          | zero => simp at hM
          | succ M =>
            go_roundg M
            case measure => omega
            case rel => exact ⟨[], [], out ++ [y], _, _, _, _, c1, by simp at hM ⊢; omega, by simp at hol hM ⊢; omega, rfl, rfl, by simpa [pv] using hr1, hS2, Lib.hid (by rw [List.append_assoc, ← HE.out, mergeK_nil, mergeK_nil]; rfl), Lib.hid ⟨HR.out.1, HTL.out, HR.out.2.2.1, HR.out.2.2.2.tail⟩⟩
        · have htl := (Rd.tail HR.out.2.1).1 hca
          have HTL := Lib.hid htl
          clear htl
          go_wp2_with (first | ((with_reducible refine wpStill_plain ?_ ?_ (fun _ _ => ?_)); rfl; rfl) | (with_reducible refine wpStill_nil ?_) | ((with_reducible refine wpStill_wantg 3 false ?_ ?_ ?_ (fun _ _ => ?_)); rfl; kernel_rfl; rfl) | ((with_reducible refine wpStill_skipg 7 true ?_ ?_ (fun _ _ => ?_)); rfl; kernel_rfl) | ((with_reducible refine wp_draw_all (id := 3) mixed ?_ (fun _ _ => ?_)); kernel_rfl))
          go_region_law (refine step_app (n := out.length) (m := 1) (xs := pv out) (news := [.pointer (some ⟨y.1, 0, none⟩)]) 0 36 i0 (.pointer none) _ _ rfl rfl rfl rfl Try.underlying36 i0a i0b i0c i0d rfl (by decide) (hSd y) rfl hr (Rd.one _ _ _) (by simp [Value.oneCell']) (by unfold maxLen; omega) (by omega) (fun v1 c1 w2 hr1 hS2 => ?_))
          go_wp2_with fail
          cases gk with
          | zero => simp at hM
          | succ M =>
            go_roundg M
            case measure => omega
            case rel => exact ⟨[], b, out ++ [y], _, _, _, _, c1, by simp at hM ⊢; omega, by simp at hol hM ⊢; omega, rfl, rfl, by simpa [pv] using hr1, hS2, Lib.hid (by rw [List.append_assoc, ← HE.out, mergeK_nil, mergeK_nil]; rfl), Lib.hid ⟨HR.out.1, HTL.out, HR.out.2.2.1, HR.out.2.2.2.tail⟩⟩
    | cons x a =>
      obtain ⟨ada, rfl, hca0⟩ := (HR.out.1.keep hS.below).at (pv_get (x :: a) 0 x rfl)
      have hca0' : wr.cell? ada = some (.pointer (some ⟨x.1, 0, none⟩)) := hca0
      have qa2 : (0 : Int) < (a.length : Int) + 1 := by omega
      cases b with
      | nil =>
        have hbc := Rd.cap HR.out.1
        simp only [List.length_cons] at hbc
        obtain ⟨hbc1, hbc2⟩ := hbc
        have hbc3 : (1 : Int) ≤ (ca : Int) := by omega
        have hbc4 : 1 ≤ ca := by omega
        have hbc5 : (1 : Int) ≤ (a.length : Int) + 1 := by omega
        have hbc6 : 1 ≤ a.length + 1 := by omega
        by_cases hca : ca = 1
        · subst hca
          obtain rfl : a = [] := List.eq_nil_of_length_eq_zero (by omega)
          have htl := (Rd.tail HR.out.1).2 rfl
          have HTL := Lib.hid htl
          clear htl
          go_wp2_with (first | ((with_reducible refine wpStill_plain ?_ ?_ (fun _ _ => ?_)); rfl; rfl) | (with_reducible refine wpStill_nil ?_) | ((with_reducible refine wpStill_skipg 3 false ?_ ?_ (fun _ _ => ?_)); rfl; kernel_rfl) | ((with_reducible refine wpStill_skipg 7 true ?_ ?_ (fun _ _ => ?_)); rfl; kernel_rfl) | ((with_reducible refine wp_draw_all (id := 3) mixed ?_ (fun _ _ => ?_)); kernel_rfl))
          go_region_law (refine step_app (n := out.length) (m := 1) (xs := pv out) (news := [.pointer (some ⟨x.1, 0, none⟩)]) 0 36 i0 (.pointer none) _ _ rfl rfl rfl rfl Try.underlying36 i0a i0b i0c i0d rfl (by decide) (hSd x) rfl hr (Rd.one _ _ _) (by simp [Value.oneCell']) (by unfold maxLen; omega) (by omega) (fun v1 c1 w2 hr1 hS2 => ?_))
          go_wp2_with fail
          cases gk with
          | zero => simp at hM
          | succ M =>
            go_roundg M
            case measure => omega
            case rel => exact ⟨[], [], out ++ [x], _, _, _, _, c1, by simp at hM ⊢; omega, by simp at hol hM ⊢; omega, rfl, rfl, by simpa [pv] using hr1, hS2, Lib.hid (by rw [List.append_assoc, ← HE.out, mergeK_nil2, mergeK_nil2]; rfl), Lib.hid ⟨HTL.out, HR.out.2.1, HR.out.2.2.1.tail, HR.out.2.2.2⟩⟩
        · have htl := (Rd.tail HR.out.1).1 hca
          have HTL := Lib.hid htl
          clear htl
          go_wp2_with (first | ((with_reducible refine wpStill_plain ?_ ?_ (fun _ _ => ?_)); rfl; rfl) | (with_reducible refine wpStill_nil ?_) | ((with_reducible refine wpStill_skipg 3 false ?_ ?_ (fun _ _ => ?_)); rfl; kernel_rfl) | ((with_reducible refine wpStill_skipg 7 true ?_ ?_ (fun _ _ => ?_)); rfl; kernel_rfl) | ((with_reducible refine wp_draw_all (id := 3) mixed ?_ (fun _ _ => ?_)); kernel_rfl))
          go_region_law (refine step_app (n := out.length) (m := 1) (xs := pv out) (news := [.pointer (some ⟨x.1, 0, none⟩)]) 0 36 i0 (.pointer none) _ _ rfl rfl rfl rfl Try.underlying36 i0a i0b i0c i0d rfl (by decide) (hSd x) rfl hr (Rd.one _ _ _) (by simp [Value.oneCell']) (by unfold maxLen; omega) (by omega) (fun v1 c1 w2 hr1 hS2 => ?_))
          go_wp2_with fail
          cases gk with
          | zero => simp at hM
          | succ M =>
            go_roundg M
            case measure => omega
            case rel => exact ⟨a, [], out ++ [x], _, _, _, _, c1, by simp at hM ⊢; omega, by simp at hol hM ⊢; omega, rfl, rfl, by simpa [pv] using hr1, hS2, Lib.hid (by rw [List.append_assoc, ← HE.out, mergeK_nil2, mergeK_nil2]; rfl), Lib.hid ⟨HTL.out, HR.out.2.1, HR.out.2.2.1.tail, HR.out.2.2.2⟩⟩
      | cons y b =>
        obtain ⟨adb, rfl, hcb⟩ := (HR.out.2.1.keep hS.below).at (pv_get (y :: b) 0 y rfl)
        have hcb' : wr.cell? adb = some (.pointer (some ⟨y.1, 0, none⟩)) := hcb
        have qb1 : ((b.length : Int) + 1 == 0) = false := by rw [beq_eq_false_iff_ne]; omega
        have qb2 : (0 : Int) < (b.length : Int) + 1 := by omega
        obtain ⟨hx1, hx2⟩ := (HR.out.2.2.1.keep hS.below) x (List.mem_cons_self ..)
        obtain ⟨hy1, hy2⟩ := (HR.out.2.2.2.keep hS.below) y (List.mem_cons_self ..)
        have hmc := mergeK_cons keyP x y a b
        by_cases hle : x.2.worth ≤ y.2.worth
        · rw [if_pos (show keyP x ≤ keyP y from hle)] at hmc
          have hlei : (x.2.worth : Int) ≤ (y.2.worth : Int) := by omega
          have HMC := Lib.hid hmc
          clear hmc
          have hbc := Rd.cap HR.out.1
          simp only [List.length_cons] at hbc
          obtain ⟨hbc1, hbc2⟩ := hbc
          have hbc3 : (1 : Int) ≤ (ca : Int) := by omega
          have hbc4 : 1 ≤ ca := by omega
          have hbc5 : (1 : Int) ≤ (a.length : Int) + 1 := by omega
          have hbc6 : 1 ≤ a.length + 1 := by omega
          by_cases hca : ca = 1
          · subst hca
            obtain rfl : a = [] := List.eq_nil_of_length_eq_zero (by omega)
            have htl := (Rd.tail HR.out.1).2 rfl
            have HTL := Lib.hid htl
            clear htl
            go_wp2_with (first | ((with_reducible refine wpStill_plain ?_ ?_ (fun _ _ => ?_)); rfl; rfl) | (with_reducible refine wpStill_nil ?_) | ((with_reducible refine wpStill_wantg 3 false ?_ ?_ ?_ (fun _ _ => ?_)); rfl; kernel_rfl; rfl) | ((with_reducible refine wpStill_wantg 7 true ?_ ?_ ?_ (fun _ _ => ?_)); rfl; kernel_rfl; rfl) | ((with_reducible refine wp_draw_all (id := 3) mixed ?_ (fun _ _ => ?_)); kernel_rfl))
            go_region_law (refine step_app (n := out.length) (m := 1) (xs := pv out) (news := [.pointer (some ⟨x.1, 0, none⟩)]) 0 36 i0 (.pointer none) _ _ rfl rfl rfl rfl Try.underlying36 i0a i0b i0c i0d rfl (by decide) (hSd x) rfl hr (Rd.one _ _ _) (by simp [Value.oneCell']) (by unfold maxLen; omega) (by omega) (fun v1 c1 w2 hr1 hS2 => ?_))
            go_wp2_with fail
            cases gk with
            | zero => simp at hM
            | succ M =>
              go_roundg M
              case measure => omega
              case rel => exact ⟨[], (y :: b), out ++ [x], _, _, _, _, c1, by simp at hM ⊢; omega, by simp at hol hM ⊢; omega, rfl, rfl, by simpa [pv] using hr1, hS2, Lib.hid (by rw [List.append_assoc, ← HE.out, HMC.out]; rfl), Lib.hid ⟨HTL.out, HR.out.2.1, HR.out.2.2.1.tail, HR.out.2.2.2⟩⟩
          · have htl := (Rd.tail HR.out.1).1 hca
            have HTL := Lib.hid htl
            clear htl
            go_wp2_with (first | ((with_reducible refine wpStill_plain ?_ ?_ (fun _ _ => ?_)); rfl; rfl) | (with_reducible refine wpStill_nil ?_) | ((with_reducible refine wpStill_wantg 3 false ?_ ?_ ?_ (fun _ _ => ?_)); rfl; kernel_rfl; rfl) | ((with_reducible refine wpStill_wantg 7 true ?_ ?_ ?_ (fun _ _ => ?_)); rfl; kernel_rfl; rfl) | ((with_reducible refine wp_draw_all (id := 3) mixed ?_ (fun _ _ => ?_)); kernel_rfl))
            go_region_law (refine step_app (n := out.length) (m := 1) (xs := pv out) (news := [.pointer (some ⟨x.1, 0, none⟩)]) 0 36 i0 (.pointer none) _ _ rfl rfl rfl rfl Try.underlying36 i0a i0b i0c i0d rfl (by decide) (hSd x) rfl hr (Rd.one _ _ _) (by simp [Value.oneCell']) (by unfold maxLen; omega) (by omega) (fun v1 c1 w2 hr1 hS2 => ?_))
            go_wp2_with fail
            cases gk with
            | zero => simp at hM
            | succ M =>
              go_roundg M
              case measure => omega
              case rel => exact ⟨a, (y :: b), out ++ [x], _, _, _, _, c1, by simp at hM ⊢; omega, by simp at hol hM ⊢; omega, rfl, rfl, by simpa [pv] using hr1, hS2, Lib.hid (by rw [List.append_assoc, ← HE.out, HMC.out]; rfl), Lib.hid ⟨HTL.out, HR.out.2.1, HR.out.2.2.1.tail, HR.out.2.2.2⟩⟩
        · rw [if_neg (show ¬ keyP x ≤ keyP y from hle)] at hmc
          have hlei : ¬ (x.2.worth : Int) ≤ (y.2.worth : Int) := by omega
          have HMC := Lib.hid hmc
          clear hmc
          have hbc := Rd.cap HR.out.2.1
          simp only [List.length_cons] at hbc
          obtain ⟨hbc1, hbc2⟩ := hbc
          have hbc3 : (1 : Int) ≤ (cb : Int) := by omega
          have hbc4 : 1 ≤ cb := by omega
          have hbc5 : (1 : Int) ≤ (b.length : Int) + 1 := by omega
          have hbc6 : 1 ≤ b.length + 1 := by omega
          by_cases hca : cb = 1
          · subst hca
            obtain rfl : b = [] := List.eq_nil_of_length_eq_zero (by omega)
            have htl := (Rd.tail HR.out.2.1).2 rfl
            have HTL := Lib.hid htl
            clear htl
            go_wp2_with (first | ((with_reducible refine wpStill_plain ?_ ?_ (fun _ _ => ?_)); rfl; rfl) | (with_reducible refine wpStill_nil ?_) | ((with_reducible refine wpStill_wantg 3 false ?_ ?_ ?_ (fun _ _ => ?_)); rfl; kernel_rfl; rfl) | ((with_reducible refine wpStill_wantg 7 true ?_ ?_ ?_ (fun _ _ => ?_)); rfl; kernel_rfl; rfl) | ((with_reducible refine wp_draw_all (id := 3) mixed ?_ (fun _ _ => ?_)); kernel_rfl))
            go_region_law (refine step_app (n := out.length) (m := 1) (xs := pv out) (news := [.pointer (some ⟨y.1, 0, none⟩)]) 0 36 i0 (.pointer none) _ _ rfl rfl rfl rfl Try.underlying36 i0a i0b i0c i0d rfl (by decide) (hSd y) rfl hr (Rd.one _ _ _) (by simp [Value.oneCell']) (by unfold maxLen; omega) (by omega) (fun v1 c1 w2 hr1 hS2 => ?_))
            go_wp2_with fail
            cases gk with
            | zero => simp at hM
            | succ M =>
              go_roundg M
              case measure => omega
              case rel => exact ⟨(x :: a), [], out ++ [y], _, _, _, _, c1, by simp at hM ⊢; omega, by simp at hol hM ⊢; omega, rfl, rfl, by simpa [pv] using hr1, hS2, Lib.hid (by rw [List.append_assoc, ← HE.out, HMC.out]; rfl), Lib.hid ⟨HR.out.1, HTL.out, HR.out.2.2.1, HR.out.2.2.2.tail⟩⟩
          · have htl := (Rd.tail HR.out.2.1).1 hca
            have HTL := Lib.hid htl
            clear htl
            go_wp2_with (first | ((with_reducible refine wpStill_plain ?_ ?_ (fun _ _ => ?_)); rfl; rfl) | (with_reducible refine wpStill_nil ?_) | ((with_reducible refine wpStill_wantg 3 false ?_ ?_ ?_ (fun _ _ => ?_)); rfl; kernel_rfl; rfl) | ((with_reducible refine wpStill_wantg 7 true ?_ ?_ ?_ (fun _ _ => ?_)); rfl; kernel_rfl; rfl) | ((with_reducible refine wp_draw_all (id := 3) mixed ?_ (fun _ _ => ?_)); kernel_rfl))
            go_region_law (refine step_app (n := out.length) (m := 1) (xs := pv out) (news := [.pointer (some ⟨y.1, 0, none⟩)]) 0 36 i0 (.pointer none) _ _ rfl rfl rfl rfl Try.underlying36 i0a i0b i0c i0d rfl (by decide) (hSd y) rfl hr (Rd.one _ _ _) (by simp [Value.oneCell']) (by unfold maxLen; omega) (by omega) (fun v1 c1 w2 hr1 hS2 => ?_))
            go_wp2_with fail
            cases gk with
            | zero => simp at hM
            | succ M =>
              go_roundg M
              case measure => omega
              case rel => exact ⟨(x :: a), b, out ++ [y], _, _, _, _, c1, by simp at hM ⊢; omega, by simp at hol hM ⊢; omega, rfl, rfl, by simpa [pv] using hr1, hS2, Lib.hid (by rw [List.append_assoc, ← HE.out, HMC.out]; rfl), Lib.hid ⟨HR.out.1, HTL.out, HR.out.2.2.1, HR.out.2.2.2.tail⟩⟩
end Go.Proofs.Ytmjkacfhhnnlnaa

/-
  Contracts of choose.Median, choose.Mean.
-/
import Derived.Test.YtdhnmcdgiddhdabInsF
import Derived.Test.YtdhnmcdgiddhdabPureMid
set_option linter.unusedVariables false
set_option linter.unusedSimpArgs false
namespace Go.Proofs.Ytdhnmcdgiddhdab
open Go.RowKit
set_option maxRecDepth 100000
@[go_sem] theorem run_store_float {P : Program} {w : World} {a : Addr} {m : Mode} (k : FloatKind) (x : Nat) : (store a (.float k x) m).run P w = stored P w a (.float k x) m := run_store P w a _ m rfl
def MedOut (o : Option Nat) (w : World) (e : Ending) (w' : World) : Prop := ∃ x, e = .returned (.float .f64 x) ∧ IsF o x ∧ Below w.heap.size w w'
theorem isf_nan (x : Nat) (h : x < 18446744073709551616) (hn : nanB x = true) : IsF none x := ⟨h, hn⟩
theorem fv_ins (s : List Nat) (x k : Nat) : (fv s).take k ++ Value.float .f64 x :: (fv s).drop k = fv (s.take k ++ x :: s.drop k) := by simp [fv, List.map_take, List.map_drop]
theorem fv_length (l : List Nat) : (fv l).length = l.length := by simp [fv]
theorem insertfl_any {B : Nat} {w0 w : World} {F : List (List (Nat × Obj))} {c : List (Nat × Obj)} (sv : Value) (s : List Nat) (x k : Nat) (h : RowC 29 1 sv s.length (fv s) c) (hS : St B w0 w (c :: F)) (hn : s.length ≤ 1000000) (hk : k ≤ s.length) :
    Calls Try.prog 31 #[sv, .int .i64 (k : Int), .slice (some ⟨w.heap.size, 0, none⟩) 1 1] (w.alloc (.cells #[.float .f64 x] 29)) fun e w' => ∃ v' c', e = .returned v' ∧ RowC 29 1 v' (s.take k ++ x :: s.drop k).length (fv (s.take k ++ x :: s.drop k)) c' ∧ St B w0 w' (c' :: F) := by
  refine (insertf_any sv (fv s) (.float .f64 x) w.heap.size 1 k (fv_one s) rfl (RowC.fresh w.heap.size [.float .f64 x] rfl (Nat.le_refl 1) (by unfold maxLen; omega) rfl rfl) (by rw [fv_length]; exact h) (hS.alloc _) (by rw [fv_length]; exact hn) (by rw [fv_length]; exact hk)).mono ?_
  rintro e w' ⟨v', c', rfl, h1, h2⟩
  refine ⟨v', c', rfl, ?_, h2⟩
  rw [fv_ins, fv_length] at h1
  have e : (s.take k ++ x :: s.drop k).length = s.length + 1 := by simp; omega
  rw [e]
  exact h1
set_option maxHeartbeats 4000000 in
theorem mean_any (v : Value) (l : List Nat) (w : World) (h : Rd w 1 v l.length (fv l)) (hl : ∀ x ∈ l, x < 18446744073709551616) (hn : l.length ≤ 1000000) :
    Calls Try.prog 18 #[v] w (MedOut (meanV l) w) := by
  obtain ⟨ao, cap, rfl⟩ := h.shape
  have H0 := Lib.hid (And.intro h hl)
  have hnl : (l.length : Int) ≤ 1000000 := by omega
  clear h hl
  by_cases q0 : l.length = 0
  · have q0i : ((l.length : Int) == 0) = true := by simp [q0]
    have HE : Hid (l = []) := Lib.hid (List.eq_nil_of_length_eq_zero q0)
    clear q0
    go_enter Try.func18, Try.ntmps18
    go_wp2_with fail
    refine (nan_any w).mono ?_
    rintro e w1 ⟨rfl, rfl⟩
    go_wp2_with fail
    go_ret
    exact ⟨_, rfl, by rw [HE.out, meanV_nil]; exact isf_nan _ (by omega) (by decide), Below.refl _ _⟩
  · have q0i : ((l.length : Int) == 0) = false := by simp; intro e; rw [e] at q0; exact q0 rfl
    clear q0
    go_enter Try.func18, Try.ntmps18
    go_wp2_with fail
    go_loopg [3, 12] l.length (fun m s3 s12 wr => ∃ i x : Nat, i + m = l.length ∧ s12 = .int .i64 (i : Int) ∧ s3 = .float .f64 x ∧ IsF (meanS (l.take i)) x ∧ Drew w wr)
    case atStart => exact ⟨0, 0, by omega, rfl, rfl, isf_some 0 (by omega), Drew.refl _⟩
    case round =>
      obtain ⟨i, x, hi, rfl, rfl, hx, hd⟩ := hrel
      obtain ⟨nd, rfl⟩ := hd.out
      clear hd
      cases gk with
      | succ m =>
        have hif : (i : Int) < (l.length : Int) := by omega
        obtain ⟨y, hy⟩ : ∃ y, l[i]? = some y := ⟨_, List.getElem?_eq_getElem (by omega)⟩
        obtain ⟨ad, rfl, hc⟩ := H0.out.1.at (fv_get l i y hy)
        obtain ⟨z, n1, hq, hz⟩ := op_any (P := Try.prog) (w.drewN nd) .add (by simp) 29 hx (isf_some y (H0.out.2 y (List.mem_of_getElem? hy)))
        rw [World.drewN_drewN] at hq
        rw [← meanS_succ hy] at hz
        have HZ := Lib.hid hz
        clear hz hx hy
        go_wp2_with fail
        go_roundg m
        case measure => omega
        case rel => exact ⟨i + 1, z, by omega, by go_num, rfl, HZ.out, Drew.mk _ _⟩
      | zero =>
        obtain rfl : i = l.length := by omega
        have hz : ¬ (l.length : Int) < (l.length : Int) := by omega
        rw [List.take_length] at hx
        obtain ⟨z, n1, hq, hz2⟩ := op_any (P := Try.prog) (w.drewN nd) .quo (by simp) 29 hx (isf_some _ (fint_lt (l.length : Int)))
        rw [World.drewN_drewN] at hq
        have HZ := Lib.hid (show IsF (meanV l) z from hz2)
        clear hz2 hx hi
        have e1 := run_convert_int_float (P := Try.prog) (w.drewN nd) 3 29 .i64 .f64 (l.length : Int) (by rw [Try.underlying3]; rfl) Try.underlying29
        generalize floatOfInt .f64 (l.length : Int) = fl at hq e1
        go_wp2_with fail
        go_ret
        exact ⟨_, rfl, HZ.out, ((St.init w).drewN _).below⟩
end Go.Proofs.Ytdhnmcdgiddhdab

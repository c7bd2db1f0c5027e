/-
  Arithmetic on floats, a NaN being any NaN: Ratio and Gain.
-/
import Derived.Test.YtdhnmcdgiddhdabScoreF
set_option linter.unusedVariables false
set_option linter.unusedSimpArgs false
namespace Go.Proofs.Ytdhnmcdgiddhdab
open Go.RowKit
set_option maxRecDepth 100000
/-- A float that is this number, or some NaN. -/
def IsF (o : Option Nat) (x : Nat) : Prop := x < 18446744073709551616 ∧ match o with | some r => x = r | none => nanB x = true
def fop (op : BinOp) : Option Nat → Option Nat → Option Nat
  | some a, some b => floatBits op .f64 a b
  | _, _ => none
theorem product_nan_l (s : Bool) (fr : Nat) (d : Ieee.Datum) : (Ieee.Datum.nan s fr).product d = none := by cases d <;> rfl
theorem product_nan_r (s : Bool) (fr : Nat) (d : Ieee.Datum) : d.product (Ieee.Datum.nan s fr) = none := by cases d <;> rfl
theorem sum_nan_l (s : Bool) (fr : Nat) (d : Ieee.Datum) : (Ieee.Datum.nan s fr).sum d = none := by cases d <;> rfl
theorem sum_nan_r (s : Bool) (fr : Nat) (d : Ieee.Datum) : d.sum (Ieee.Datum.nan s fr) = none := by cases d <;> rfl
theorem quotient_nan_l (k : Nat) (s : Bool) (fr : Nat) (d : Ieee.Datum) : (Ieee.Datum.nan s fr).quotient k d = none := by cases d <;> rfl
theorem quotient_nan_r (k : Nat) (s : Bool) (fr : Nat) (d : Ieee.Datum) : d.quotient k (Ieee.Datum.nan s fr) = none := by cases d <;> rfl
theorem floatBits_nan (op : BinOp) (a b : Nat) (h : nanB a = true ∨ nanB b = true) : floatBits op .f64 a b = none := by
  have hr : ∀ x, nanB x = true → ∃ fr, FloatKind.f64.format.read x = .nan (negB x) fr := fun x hx => read_nan x (by simpa [nanB] using hx)
  rcases h with h | h
  · obtain ⟨fr, e⟩ := hr a h
    cases op <;> simp only [floatBits, Ieee.Format.add, Ieee.Format.sub, Ieee.Format.mul, Ieee.Format.div, e, product_nan_l, sum_nan_l, quotient_nan_l, Option.map_none]
  · obtain ⟨fr, e⟩ := hr b h
    cases op <;> simp only [floatBits, Ieee.Format.add, Ieee.Format.sub, Ieee.Format.mul, Ieee.Format.div, e, Ieee.Datum.opposite, product_nan_r, sum_nan_r, quotient_nan_r, Option.map_none]
theorem fop_eq (op : BinOp) {o1 o2 : Option Nat} {a b : Nat} (h1 : IsF o1 a) (h2 : IsF o2 b) : floatBits op .f64 a b = fop op o1 o2 := by
  cases o1 with
  | none => exact floatBits_nan op a b (.inl h1.2)
  | some x =>
    cases o2 with
    | none => exact floatBits_nan op a b (.inr h2.2)
    | some y => obtain ⟨_, rfl⟩ := h1; obtain ⟨_, rfl⟩ := h2; rfl
/-- An operation on floats, whatever comes. -/
theorem op_any {P : Program} (w : World) (op : BinOp) (hop : op = .add ∨ op = .sub ∨ op = .mul ∨ op = .quo) (t : TypeId) {o1 o2 : Option Nat} {a b : Nat} (h1 : IsF o1 a) (h2 : IsF o2 b) :
    ∃ x n, (binOp op t (.float .f64 a) (.float .f64 b)).run P w = .ok (.float .f64 x) (w.drewN n) ∧ IsF (fop op o1 o2) x := by
  rw [← fop_eq op h1 h2]
  cases hf : floatBits op .f64 a b with
  | some r =>
    refine ⟨r, 0, run_float_arith w op t .f64 a b r hf, ?_, rfl⟩
    have := floatBits_wf hf
    simpa [Lit.wf] using this
  | none =>
    refine ⟨(w.tape w.drawn (.nanBits .f64 a b) % 2) * 2 ^ 63 + 0x7ff0000000000000 + 1 + (w.tape w.drawn (.nanBits .f64 a b) / 2) % (2 ^ 52 - 1), 1, ?_, ?_, ?_⟩
    · unfold floatBits at hf
      rcases hop with rfl | rfl | rfl | rfl <;> simp only at hf <;> (simp [binOp, Op.floatArith, hf, Question.forced, Question.cut]; rfl)
    · generalize w.tape w.drawn (.nanBits .f64 a b) = q
      omega
    · generalize w.tape w.drawn (.nanBits .f64 a b) = q
      simp only [nanB, decide_eq_true_eq]
      rcases (show q % 2 = 0 ∨ q % 2 = 1 by omega) with e | e <;> rw [e] <;> omega
theorem isf_some (a : Nat) (h : a < 18446744073709551616) : IsF (some a) a := ⟨h, rfl⟩
theorem fint_lt (d : Int) : floatOfInt .f64 d < 18446744073709551616 := by
  have := floatOfInt_wf .f64 d
  simpa [Lit.wf] using this
def ratioP (d a : Int) : Option Nat := fop .quo (some (floatOfInt .f64 d)) (some (floatOfInt .f64 a))
def gainP (d a : Int) (age weight : Nat) : Option Nat :=
  fop .sub (fop .mul (ratioP d a) (fop .add (some 4607182418800017408) (some age))) (fop .mul (some weight) (fop .sub (some 4607182418800017408) (ratioP d a)))
theorem ratio_any (d a : Int) (w : World) : Calls Try.prog 38 #[.int .i64 d, .int .i64 a] w fun e w' => ∃ x, e = .returned (.float .f64 x) ∧ IsF (ratioP d a) x ∧ Drew w w' := by
  obtain ⟨x, n, hq, hx⟩ := op_any (P := Try.prog) w .quo (by simp) 29 (isf_some _ (fint_lt d)) (isf_some _ (fint_lt a))
  have HX := Lib.hid (show IsF (ratioP d a) x from hx)
  clear hx
  generalize hx : floatOfInt .f64 d = u at hq
  generalize hy : floatOfInt .f64 a = v at hq
  have e1 := run_convert_int_float (P := Try.prog) w 3 29 .i64 .f64 d (by rw [Try.underlying3]; rfl) Try.underlying29
  have e2 := run_convert_int_float (P := Try.prog) w 3 29 .i64 .f64 a (by rw [Try.underlying3]; rfl) Try.underlying29
  rw [hx] at e1
  rw [hy] at e2
  clear hx hy
  go_enter Try.func38, Try.ntmps38
  go_wp2
  go_ret
  exact ⟨_, rfl, HX.out, Drew.mk _ _⟩
theorem refratio_any (d a : Int) (w : World) : Calls Try.prog 27 #[.int .i64 d, .int .i64 a] w fun e w' => ∃ x, e = .returned (.float .f64 x) ∧ IsF (ratioP d a) x ∧ Drew w w' := by
  obtain ⟨x, n, hq, hx⟩ := op_any (P := Try.prog) w .quo (by simp) 29 (isf_some _ (fint_lt d)) (isf_some _ (fint_lt a))
  have HX := Lib.hid (show IsF (ratioP d a) x from hx)
  clear hx
  generalize hx : floatOfInt .f64 d = u at hq
  generalize hy : floatOfInt .f64 a = v at hq
  have e1 := run_convert_int_float (P := Try.prog) w 3 29 .i64 .f64 d (by rw [Try.underlying3]; rfl) Try.underlying29
  have e2 := run_convert_int_float (P := Try.prog) w 3 29 .i64 .f64 a (by rw [Try.underlying3]; rfl) Try.underlying29
  rw [hx] at e1
  rw [hy] at e2
  clear hx hy
  go_enter Try.func27, Try.ntmps27
  go_wp2
  go_ret
  exact ⟨_, rfl, HX.out, Drew.mk _ _⟩
set_option maxHeartbeats 2000000 in
theorem gain_any (d a : Int) (age weight : Nat) (w : World) (h1 : age < 18446744073709551616) (h2 : weight < 18446744073709551616) :
    Calls Try.prog 25 #[.int .i64 d, .int .i64 a, .float .f64 age, .float .f64 weight] w fun e w' => ∃ x, e = .returned (.float .f64 x) ∧ IsF (gainP d a age weight) x ∧ Drew w w' := by
  go_enter Try.func25, Try.ntmps25
  go_wp2_with fail
  refine (ratio_any d a w).mono ?_
  rintro e w1 ⟨r, rfl, hr, hd⟩
  obtain ⟨n0, rfl⟩ := hd.out
  obtain ⟨x1, n1, q1, f1⟩ := op_any (P := Try.prog) (w.drewN n0) .add (by simp) 29 (isf_some 4607182418800017408 (by omega)) (isf_some age h1)
  rw [World.drewN_drewN] at q1
  obtain ⟨x2, n2, q2, f2⟩ := op_any (P := Try.prog) (w.drewN (n0 + n1)) .sub (by simp) 29 (isf_some 4607182418800017408 (by omega)) hr
  rw [World.drewN_drewN] at q2
  obtain ⟨x3, n3, q3, f3⟩ := op_any (P := Try.prog) (w.drewN (n0 + n1 + n2)) .mul (by simp) 29 hr f1
  rw [World.drewN_drewN] at q3
  obtain ⟨x4, n4, q4, f4⟩ := op_any (P := Try.prog) (w.drewN (n0 + n1 + n2 + n3)) .mul (by simp) 29 (isf_some weight h2) f2
  rw [World.drewN_drewN] at q4
  obtain ⟨x5, n5, q5, f5⟩ := op_any (P := Try.prog) (w.drewN (n0 + n1 + n2 + n3 + n4)) .sub (by simp) 29 f3 f4
  rw [World.drewN_drewN] at q5
  have HX := Lib.hid (show IsF (gainP d a age weight) x5 from f5)
  clear f1 f2 f3 f4 f5 hr hd
  go_wp2
  go_ret
  exact ⟨_, rfl, HX.out, Drew.mk _ _⟩
set_option maxHeartbeats 2000000 in
theorem refgain_any (d a : Int) (age weight : Nat) (w : World) (h1 : age < 18446744073709551616) (h2 : weight < 18446744073709551616) :
    Calls Try.prog 13 #[.int .i64 d, .int .i64 a, .float .f64 age, .float .f64 weight] w fun e w' => ∃ x, e = .returned (.float .f64 x) ∧ IsF (gainP d a age weight) x ∧ Drew w w' := by
  go_enter Try.func13, Try.ntmps13
  go_wp2_with fail
  refine (refratio_any d a w).mono ?_
  rintro e w1 ⟨r, rfl, hr, hd⟩
  obtain ⟨n0, rfl⟩ := hd.out
  obtain ⟨x1, n1, q1, f1⟩ := op_any (P := Try.prog) (w.drewN n0) .add (by simp) 29 (isf_some 4607182418800017408 (by omega)) (isf_some age h1)
  rw [World.drewN_drewN] at q1
  obtain ⟨x3, n3, q3, f3⟩ := op_any (P := Try.prog) (w.drewN (n0 + n1)) .mul (by simp) 29 hr f1
  rw [World.drewN_drewN] at q3
  obtain ⟨x2, n2, q2, f2⟩ := op_any (P := Try.prog) (w.drewN (n0 + n1 + n3)) .sub (by simp) 29 (isf_some 4607182418800017408 (by omega)) hr
  rw [World.drewN_drewN] at q2
  obtain ⟨x4, n4, q4, f4⟩ := op_any (P := Try.prog) (w.drewN (n0 + n1 + n3 + n2)) .mul (by simp) 29 (isf_some weight h2) f2
  rw [World.drewN_drewN] at q4
  obtain ⟨x5, n5, q5, f5⟩ := op_any (P := Try.prog) (w.drewN (n0 + n1 + n3 + n2 + n4)) .sub (by simp) 29 f3 f4
  rw [World.drewN_drewN] at q5
  have HX := Lib.hid (show IsF (gainP d a age weight) x5 from f5)
  clear f1 f2 f3 f4 f5 hr hd
  go_wp2
  go_ret
  exact ⟨_, rfl, HX.out, Drew.mk _ _⟩
end Go.Proofs.Ytdhnmcdgiddhdab

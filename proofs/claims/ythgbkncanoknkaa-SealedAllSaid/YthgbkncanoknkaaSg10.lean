/-
  Texts joined: CtRead.
-/
import Derived.Test.YthgbkncanoknkaaSg9
import Derived.Test.YthgbkncanoknkaaSg4
import Derived.Deep.RegionHeld
/-
  Contract of container.read.
-/
set_option linter.unusedVariables false
set_option linter.unusedSimpArgs false
namespace Go.Proofs.Ythgbkncanoknkaa
open Go.RowKit
set_option maxRecDepth 100000
/-- Numbers, one behind the other, and nothing else. -/
def NumsR : List UInt8 → List Nat → Prop
  | b, [] => b = []
  | b, n :: l => b ≠ [] ∧ ∃ k, rdN b 1099511627776 = some (n, k) ∧ NumsR (b.drop k) l
theorem NumsR.one : ∀ {l l' : List Nat} {b : List UInt8}, NumsR b l → NumsR b l' → l = l'
  | [], [], _, _, _ => rfl
  | [], _ :: _, _, h, h' => absurd h h'.1
  | _ :: _, [], _, h, h' => absurd h' h.1
  | n :: l, n' :: l', b, ⟨_, k, h1, h2⟩, ⟨_, k', h1', h2'⟩ => by
    rw [h1] at h1'
    injection h1' with h1'
    injection h1' with e1 e2
    subst e1 e2
    rw [NumsR.one h2 h2']
/-- What a packed text's head says: size, blocks' lengths, where the first one lies. -/
def PlanR (b : List UInt8) (size : Nat) (ls : List Nat) (at0 : Nat) : Prop :=
  ∃ h k, firstP b = some h ∧ at0 = 12 + h.length ∧ rdN h 1099511627776 = some (size, k) ∧ NumsR (h.drop k) ls ∧ at0 + ls.sum = b.length ∧ ls.length = (size + 999) / 1000
theorem PlanR.one {b : List UInt8} {s s' : Nat} {l l' : List Nat} {a a' : Nat} (h : PlanR b s l a) (h' : PlanR b s' l' a') : s = s' ∧ l = l' ∧ a = a' := by
  obtain ⟨x, k, h1, h2, h3, h4, _⟩ := h
  obtain ⟨x', k', h1', h2', h3', h4', _⟩ := h'
  rw [h1] at h1'
  injection h1' with h1'
  subst h1'
  rw [h3] at h3'
  injection h3' with h3'
  injection h3' with e1 e2
  subst e1 e2
  exact ⟨rfl, h4.one h4', by rw [h2, h2']⟩
/-- Where the blocks lie. -/
def placesP (at0 : Nat) (ls : List Nat) : List Int := (List.range ls.length).map fun i => ((at0 + (ls.take i).sum : Nat) : Int)
theorem placesP_length (at0 : Nat) (ls : List Nat) : (placesP at0 ls).length = ls.length := by simp [placesP]
theorem placesP_snoc (at0 : Nat) (ls : List Nat) (n : Nat) : placesP at0 (ls ++ [n]) = placesP at0 ls ++ [((at0 + ls.sum : Nat) : Int)] := by
  unfold placesP
  rw [List.length_append, List.length_singleton, List.range_succ, List.map_append]
  congr 1
  · refine List.map_congr_left fun i hi => ?_
    rw [List.mem_range] at hi
    rw [List.take_append_of_le_length (by omega)]
  · simp
theorem h63 : (Try.prog.info? 82).map (·.size) = some 3 := by kernel_rfl
def ReadOut (b : List UInt8) (w : World) (e : Ending) (w' : World) : Prop :=
  (∃ size ls at0 v c, PlanR b size ls at0 ∧ e = .returned (.tuple #[planV (size : Int) v (b.length : Int), .bool true]) ∧ RowC 3 1 v ls.length (iv (placesP at0 ls)) c ∧ St w.heap.size w w' [c]) ∨
  (∃ n ao l cap m, e = .returned (.tuple #[planV n (.slice ao l cap) m, .bool false]) ∧ St w.heap.size w w' [] ∧ ¬ ∃ size ls at0, PlanR b size ls at0)
theorem rdN_pos {b : List UInt8} {most n k : Nat} (h : rdN b most = some (n, k)) : 0 < k ∧ k ≤ b.length := by
  have h1 := (getN_le b).1
  unfold rdN at h
  split at h
  · cases h
  · injection h with h
    have h2 := congrArg Prod.snd h
    simp only at h2
    omega
/-- What the last statement of read reads. -/
def ReadS (p7 p8 size A : Nat) (pv : Value) (bd : Bool) (w' : World) : Prop :=
  w'.cell? ⟨p8, 0, none⟩ = some (.int .i64 (size : Int)) ∧ w'.cell? ⟨p8, 1, none⟩ = some pv ∧ w'.cell? ⟨p8, 2, none⟩ = some (.int .i64 (A : Int)) ∧ w'.cell? ⟨p7, 1, none⟩ = some (.bool bd)
theorem firstP_len {b h : List UInt8} (hf : firstP b = some h) : h.length + 12 ≤ b.length := by
  unfold firstP at hf
  split at hf
  · cases hf
  · rename_i q
    cases hf
    rw [List.length_take, List.length_drop]
    omega
set_option maxHeartbeats 2000000 in
theorem ctread_any (v : Value) (b : List UInt8) (w : World) (h : Rd w 1 v b.length (bv b)) (hn : b.length ≤ 1000000) :
    Calls Try.prog 45 #[v] w (ReadOut b w) := by
  obtain ⟨i0, i0a, i0b, i0c, i0d⟩ := info_parts infoIntN
  obtain ⟨ao, cap, rfl⟩ := h.shape
  have hS0 := (St.init w).alloc (.cells #[.int .i64 0, .slice none 0 0, .int .i64 0] 82 (0, 0))
  have H0 := Lib.hid (h.st hS0)
  have HS0 := Lib.hid hS0
  clear h hS0
  go_enter Try.func45, Try.ntmps45
  go_wp2_with fail
  refine (crcfirst_any _ b _ H0.out hn).mono ?_
  rintro e w1 (⟨h, v1, c1, hf, rfl, hr1, hS1⟩ | ⟨hf, q, rfl, hS1⟩)
  · obtain ⟨ao1, cap1, rfl⟩ := hr1.shape
    have hh := firstP_len hf
    have HJ := Lib.hid ((HS0.out.join hS1).pick [1] (by decide) [[(w.heap.size, .cells #[.int .i64 0, .slice none 0 0, .int .i64 0] 82 (0, 0))]] rfl)
    have hSr : St w1.heap.size w1 (w1.alloc (.cells #[.slice ao1 h.length cap1, .bool false] 61 (0, 0))) (rdrC w1.heap.size (.slice ao1 h.length cap1) false :: []) := (St.init w1).alloc _
    have HSR := Lib.hid hSr
    have HRD := Lib.hid (hr1.rd hS1 0 rfl)
    have HF := Lib.hid hf
    clear hf hr1 hS1 hSr
    go_wp2_with fail
    refine (rnum_any w1.heap.size _ false h 1099511627776 (by decide) (fun h => by cases h) HRD.out HSR.out (by omega)).mono ?_
    rintro e w2 (⟨hnone, rfl, hS2⟩ | ⟨size, k, sv, hsome, rfl, hrd2, hS2⟩)
    case inl =>
      obtain ⟨rest, Hrest⟩ : ∃ rest : List UInt8, Hid (rest = []) := ⟨_, Lib.hid rfl⟩
      obtain ⟨sv, Hsv⟩ : ∃ sv : Value, Hid (sv = .slice none 0 0) := ⟨_, Lib.hid rfl⟩
      obtain ⟨bad, Hbad⟩ : ∃ bad : Bool, Hid (bad = true) := ⟨_, Lib.hid rfl⟩
      obtain ⟨size, Hsize⟩ : ∃ size : Nat, Hid (size = 0) := ⟨_, Lib.hid rfl⟩
      have hrd2 : Rd w1 1 sv rest.length (bv rest) := by rw [Hsv.out, Hrest.out]; exact Rd.nil _ _
      rw [← Hsv.out, ← Hbad.out] at hS2
      obtain ⟨at0, HAE⟩ : ∃ at0, Hid (at0 = 12 + h.length) := ⟨_, Lib.hid rfl⟩
      have HAT : Hid (at0 ≤ b.length ∧ (bad = false → at0 = 12 + h.length)) := Lib.hid ⟨by have := HAE.out; omega, fun _ => HAE.out⟩
      have HAV : Hid (Value.int .i64 (12 + (h.length : Int)) = .int .i64 ((at0 + ([] : List Nat).sum : Nat) : Int)) := Lib.hid (by rw [HAE.out]; simp)
      have hhl : h.length ≤ 1000000 := by omega
      have HB0 : Hid (bad = true → rest = []) := Lib.hid (fun _ => Hrest.out)
      have HSZ : Hid (size ≤ 1099511627776) := Lib.hid (by rw [Hsize.out]; omega)
      have HB1 : Hid (bad = false → firstP b = some h ∧ ∃ k, rdN h 1099511627776 = some (size, k) ∧ NumsR (h.drop k) = NumsR rest) := Lib.hid (fun e => by rw [Hbad.out] at e; cases e)
      have HB2 : Hid (∀ s l a, PlanR b s l a → bad = false ∧ s = size ∧ a = at0 ∧ NumsR rest l) := Lib.hid (by
        rintro s l a ⟨h', k', g1, g2, g3, _⟩
        rw [HF.out] at g1
        cases g1
        rw [hnone] at g3
        cases g3)
      have hrl : rest.length ≤ h.length := by rw [Hrest.out]; exact Nat.zero_le _
      clear hnone
      obtain ⟨d0, d1, _, _⟩ := rdr_cells hS2
      obtain ⟨ao2, cap2, rfl⟩ := hrd2.shape
      have HR2 := Lib.hid hrd2
      have hS3 := hS2.alloc (.cells #[.int .i64 0, .slice none 0 0, .int .i64 0] 82 (0, 0))
      go_wp2_with fail
      obtain ⟨w3, HW3⟩ : ∃ w3, Hid (w3 = w2.alloc (.cells #[.int .i64 0, .slice none 0 0, .int .i64 0] 82 (0, 0))) := ⟨_, Lib.hid rfl⟩
      rw [← HW3.out] at hS3 ⊢
      have HS3 : Hid (St w1.heap.size w1 w3 [[(w2.heap.size, .cells #[.int .i64 (size : Int), .slice none 0 0, .int .i64 0] 82 (0, 0))], rdrC w1.heap.size (.slice ao2 rest.length cap2) bad]) := Lib.hid (by
        have := hS3
        rw [Hsize.out]; exact this)
      clear hS2 hrd2 hS3 HW3 d0 d1
      go_loopg [5] rest.length (fun gf s5 wr => ∃ (rs : List UInt8) (bd : Bool) (sv : Value) (ls : List Nat) (pv : Value) (pc : List (Nat × Obj)), rs.length = gf ∧ s5 = .int .i64 ((at0 + ls.sum : Nat) : Int) ∧ Rd w1 1 sv rs.length (bv rs) ∧ (bd = true → rs = [] ∧ ls = []) ∧ ls.length + rs.length ≤ h.length ∧
        RowC 3 1 pv ls.length (iv (placesP at0 ls)) pc ∧ St w1.heap.size w1 wr [rdrC w1.heap.size sv bd, [(w2.heap.size, .cells #[.int .i64 (size : Int), pv, .int .i64 0] 82 (0, 0))], pc] ∧
        (ls = [] ∨ at0 + ls.sum ≤ b.length) ∧ Hid (bd = false → bad = false ∧ ∀ Y, NumsR rs Y → NumsR rest (ls ++ Y)) ∧ Hid (∀ Y, NumsR rest Y → bad = false → bd = false ∧ ∃ Z, Y = ls ++ Z ∧ NumsR rs Z))
      case atStart =>
        refine ⟨rest, bad, _, [], .slice none 0 0, [], rfl, HAV.out, HR2.out, fun e => ⟨HB0.out e, rfl⟩, ?_, RowC.nil _ _, ?_, .inl rfl, ?_, ?_⟩
        · simpa using hrl
        · exact (HS3.out.one_nil).pick [2, 1, 0] (by decide) _ rfl
        · exact Lib.hid fun e => ⟨e, fun Y h => h⟩
        · exact Lib.hid fun Y h e => ⟨e, Y, rfl, h⟩
      case round =>
        obtain ⟨rs, bd, sv, ls, pv, pc, hgf, rfl, hrd, hbd, hll, hpr, hS, hle, HC1, HC2⟩ := hrel
        obtain ⟨A, HA⟩ : ∃ A, Hid (A = at0 + ls.sum) := ⟨_, Lib.hid rfl⟩
        rw [← HA.out] at hle ⊢
        obtain ⟨aos, caps, rfl⟩ := hrd.shape
        obtain ⟨aop, capp, rfl⟩ := hpr.shape
        obtain ⟨d0, d1, g0, g1⟩ := rdr_cells hS
        have k80 : wr.cell? ⟨w2.heap.size, 0, none⟩ = some (.int .i64 (size : Int)) := hS.cell 1 rfl (List.mem_singleton.2 rfl) 0
        have k81 : wr.cell? ⟨w2.heap.size, 1, none⟩ = some (.slice aop ls.length capp) := hS.cell 1 rfl (List.mem_singleton.2 rfl) 1
        have k82 : wr.cell? ⟨w2.heap.size, 2, none⟩ = some (.int .i64 0) := hS.cell 1 rfl (List.mem_singleton.2 rfl) 2
        have f82 : wr.frozen? ⟨w2.heap.size, 2, none⟩ = false := hS.free 1 rfl (List.mem_singleton.2 rfl) 2
        have HS := Lib.hid (And.intro hrd (And.intro hpr hS))
        have HBD := Lib.hid (And.intro hbd hle)
        clear hrd hpr hS g0 g1 hbd hle
        cases gk with
        | zero =>
          have hr0 : rs = [] := List.eq_nil_of_length_eq_zero hgf
          subst hr0
          clear hgf
          have HN : Hid (∀ s l a, PlanR b s l a → bd = false ∧ s = size ∧ l = ls ∧ a = at0) := Lib.hid (by
            intro s l a hp
            obtain ⟨e1, e2, e3, e4⟩ := HB2.out s l a hp
            obtain ⟨e5, Z, e6, e7⟩ := HC2.out l e4 e1
            have e8 : Z = [] := by
              cases Z with
              | nil => rfl
              | cons z Z => exact absurd rfl e7.1
            rw [e8, List.append_nil] at e6
            exact ⟨e5, e2, e6, e3⟩)
          have HP : Hid (bd = false → A = b.length → ls.length = (size + 999) / 1000 → PlanR b size ls at0) := Lib.hid (by
            intro e1 e2 e3
            obtain ⟨e4, e5⟩ := HC1.out e1
            obtain ⟨eF, k, e6, e7⟩ := HB1.out e4
            have e8 := e5 [] rfl
            rw [List.append_nil] at e8
            exact ⟨h, k, eF, HAT.out.2 e4, e6, by rw [e7]; exact e8, by rw [← HA.out, e2], e3⟩)
          go_wp2_with fail
          have hS9 := HS.out.2.2.store 1 rfl 2 (.int .i64 (A : Int))
          obtain ⟨w9, HW9⟩ : ∃ w9, Hid (w9 = wr.setCell ⟨w2.heap.size, 2, none⟩ (.int .i64 (A : Int))) := ⟨_, Lib.hid rfl⟩
          rw [← HW9.out] at hS9 ⊢
          replace hS9 : St w1.heap.size w1 w9 [rdrC w1.heap.size (.slice aos 0 caps) bd, [(w2.heap.size, .cells #[.int .i64 (size : Int), .slice aop ls.length capp, .int .i64 (A : Int)] 82 (0, 0))], pc] := hS9
          have HSJ := Lib.hid (HJ.out.join hS9)
          have s0 : w9.cell? ⟨w2.heap.size, 0, none⟩ = some (.int .i64 (size : Int)) := hS9.cell 1 rfl (List.mem_singleton.2 rfl) 0
          have s1 : w9.cell? ⟨w2.heap.size, 1, none⟩ = some (.slice aop ls.length capp) := hS9.cell 1 rfl (List.mem_singleton.2 rfl) 1
          have s2 : w9.cell? ⟨w2.heap.size, 2, none⟩ = some (.int .i64 (A : Int)) := hS9.cell 1 rfl (List.mem_singleton.2 rfl) 2
          have s3 : w9.cell? ⟨w1.heap.size, 1, none⟩ = some (.bool bd) := hS9.cell 0 rfl (List.mem_singleton.2 rfl) 1
          have HCELL : Hid (∀ w' : World, ReadS w1.heap.size w2.heap.size size A (.slice aop ls.length capp) bd w' → w'.cell? ⟨w2.heap.size, 0, none⟩ = some (.int .i64 (size : Int)) ∧ w'.cell? ⟨w2.heap.size, 1, none⟩ = some (.slice aop ls.length capp) ∧ w'.cell? ⟨w2.heap.size, 2, none⟩ = some (.int .i64 (A : Int)) ∧ w'.cell? ⟨w1.heap.size, 1, none⟩ = some (.bool bd)) := Lib.hid (fun _ h => h)
          have HS0123 : Hid (ReadS w1.heap.size w2.heap.size size A (.slice aop ls.length capp) bd w9.drew) := Lib.hid ⟨s0, s1, s2, s3⟩
          clear s0 s1 s2 s3 hS9 k80 k81 k82 f82 d0 d1
          refine wp_region_held_drew (S := ReadS w1.heap.size w2.heap.size size A (.slice aop ls.length capp) bd) mixed HS0123.out (fun hSS => ?_)
          cases bd with
          | true =>
            refine take_d (i := 0) 50 (.agg #[.int .i64 (size : Int), .slice aop ls.length capp, .int .i64 (A : Int)]) rfl rfl (by kernel_rfl) (by kernel_rfl) (by kernel_rfl) (fun _ _ _ h => h) (Or.inl ⟨by rfl, ?_⟩) hSS ?_
            (focus (intro w' hw'; have hb1 := HCELL.out w' hw'; obtain ⟨hb1, hb2, hb3, hb4⟩ := hb1; first | (go_simp; done) | (go_simp; simp [qx0, qx1, qx2]; done)))
            simp only [Act.put, List.setIfInBounds_toArray, List.set_cons_zero, List.set_cons_succ]
            refine take_d (i := 1) 51 (.pointer (some ⟨w1.heap.size, 0, none⟩)) rfl rfl (by kernel_rfl) (by kernel_rfl) (by kernel_rfl) (fun _ _ _ h => h) (Or.inl ⟨by rfl, ?_⟩) hSS ?_
            (focus (intro w' hw'; have hb1 := HCELL.out w' hw'; obtain ⟨hb1, hb2, hb3, hb4⟩ := hb1; first | (go_simp; done) | (go_simp; simp [qx0, qx1, qx2]; done)))
            simp only [Act.put, List.setIfInBounds_toArray, List.set_cons_zero, List.set_cons_succ]
            refine take_d (i := 2) 52 (.pointer (some ⟨w1.heap.size, 0, none⟩)) rfl rfl (by kernel_rfl) (by kernel_rfl) (by kernel_rfl) (fun _ _ _ h => h) (Or.inl ⟨by rfl, ?_⟩) hSS ?_
            (focus (intro w' hw'; have hb1 := HCELL.out w' hw'; obtain ⟨hb1, hb2, hb3, hb4⟩ := hb1; first | (go_simp; done) | (go_simp; simp [qx0, qx1, qx2]; done)))
            simp only [Act.put, List.setIfInBounds_toArray, List.set_cons_zero, List.set_cons_succ]
            refine take_d (i := 3) 53 (.pointer (some ⟨w1.heap.size, 1, none⟩)) rfl rfl (by kernel_rfl) (by kernel_rfl) (by kernel_rfl) (fun _ _ _ h => h) (Or.inl ⟨by rfl, ?_⟩) hSS ?_
            (focus (intro w' hw'; have hb1 := HCELL.out w' hw'; obtain ⟨hb1, hb2, hb3, hb4⟩ := hb1; first | (go_simp; done) | (go_simp; simp [qx0, qx1, qx2]; done)))
            simp only [Act.put, List.setIfInBounds_toArray, List.set_cons_zero, List.set_cons_succ]
            refine take_d (i := 4) 54 (.bool true) rfl rfl (by kernel_rfl) (by kernel_rfl) (by kernel_rfl) (fun _ _ _ h => h) (Or.inl ⟨by rfl, ?_⟩) hSS ?_
            (focus (intro w' hw'; have hb1 := HCELL.out w' hw'; obtain ⟨hb1, hb2, hb3, hb4⟩ := hb1; first | (go_simp; done) | (go_simp; simp [qx0, qx1, qx2]; done)))
            simp only [Act.put, List.setIfInBounds_toArray, List.set_cons_zero, List.set_cons_succ]
            refine take_d (i := 5) 55 (.bool false) rfl rfl (by kernel_rfl) (by kernel_rfl) (by kernel_rfl) (fun _ _ _ h => h) (Or.inl ⟨by rfl, ?_⟩) hSS ?_
            (focus (intro w' hw'; have hb1 := HCELL.out w' hw'; obtain ⟨hb1, hb2, hb3, hb4⟩ := hb1; first | (go_simp; done) | (go_simp; simp [qx0, qx1, qx2]; done)))
            simp only [Act.put, List.setIfInBounds_toArray, List.set_cons_zero, List.set_cons_succ]
            refine take_d (i := 6) 56 (.bool false) rfl rfl (by kernel_rfl) (by kernel_rfl) (by kernel_rfl) (fun _ _ _ h => h) (Or.inl ⟨by rfl, ?_⟩) hSS ?_
            (focus (intro w' hw'; have hb1 := HCELL.out w' hw'; obtain ⟨hb1, hb2, hb3, hb4⟩ := hb1; first | (go_simp; done) | (go_simp; simp [qx0, qx1, qx2]; done)))
            simp only [Act.put, List.setIfInBounds_toArray, List.set_cons_zero, List.set_cons_succ]
            refine take_d (i := 7) 57 (undef) rfl rfl (by kernel_rfl) (by kernel_rfl) (by kernel_rfl) (fun _ _ _ h => h) (Or.inr ⟨by rfl, rfl⟩) hSS ?_
            simp only [Act.put, List.setIfInBounds_toArray, List.set_cons_zero, List.set_cons_succ]
            refine take_d (i := 8) 58 (undef) rfl rfl (by kernel_rfl) (by kernel_rfl) (by kernel_rfl) (fun _ _ _ h => h) (Or.inr ⟨by rfl, rfl⟩) hSS ?_
            simp only [Act.put, List.setIfInBounds_toArray, List.set_cons_zero, List.set_cons_succ]
            refine take_d (i := 9) 59 (undef) rfl rfl (by kernel_rfl) (by kernel_rfl) (by kernel_rfl) (fun _ _ _ h => h) (Or.inr ⟨by rfl, rfl⟩) hSS ?_
            simp only [Act.put, List.setIfInBounds_toArray, List.set_cons_zero, List.set_cons_succ]
            refine take_d (i := 10) 60 (undef) rfl rfl (by kernel_rfl) (by kernel_rfl) (by kernel_rfl) (fun _ _ _ h => h) (Or.inr ⟨by rfl, rfl⟩) hSS ?_
            simp only [Act.put, List.setIfInBounds_toArray, List.set_cons_zero, List.set_cons_succ]
            refine take_d (i := 11) 61 (.bool false) rfl rfl (by kernel_rfl) (by kernel_rfl) (by kernel_rfl) (fun _ _ _ h => h) (Or.inl ⟨by rfl, ?_⟩) hSS ?_
            (focus (intro w' hw'; have hb1 := HCELL.out w' hw'; obtain ⟨hb1, hb2, hb3, hb4⟩ := hb1; first | (go_simp; done) | (go_simp; simp [qx0, qx1, qx2]; done)))
            simp only [Act.put, List.setIfInBounds_toArray, List.set_cons_zero, List.set_cons_succ]
            refine take_d (i := 12) 62 (.bool false) rfl rfl (by kernel_rfl) (by kernel_rfl) (by kernel_rfl) (fun _ _ _ h => h) (Or.inl ⟨by rfl, ?_⟩) hSS ?_
            (focus (intro w' hw'; have hb1 := HCELL.out w' hw'; obtain ⟨hb1, hb2, hb3, hb4⟩ := hb1; first | (go_simp; done) | (go_simp; simp [qx0, qx1, qx2]; done)))
            simp only [Act.put, List.setIfInBounds_toArray, List.set_cons_zero, List.set_cons_succ]
            refine take_d (i := 13) 63 (undef) rfl rfl (by kernel_rfl) (by kernel_rfl) (by kernel_rfl) (fun _ _ _ h => h) (Or.inr ⟨by rfl, rfl⟩) hSS ?_
            simp only [Act.put, List.setIfInBounds_toArray, List.set_cons_zero, List.set_cons_succ]
            refine take_d (i := 14) 64 (undef) rfl rfl (by kernel_rfl) (by kernel_rfl) (by kernel_rfl) (fun _ _ _ h => h) (Or.inr ⟨by rfl, rfl⟩) hSS ?_
            simp only [Act.put, List.setIfInBounds_toArray, List.set_cons_zero, List.set_cons_succ]
            refine take_d (i := 15) 65 (undef) rfl rfl (by kernel_rfl) (by kernel_rfl) (by kernel_rfl) (fun _ _ _ h => h) (Or.inr ⟨by rfl, rfl⟩) hSS ?_
            simp only [Act.put, List.setIfInBounds_toArray, List.set_cons_zero, List.set_cons_succ]
            refine take_d (i := 16) 66 (undef) rfl rfl (by kernel_rfl) (by kernel_rfl) (by kernel_rfl) (fun _ _ _ h => h) (Or.inr ⟨by rfl, rfl⟩) hSS ?_
            simp only [Act.put, List.setIfInBounds_toArray, List.set_cons_zero, List.set_cons_succ]
            refine take_d (i := 17) 67 (undef) rfl rfl (by kernel_rfl) (by kernel_rfl) (by kernel_rfl) (fun _ _ _ h => h) (Or.inr ⟨by rfl, rfl⟩) hSS ?_
            simp only [Act.put, List.setIfInBounds_toArray, List.set_cons_zero, List.set_cons_succ]
            refine take_d (i := 18) 68 (undef) rfl rfl (by kernel_rfl) (by kernel_rfl) (by kernel_rfl) (fun _ _ _ h => h) (Or.inr ⟨by rfl, rfl⟩) hSS ?_
            simp only [Act.put, List.setIfInBounds_toArray, List.set_cons_zero, List.set_cons_succ]
            refine take_d (i := 19) 69 (undef) rfl rfl (by kernel_rfl) (by kernel_rfl) (by kernel_rfl) (fun _ _ _ h => h) (Or.inr ⟨by rfl, rfl⟩) hSS ?_
            simp only [Act.put, List.setIfInBounds_toArray, List.set_cons_zero, List.set_cons_succ]
            refine take_d (i := 20) 70 (undef) rfl rfl (by kernel_rfl) (by kernel_rfl) (by kernel_rfl) (fun _ _ _ h => h) (Or.inr ⟨by rfl, rfl⟩) hSS ?_
            simp only [Act.put, List.setIfInBounds_toArray, List.set_cons_zero, List.set_cons_succ]
            refine take_d (i := 21) 71 (.bool false) rfl rfl (by kernel_rfl) (by kernel_rfl) (by kernel_rfl) (fun _ _ _ h => h) (Or.inl ⟨by rfl, ?_⟩) hSS ?_
            (focus (intro w' hw'; have hb1 := HCELL.out w' hw'; obtain ⟨hb1, hb2, hb3, hb4⟩ := hb1; first | (go_simp; done) | (go_simp; simp [qx0, qx1, qx2]; done)))
            simp only [Act.put, List.setIfInBounds_toArray, List.set_cons_zero, List.set_cons_succ]
            obtain ⟨W, HWE⟩ : ∃ W, W = w9.drew := ⟨_, rfl⟩
            have HWS := HSJ.out.drew
            rw [← HWE] at HWS hSS ⊢
            clear HWE
            have q0 : W.cell? ⟨w.heap.size, 0, none⟩ = some (.int .i64 0) := HWS.cell 3 rfl (List.mem_singleton.2 rfl) 0
            have q1 : W.cell? ⟨w.heap.size, 1, none⟩ = some (.slice none 0 0) := HWS.cell 3 rfl (List.mem_singleton.2 rfl) 1
            have q2 : W.cell? ⟨w.heap.size, 2, none⟩ = some (.int .i64 0) := HWS.cell 3 rfl (List.mem_singleton.2 rfl) 2
            have z0 : W.frozen? ⟨w.heap.size, 0, none⟩ = false := HWS.free 3 rfl (List.mem_singleton.2 rfl) 0
            have z1 : W.frozen? ⟨w.heap.size, 1, none⟩ = false := HWS.free 3 rfl (List.mem_singleton.2 rfl) 1
            have z2 : W.frozen? ⟨w.heap.size, 2, none⟩ = false := HWS.free 3 rfl (List.mem_singleton.2 rfl) 2
            refine wpAnyH_ready (rs := [22]) (by kernel_rfl) (by simp) (AllReadyH.cons rfl (fun K2 hK2 => ?_) AllReadyH.nil)
            rw [if_pos (by rfl)]
            go_simp
            have hT := ((HWS.store 3 rfl 0 (.int .i64 (size : Int))).store 3 rfl 1 (.slice aop ls.length capp)).store 3 rfl 2 (.int .i64 (A : Int))
            have HT := Lib.hid hT
            refine hK2.out _ _ ⟨hT.cell 1 rfl (List.mem_singleton.2 rfl) 0, hT.cell 1 rfl (List.mem_singleton.2 rfl) 1, hT.cell 1 rfl (List.mem_singleton.2 rfl) 2, hT.cell 0 rfl (List.mem_singleton.2 rfl) 1⟩ (fun hSS => ?_)
            clear q0 q1 q2 z0 z1 z2 hT
            refine wpAnyH_ready (rs := [23]) (by kernel_rfl) (by simp) (AllReadyH.cons rfl (fun K3 hK3 => ?_) AllReadyH.nil)
            rw [if_pos (by rfl)]
            go_simp
            refine hK3.out _ _ hSS (fun _ => ?_)
            refine wpAnyH_done (by kernel_rfl) ?_ _
            go_wp2_with fail
            ((try simp only [Exit.inBlock, Exit.then]); refine bodyPost_ret (results_cell_two rfl _ _ _ _ _ 3 rfl HT.out rfl Try.underlying82 rfl h63) rfl ?_)
            exact .inr ⟨_, _, _, _, _, rfl, HT.out.pick [] (by decide) [] rfl, fun ⟨s, l, a, hp⟩ => by have h1 := (HN.out s l a hp).1; cases h1⟩
          | false =>
            have hsz2 : (size : Int) ≤ 1099511627776 := by have := HSZ.out; omega
            have qd : (((size : Int) + 1000 - 1).tdiv 1000) = (((size + 999) / 1000 : Nat) : Int) := by
              rw [show (size : Int) + 1000 - 1 = ((size + 999 : Nat) : Int) from by omega]
              exact (Int.ofNat_tdiv (size + 999) 1000).symm
            have qd2 : (((size : Int) + 999).tdiv 1000) = (((size + 999) / 1000 : Nat) : Int) := by
              rw [show (size : Int) + 999 = ((size + 999 : Nat) : Int) from by omega]
              exact (Int.ofNat_tdiv (size + 999) 1000).symm
            have qw3 : IntKind.i64.wrap (((size : Int) + 999) / 1000) = ((size : Int) + 999) / 1000 := IntWalk.i64_in _ (by omega)
            have qx1 := qd
            have qx0 := qd2
            have qw1 : IntKind.i64.wrap ((size : Int) + 1000) = (size : Int) + 1000 := IntWalk.i64_in _ (by omega)
            have qw2 : IntKind.i64.wrap ((size : Int) + 1000 - 1) = (size : Int) + 1000 - 1 := IntWalk.i64_in _ (by omega)
            by_cases qa : A = b.length
            · have HQ := Lib.hid qa
              have qx2 : ((A : Int) == (b.length : Int)) = true := by rw [beq_iff_eq]; omega
              clear qa
              refine take_d (i := 0) 50 (.agg #[.int .i64 (size : Int), .slice aop ls.length capp, .int .i64 (A : Int)]) rfl rfl (by kernel_rfl) (by kernel_rfl) (by kernel_rfl) (fun _ _ _ h => h) (Or.inl ⟨by rfl, ?_⟩) hSS ?_
              (focus (intro w' hw'; have hb1 := HCELL.out w' hw'; obtain ⟨hb1, hb2, hb3, hb4⟩ := hb1; first | (go_simp; done) | (go_simp; simp [qx0, qx1, qx2]; done)))
              simp only [Act.put, List.setIfInBounds_toArray, List.set_cons_zero, List.set_cons_succ]
              refine take_d (i := 1) 51 (.pointer (some ⟨w1.heap.size, 0, none⟩)) rfl rfl (by kernel_rfl) (by kernel_rfl) (by kernel_rfl) (fun _ _ _ h => h) (Or.inl ⟨by rfl, ?_⟩) hSS ?_
              (focus (intro w' hw'; have hb1 := HCELL.out w' hw'; obtain ⟨hb1, hb2, hb3, hb4⟩ := hb1; first | (go_simp; done) | (go_simp; simp [qx0, qx1, qx2]; done)))
              simp only [Act.put, List.setIfInBounds_toArray, List.set_cons_zero, List.set_cons_succ]
              refine take_d (i := 2) 52 (.pointer (some ⟨w1.heap.size, 0, none⟩)) rfl rfl (by kernel_rfl) (by kernel_rfl) (by kernel_rfl) (fun _ _ _ h => h) (Or.inl ⟨by rfl, ?_⟩) hSS ?_
              (focus (intro w' hw'; have hb1 := HCELL.out w' hw'; obtain ⟨hb1, hb2, hb3, hb4⟩ := hb1; first | (go_simp; done) | (go_simp; simp [qx0, qx1, qx2]; done)))
              simp only [Act.put, List.setIfInBounds_toArray, List.set_cons_zero, List.set_cons_succ]
              refine take_d (i := 3) 53 (.pointer (some ⟨w1.heap.size, 1, none⟩)) rfl rfl (by kernel_rfl) (by kernel_rfl) (by kernel_rfl) (fun _ _ _ h => h) (Or.inl ⟨by rfl, ?_⟩) hSS ?_
              (focus (intro w' hw'; have hb1 := HCELL.out w' hw'; obtain ⟨hb1, hb2, hb3, hb4⟩ := hb1; first | (go_simp; done) | (go_simp; simp [qx0, qx1, qx2]; done)))
              simp only [Act.put, List.setIfInBounds_toArray, List.set_cons_zero, List.set_cons_succ]
              refine take_d (i := 4) 54 (.bool false) rfl rfl (by kernel_rfl) (by kernel_rfl) (by kernel_rfl) (fun _ _ _ h => h) (Or.inl ⟨by rfl, ?_⟩) hSS ?_
              (focus (intro w' hw'; have hb1 := HCELL.out w' hw'; obtain ⟨hb1, hb2, hb3, hb4⟩ := hb1; first | (go_simp; done) | (go_simp; simp [qx0, qx1, qx2]; done)))
              simp only [Act.put, List.setIfInBounds_toArray, List.set_cons_zero, List.set_cons_succ]
              refine take_d (i := 5) 55 (.bool true) rfl rfl (by kernel_rfl) (by kernel_rfl) (by kernel_rfl) (fun _ _ _ h => h) (Or.inl ⟨by rfl, ?_⟩) hSS ?_
              (focus (intro w' hw'; have hb1 := HCELL.out w' hw'; obtain ⟨hb1, hb2, hb3, hb4⟩ := hb1; first | (go_simp; done) | (go_simp; simp [qx0, qx1, qx2]; done)))
              simp only [Act.put, List.setIfInBounds_toArray, List.set_cons_zero, List.set_cons_succ]
              refine take_d (i := 6) 56 (.bool true) rfl rfl (by kernel_rfl) (by kernel_rfl) (by kernel_rfl) (fun _ _ _ h => h) (Or.inl ⟨by rfl, ?_⟩) hSS ?_
              (focus (intro w' hw'; have hb1 := HCELL.out w' hw'; obtain ⟨hb1, hb2, hb3, hb4⟩ := hb1; first | (go_simp; done) | (go_simp; simp [qx0, qx1, qx2]; done)))
              simp only [Act.put, List.setIfInBounds_toArray, List.set_cons_zero, List.set_cons_succ]
              refine take_d (i := 7) 57 (.int .i64 (A : Int)) rfl rfl (by kernel_rfl) (by kernel_rfl) (by kernel_rfl) (fun _ _ _ h => h) (Or.inl ⟨by rfl, ?_⟩) hSS ?_
              (focus (intro w' hw'; have hb1 := HCELL.out w' hw'; obtain ⟨hb1, hb2, hb3, hb4⟩ := hb1; first | (go_simp; done) | (go_simp; simp [qx0, qx1, qx2]; done)))
              simp only [Act.put, List.setIfInBounds_toArray, List.set_cons_zero, List.set_cons_succ]
              refine take_d (i := 8) 58 (.slice ao b.length cap) rfl rfl (by kernel_rfl) (by kernel_rfl) (by kernel_rfl) (fun _ _ _ h => h) (Or.inl ⟨by rfl, ?_⟩) hSS ?_
              (focus (intro w' hw'; have hb1 := HCELL.out w' hw'; obtain ⟨hb1, hb2, hb3, hb4⟩ := hb1; first | (go_simp; done) | (go_simp; simp [qx0, qx1, qx2]; done)))
              simp only [Act.put, List.setIfInBounds_toArray, List.set_cons_zero, List.set_cons_succ]
              refine take_d (i := 9) 59 (.int .i64 (b.length : Int)) rfl rfl (by kernel_rfl) (by kernel_rfl) (by kernel_rfl) (fun _ _ _ h => h) (Or.inl ⟨by rfl, ?_⟩) hSS ?_
              (focus (intro w' hw'; have hb1 := HCELL.out w' hw'; obtain ⟨hb1, hb2, hb3, hb4⟩ := hb1; first | (go_simp; done) | (go_simp; simp [qx0, qx1, qx2]; done)))
              simp only [Act.put, List.setIfInBounds_toArray, List.set_cons_zero, List.set_cons_succ]
              refine take_d (i := 10) 60 (.bool true) rfl rfl (by kernel_rfl) (by kernel_rfl) (by kernel_rfl) (fun _ _ _ h => h) (Or.inl ⟨by rfl, ?_⟩) hSS ?_
              (focus (intro w' hw'; have hb1 := HCELL.out w' hw'; obtain ⟨hb1, hb2, hb3, hb4⟩ := hb1; first | (go_simp; done) | (go_simp; simp [qx0, qx1, qx2]; done)))
              simp only [Act.put, List.setIfInBounds_toArray, List.set_cons_zero, List.set_cons_succ]
              refine take_d (i := 11) 61 (.bool true) rfl rfl (by kernel_rfl) (by kernel_rfl) (by kernel_rfl) (fun _ _ _ h => h) (Or.inl ⟨by rfl, ?_⟩) hSS ?_
              (focus (intro w' hw'; have hb1 := HCELL.out w' hw'; obtain ⟨hb1, hb2, hb3, hb4⟩ := hb1; first | (go_simp; done) | (go_simp; simp [qx0, qx1, qx2]; done)))
              simp only [Act.put, List.setIfInBounds_toArray, List.set_cons_zero, List.set_cons_succ]
              refine take_d (i := 12) 62 (.bool true) rfl rfl (by kernel_rfl) (by kernel_rfl) (by kernel_rfl) (fun _ _ _ h => h) (Or.inl ⟨by rfl, ?_⟩) hSS ?_
              (focus (intro w' hw'; have hb1 := HCELL.out w' hw'; obtain ⟨hb1, hb2, hb3, hb4⟩ := hb1; first | (go_simp; done) | (go_simp; simp [qx0, qx1, qx2]; done)))
              simp only [Act.put, List.setIfInBounds_toArray, List.set_cons_zero, List.set_cons_succ]
              refine take_d (i := 13) 63 (.agg #[.int .i64 (size : Int), .slice aop ls.length capp, .int .i64 (A : Int)]) rfl rfl (by kernel_rfl) (by kernel_rfl) (by kernel_rfl) (fun _ _ _ h => h) (Or.inl ⟨by rfl, ?_⟩) hSS ?_
              (focus (intro w' hw'; have hb1 := HCELL.out w' hw'; obtain ⟨hb1, hb2, hb3, hb4⟩ := hb1; first | (go_simp; done) | (go_simp; simp [qx0, qx1, qx2]; done)))
              simp only [Act.put, List.setIfInBounds_toArray, List.set_cons_zero, List.set_cons_succ]
              refine take_d (i := 15) 65 (.pointer (some ⟨w2.heap.size, 0, none⟩)) rfl rfl (by kernel_rfl) (by kernel_rfl) (by kernel_rfl) (fun _ _ _ h => h) (Or.inl ⟨by rfl, ?_⟩) hSS ?_
              (focus (intro w' hw'; have hb1 := HCELL.out w' hw'; obtain ⟨hb1, hb2, hb3, hb4⟩ := hb1; first | (go_simp; done) | (go_simp; simp [qx0, qx1, qx2]; done)))
              simp only [Act.put, List.setIfInBounds_toArray, List.set_cons_zero, List.set_cons_succ]
              refine take_d (i := 16) 66 (.int .i64 (size : Int)) rfl rfl (by kernel_rfl) (by kernel_rfl) (by kernel_rfl) (fun _ _ _ h => h) (Or.inl ⟨by rfl, ?_⟩) hSS ?_
              (focus (intro w' hw'; have hb1 := HCELL.out w' hw'; obtain ⟨hb1, hb2, hb3, hb4⟩ := hb1; first | (go_simp; done) | (go_simp; simp [qx0, qx1, qx2]; done)))
              simp only [Act.put, List.setIfInBounds_toArray, List.set_cons_zero, List.set_cons_succ]
              refine take_d (i := 17) 67 (.int .i64 ((size : Int) + 1000)) rfl rfl (by kernel_rfl) (by kernel_rfl) (by kernel_rfl) (fun _ _ _ h => h) (Or.inl ⟨by rfl, ?_⟩) hSS ?_
              (focus (intro w' hw'; have hb1 := HCELL.out w' hw'; obtain ⟨hb1, hb2, hb3, hb4⟩ := hb1; first | (go_simp; done) | (go_simp; simp [qx0, qx1, qx2]; done)))
              simp only [Act.put, List.setIfInBounds_toArray, List.set_cons_zero, List.set_cons_succ]
              refine take_d (i := 18) 68 (.int .i64 ((size : Int) + 1000 - 1)) rfl rfl (by kernel_rfl) (by kernel_rfl) (by kernel_rfl) (fun _ _ _ h => h) (Or.inl ⟨by rfl, ?_⟩) hSS ?_
              (focus (intro w' hw'; have hb1 := HCELL.out w' hw'; obtain ⟨hb1, hb2, hb3, hb4⟩ := hb1; first | (go_simp; done) | (go_simp; simp [qx0, qx1, qx2]; done)))
              simp only [Act.put, List.setIfInBounds_toArray, List.set_cons_zero, List.set_cons_succ]
              refine take_d (i := 19) 69 (.int .i64 (((size : Int) + 999) / 1000)) rfl rfl (by kernel_rfl) (by kernel_rfl) (by kernel_rfl) (fun _ _ _ h => h) (Or.inl ⟨by rfl, ?_⟩) hSS ?_
              (focus (intro w' hw'; have hb1 := HCELL.out w' hw'; obtain ⟨hb1, hb2, hb3, hb4⟩ := hb1; first | (go_simp; done) | (go_simp; simp [qx0, qx1, qx2]; done)))
              simp only [Act.put, List.setIfInBounds_toArray, List.set_cons_zero, List.set_cons_succ]
              refine wpAnyH_ready (rs := [14]) (by kernel_rfl) (by simp) (AllReadyH.cons rfl (fun K1 hK1 => ?_) AllReadyH.nil)
              rw [if_pos (by rfl)]
              go_simp
              refine (ctnum_any (size : Int) (A : Int) aop ls.length capp _).mono ?_
              rintro e wn ⟨rfl, o, rfl⟩
              have HSA := Lib.hid (HSJ.out.drew.alloc' o)
              refine hK1.out _ _ ⟨HSA.out.cell 1 rfl (List.mem_singleton.2 rfl) 0, HSA.out.cell 1 rfl (List.mem_singleton.2 rfl) 1, HSA.out.cell 1 rfl (List.mem_singleton.2 rfl) 2, HSA.out.cell 0 rfl (List.mem_singleton.2 rfl) 1⟩ (fun hSS => ?_)
              try simp only [Act.put, List.setIfInBounds_toArray, List.set_cons_zero, List.set_cons_succ]
              by_cases qc : ls.length = (size + 999) / 1000
              · have qx0 : ((ls.length : Int) == ((size : Int) + 999) / 1000) = true := by rw [beq_iff_eq]; omega
                have HQC := Lib.hid qc
                clear qc
                refine take_d (i := 20) 70 (.bool true) rfl rfl (by kernel_rfl) (by kernel_rfl) (by kernel_rfl) (fun _ _ _ h => h) (Or.inl ⟨by rfl, ?_⟩) hSS ?_
                (focus (intro w' hw'; have hb1 := HCELL.out w' hw'; obtain ⟨hb1, hb2, hb3, hb4⟩ := hb1; first | (go_simp; done) | (go_simp; simp [qx0, qx1, qx2]; done)))
                simp only [Act.put, List.setIfInBounds_toArray, List.set_cons_zero, List.set_cons_succ]
                refine take_d (i := 21) 71 (.bool true) rfl rfl (by kernel_rfl) (by kernel_rfl) (by kernel_rfl) (fun _ _ _ h => h) (Or.inl ⟨by rfl, ?_⟩) hSS ?_
                (focus (intro w' hw'; have hb1 := HCELL.out w' hw'; obtain ⟨hb1, hb2, hb3, hb4⟩ := hb1; first | (go_simp; done) | (go_simp; simp [qx0, qx1, qx2]; done)))
                simp only [Act.put, List.setIfInBounds_toArray, List.set_cons_zero, List.set_cons_succ]
                obtain ⟨W, HWE⟩ : ∃ W, W = w9.drew.alloc o := ⟨_, rfl⟩
                have HWS := HSA.out
                rw [← HWE] at HWS hSS ⊢
                clear HWE
                have q0 : W.cell? ⟨w.heap.size, 0, none⟩ = some (.int .i64 0) := HWS.cell 3 rfl (List.mem_singleton.2 rfl) 0
                have q1 : W.cell? ⟨w.heap.size, 1, none⟩ = some (.slice none 0 0) := HWS.cell 3 rfl (List.mem_singleton.2 rfl) 1
                have q2 : W.cell? ⟨w.heap.size, 2, none⟩ = some (.int .i64 0) := HWS.cell 3 rfl (List.mem_singleton.2 rfl) 2
                have z0 : W.frozen? ⟨w.heap.size, 0, none⟩ = false := HWS.free 3 rfl (List.mem_singleton.2 rfl) 0
                have z1 : W.frozen? ⟨w.heap.size, 1, none⟩ = false := HWS.free 3 rfl (List.mem_singleton.2 rfl) 1
                have z2 : W.frozen? ⟨w.heap.size, 2, none⟩ = false := HWS.free 3 rfl (List.mem_singleton.2 rfl) 2
                refine wpAnyH_ready (rs := [22]) (by kernel_rfl) (by simp) (AllReadyH.cons rfl (fun K2 hK2 => ?_) AllReadyH.nil)
                rw [if_pos (by rfl)]
                go_simp
                have hT := ((HWS.store 3 rfl 0 (.int .i64 (size : Int))).store 3 rfl 1 (.slice aop ls.length capp)).store 3 rfl 2 (.int .i64 (A : Int))
                have HT := Lib.hid hT
                refine hK2.out _ _ ⟨hT.cell 1 rfl (List.mem_singleton.2 rfl) 0, hT.cell 1 rfl (List.mem_singleton.2 rfl) 1, hT.cell 1 rfl (List.mem_singleton.2 rfl) 2, hT.cell 0 rfl (List.mem_singleton.2 rfl) 1⟩ (fun hSS => ?_)
                clear q0 q1 q2 z0 z1 z2 hT
                refine wpAnyH_ready (rs := [23]) (by kernel_rfl) (by simp) (AllReadyH.cons rfl (fun K3 hK3 => ?_) AllReadyH.nil)
                rw [if_pos (by rfl)]
                go_simp
                refine hK3.out _ _ hSS (fun _ => ?_)
                refine wpAnyH_done (by kernel_rfl) ?_ _
                go_wp2_with fail
                ((try simp only [Exit.inBlock, Exit.then]); refine bodyPost_ret (results_cell_two rfl _ _ _ _ _ 3 rfl HT.out rfl Try.underlying82 rfl h63) rfl ?_)
                exact .inl ⟨size, ls, at0, _, pc, HP.out (by first | trivial | rfl) HQ.out HQC.out, by rw [HQ.out]; rfl, HS.out.2.1, (HT.out.pick [2] (by decide) _ rfl)⟩
              · have qx0 : ((ls.length : Int) == ((size : Int) + 999) / 1000) = false := by rw [beq_eq_false_iff_ne]; omega
                have HQC := Lib.hid qc
                clear qc
                refine take_d (i := 20) 70 (.bool false) rfl rfl (by kernel_rfl) (by kernel_rfl) (by kernel_rfl) (fun _ _ _ h => h) (Or.inl ⟨by rfl, ?_⟩) hSS ?_
                (focus (intro w' hw'; have hb1 := HCELL.out w' hw'; obtain ⟨hb1, hb2, hb3, hb4⟩ := hb1; first | (go_simp; done) | (go_simp; simp [qx0, qx1, qx2]; done)))
                simp only [Act.put, List.setIfInBounds_toArray, List.set_cons_zero, List.set_cons_succ]
                refine take_d (i := 21) 71 (.bool false) rfl rfl (by kernel_rfl) (by kernel_rfl) (by kernel_rfl) (fun _ _ _ h => h) (Or.inl ⟨by rfl, ?_⟩) hSS ?_
                (focus (intro w' hw'; have hb1 := HCELL.out w' hw'; obtain ⟨hb1, hb2, hb3, hb4⟩ := hb1; first | (go_simp; done) | (go_simp; simp [qx0, qx1, qx2]; done)))
                simp only [Act.put, List.setIfInBounds_toArray, List.set_cons_zero, List.set_cons_succ]
                obtain ⟨W, HWE⟩ : ∃ W, W = w9.drew.alloc o := ⟨_, rfl⟩
                have HWS := HSA.out
                rw [← HWE] at HWS hSS ⊢
                clear HWE
                have q0 : W.cell? ⟨w.heap.size, 0, none⟩ = some (.int .i64 0) := HWS.cell 3 rfl (List.mem_singleton.2 rfl) 0
                have q1 : W.cell? ⟨w.heap.size, 1, none⟩ = some (.slice none 0 0) := HWS.cell 3 rfl (List.mem_singleton.2 rfl) 1
                have q2 : W.cell? ⟨w.heap.size, 2, none⟩ = some (.int .i64 0) := HWS.cell 3 rfl (List.mem_singleton.2 rfl) 2
                have z0 : W.frozen? ⟨w.heap.size, 0, none⟩ = false := HWS.free 3 rfl (List.mem_singleton.2 rfl) 0
                have z1 : W.frozen? ⟨w.heap.size, 1, none⟩ = false := HWS.free 3 rfl (List.mem_singleton.2 rfl) 1
                have z2 : W.frozen? ⟨w.heap.size, 2, none⟩ = false := HWS.free 3 rfl (List.mem_singleton.2 rfl) 2
                refine wpAnyH_ready (rs := [22]) (by kernel_rfl) (by simp) (AllReadyH.cons rfl (fun K2 hK2 => ?_) AllReadyH.nil)
                rw [if_pos (by rfl)]
                go_simp
                have hT := ((HWS.store 3 rfl 0 (.int .i64 (size : Int))).store 3 rfl 1 (.slice aop ls.length capp)).store 3 rfl 2 (.int .i64 (A : Int))
                have HT := Lib.hid hT
                refine hK2.out _ _ ⟨hT.cell 1 rfl (List.mem_singleton.2 rfl) 0, hT.cell 1 rfl (List.mem_singleton.2 rfl) 1, hT.cell 1 rfl (List.mem_singleton.2 rfl) 2, hT.cell 0 rfl (List.mem_singleton.2 rfl) 1⟩ (fun hSS => ?_)
                clear q0 q1 q2 z0 z1 z2 hT
                refine wpAnyH_ready (rs := [23]) (by kernel_rfl) (by simp) (AllReadyH.cons rfl (fun K3 hK3 => ?_) AllReadyH.nil)
                rw [if_pos (by rfl)]
                go_simp
                refine hK3.out _ _ hSS (fun _ => ?_)
                refine wpAnyH_done (by kernel_rfl) ?_ _
                go_wp2_with fail
                ((try simp only [Exit.inBlock, Exit.then]); refine bodyPost_ret (results_cell_two rfl _ _ _ _ _ 3 rfl HT.out rfl Try.underlying82 rfl h63) rfl ?_)
                exact .inr ⟨_, _, _, _, _, rfl, HT.out.pick [] (by decide) [] rfl, fun ⟨s, l, a, hp⟩ => by have h1 := HN.out s l a hp; obtain ⟨x, k, _, g2, _, _, g5, g6⟩ := hp; rw [h1.2.2.1, h1.2.1] at g6; exact HQC.out g6⟩
            · have HQ := Lib.hid qa
              have qx2 : ((A : Int) == (b.length : Int)) = false := by rw [beq_eq_false_iff_ne]; omega
              clear qa
              refine take_d (i := 0) 50 (.agg #[.int .i64 (size : Int), .slice aop ls.length capp, .int .i64 (A : Int)]) rfl rfl (by kernel_rfl) (by kernel_rfl) (by kernel_rfl) (fun _ _ _ h => h) (Or.inl ⟨by rfl, ?_⟩) hSS ?_
              (focus (intro w' hw'; have hb1 := HCELL.out w' hw'; obtain ⟨hb1, hb2, hb3, hb4⟩ := hb1; first | (go_simp; done) | (go_simp; simp [qx0, qx1, qx2]; done)))
              simp only [Act.put, List.setIfInBounds_toArray, List.set_cons_zero, List.set_cons_succ]
              refine take_d (i := 1) 51 (.pointer (some ⟨w1.heap.size, 0, none⟩)) rfl rfl (by kernel_rfl) (by kernel_rfl) (by kernel_rfl) (fun _ _ _ h => h) (Or.inl ⟨by rfl, ?_⟩) hSS ?_
              (focus (intro w' hw'; have hb1 := HCELL.out w' hw'; obtain ⟨hb1, hb2, hb3, hb4⟩ := hb1; first | (go_simp; done) | (go_simp; simp [qx0, qx1, qx2]; done)))
              simp only [Act.put, List.setIfInBounds_toArray, List.set_cons_zero, List.set_cons_succ]
              refine take_d (i := 2) 52 (.pointer (some ⟨w1.heap.size, 0, none⟩)) rfl rfl (by kernel_rfl) (by kernel_rfl) (by kernel_rfl) (fun _ _ _ h => h) (Or.inl ⟨by rfl, ?_⟩) hSS ?_
              (focus (intro w' hw'; have hb1 := HCELL.out w' hw'; obtain ⟨hb1, hb2, hb3, hb4⟩ := hb1; first | (go_simp; done) | (go_simp; simp [qx0, qx1, qx2]; done)))
              simp only [Act.put, List.setIfInBounds_toArray, List.set_cons_zero, List.set_cons_succ]
              refine take_d (i := 3) 53 (.pointer (some ⟨w1.heap.size, 1, none⟩)) rfl rfl (by kernel_rfl) (by kernel_rfl) (by kernel_rfl) (fun _ _ _ h => h) (Or.inl ⟨by rfl, ?_⟩) hSS ?_
              (focus (intro w' hw'; have hb1 := HCELL.out w' hw'; obtain ⟨hb1, hb2, hb3, hb4⟩ := hb1; first | (go_simp; done) | (go_simp; simp [qx0, qx1, qx2]; done)))
              simp only [Act.put, List.setIfInBounds_toArray, List.set_cons_zero, List.set_cons_succ]
              refine take_d (i := 4) 54 (.bool false) rfl rfl (by kernel_rfl) (by kernel_rfl) (by kernel_rfl) (fun _ _ _ h => h) (Or.inl ⟨by rfl, ?_⟩) hSS ?_
              (focus (intro w' hw'; have hb1 := HCELL.out w' hw'; obtain ⟨hb1, hb2, hb3, hb4⟩ := hb1; first | (go_simp; done) | (go_simp; simp [qx0, qx1, qx2]; done)))
              simp only [Act.put, List.setIfInBounds_toArray, List.set_cons_zero, List.set_cons_succ]
              refine take_d (i := 5) 55 (.bool true) rfl rfl (by kernel_rfl) (by kernel_rfl) (by kernel_rfl) (fun _ _ _ h => h) (Or.inl ⟨by rfl, ?_⟩) hSS ?_
              (focus (intro w' hw'; have hb1 := HCELL.out w' hw'; obtain ⟨hb1, hb2, hb3, hb4⟩ := hb1; first | (go_simp; done) | (go_simp; simp [qx0, qx1, qx2]; done)))
              simp only [Act.put, List.setIfInBounds_toArray, List.set_cons_zero, List.set_cons_succ]
              refine take_d (i := 6) 56 (.bool true) rfl rfl (by kernel_rfl) (by kernel_rfl) (by kernel_rfl) (fun _ _ _ h => h) (Or.inl ⟨by rfl, ?_⟩) hSS ?_
              (focus (intro w' hw'; have hb1 := HCELL.out w' hw'; obtain ⟨hb1, hb2, hb3, hb4⟩ := hb1; first | (go_simp; done) | (go_simp; simp [qx0, qx1, qx2]; done)))
              simp only [Act.put, List.setIfInBounds_toArray, List.set_cons_zero, List.set_cons_succ]
              refine take_d (i := 7) 57 (.int .i64 (A : Int)) rfl rfl (by kernel_rfl) (by kernel_rfl) (by kernel_rfl) (fun _ _ _ h => h) (Or.inl ⟨by rfl, ?_⟩) hSS ?_
              (focus (intro w' hw'; have hb1 := HCELL.out w' hw'; obtain ⟨hb1, hb2, hb3, hb4⟩ := hb1; first | (go_simp; done) | (go_simp; simp [qx0, qx1, qx2]; done)))
              simp only [Act.put, List.setIfInBounds_toArray, List.set_cons_zero, List.set_cons_succ]
              refine take_d (i := 8) 58 (.slice ao b.length cap) rfl rfl (by kernel_rfl) (by kernel_rfl) (by kernel_rfl) (fun _ _ _ h => h) (Or.inl ⟨by rfl, ?_⟩) hSS ?_
              (focus (intro w' hw'; have hb1 := HCELL.out w' hw'; obtain ⟨hb1, hb2, hb3, hb4⟩ := hb1; first | (go_simp; done) | (go_simp; simp [qx0, qx1, qx2]; done)))
              simp only [Act.put, List.setIfInBounds_toArray, List.set_cons_zero, List.set_cons_succ]
              refine take_d (i := 9) 59 (.int .i64 (b.length : Int)) rfl rfl (by kernel_rfl) (by kernel_rfl) (by kernel_rfl) (fun _ _ _ h => h) (Or.inl ⟨by rfl, ?_⟩) hSS ?_
              (focus (intro w' hw'; have hb1 := HCELL.out w' hw'; obtain ⟨hb1, hb2, hb3, hb4⟩ := hb1; first | (go_simp; done) | (go_simp; simp [qx0, qx1, qx2]; done)))
              simp only [Act.put, List.setIfInBounds_toArray, List.set_cons_zero, List.set_cons_succ]
              refine take_d (i := 10) 60 (.bool false) rfl rfl (by kernel_rfl) (by kernel_rfl) (by kernel_rfl) (fun _ _ _ h => h) (Or.inl ⟨by rfl, ?_⟩) hSS ?_
              (focus (intro w' hw'; have hb1 := HCELL.out w' hw'; obtain ⟨hb1, hb2, hb3, hb4⟩ := hb1; first | (go_simp; done) | (go_simp; simp [qx0, qx1, qx2]; done)))
              simp only [Act.put, List.setIfInBounds_toArray, List.set_cons_zero, List.set_cons_succ]
              refine take_d (i := 11) 61 (.bool false) rfl rfl (by kernel_rfl) (by kernel_rfl) (by kernel_rfl) (fun _ _ _ h => h) (Or.inl ⟨by rfl, ?_⟩) hSS ?_
              (focus (intro w' hw'; have hb1 := HCELL.out w' hw'; obtain ⟨hb1, hb2, hb3, hb4⟩ := hb1; first | (go_simp; done) | (go_simp; simp [qx0, qx1, qx2]; done)))
              simp only [Act.put, List.setIfInBounds_toArray, List.set_cons_zero, List.set_cons_succ]
              refine take_d (i := 12) 62 (.bool false) rfl rfl (by kernel_rfl) (by kernel_rfl) (by kernel_rfl) (fun _ _ _ h => h) (Or.inl ⟨by rfl, ?_⟩) hSS ?_
              (focus (intro w' hw'; have hb1 := HCELL.out w' hw'; obtain ⟨hb1, hb2, hb3, hb4⟩ := hb1; first | (go_simp; done) | (go_simp; simp [qx0, qx1, qx2]; done)))
              simp only [Act.put, List.setIfInBounds_toArray, List.set_cons_zero, List.set_cons_succ]
              refine take_d (i := 13) 63 (undef) rfl rfl (by kernel_rfl) (by kernel_rfl) (by kernel_rfl) (fun _ _ _ h => h) (Or.inr ⟨by rfl, rfl⟩) hSS ?_
              simp only [Act.put, List.setIfInBounds_toArray, List.set_cons_zero, List.set_cons_succ]
              refine take_d (i := 14) 64 (undef) rfl rfl (by kernel_rfl) (by kernel_rfl) (by kernel_rfl) (fun _ _ _ h => h) (Or.inr ⟨by rfl, rfl⟩) hSS ?_
              simp only [Act.put, List.setIfInBounds_toArray, List.set_cons_zero, List.set_cons_succ]
              refine take_d (i := 15) 65 (undef) rfl rfl (by kernel_rfl) (by kernel_rfl) (by kernel_rfl) (fun _ _ _ h => h) (Or.inr ⟨by rfl, rfl⟩) hSS ?_
              simp only [Act.put, List.setIfInBounds_toArray, List.set_cons_zero, List.set_cons_succ]
              refine take_d (i := 16) 66 (undef) rfl rfl (by kernel_rfl) (by kernel_rfl) (by kernel_rfl) (fun _ _ _ h => h) (Or.inr ⟨by rfl, rfl⟩) hSS ?_
              simp only [Act.put, List.setIfInBounds_toArray, List.set_cons_zero, List.set_cons_succ]
              refine take_d (i := 17) 67 (undef) rfl rfl (by kernel_rfl) (by kernel_rfl) (by kernel_rfl) (fun _ _ _ h => h) (Or.inr ⟨by rfl, rfl⟩) hSS ?_
              simp only [Act.put, List.setIfInBounds_toArray, List.set_cons_zero, List.set_cons_succ]
              refine take_d (i := 18) 68 (undef) rfl rfl (by kernel_rfl) (by kernel_rfl) (by kernel_rfl) (fun _ _ _ h => h) (Or.inr ⟨by rfl, rfl⟩) hSS ?_
              simp only [Act.put, List.setIfInBounds_toArray, List.set_cons_zero, List.set_cons_succ]
              refine take_d (i := 19) 69 (undef) rfl rfl (by kernel_rfl) (by kernel_rfl) (by kernel_rfl) (fun _ _ _ h => h) (Or.inr ⟨by rfl, rfl⟩) hSS ?_
              simp only [Act.put, List.setIfInBounds_toArray, List.set_cons_zero, List.set_cons_succ]
              refine take_d (i := 20) 70 (undef) rfl rfl (by kernel_rfl) (by kernel_rfl) (by kernel_rfl) (fun _ _ _ h => h) (Or.inr ⟨by rfl, rfl⟩) hSS ?_
              simp only [Act.put, List.setIfInBounds_toArray, List.set_cons_zero, List.set_cons_succ]
              refine take_d (i := 21) 71 (.bool false) rfl rfl (by kernel_rfl) (by kernel_rfl) (by kernel_rfl) (fun _ _ _ h => h) (Or.inl ⟨by rfl, ?_⟩) hSS ?_
              (focus (intro w' hw'; have hb1 := HCELL.out w' hw'; obtain ⟨hb1, hb2, hb3, hb4⟩ := hb1; first | (go_simp; done) | (go_simp; simp [qx0, qx1, qx2]; done)))
              simp only [Act.put, List.setIfInBounds_toArray, List.set_cons_zero, List.set_cons_succ]
              obtain ⟨W, HWE⟩ : ∃ W, W = w9.drew := ⟨_, rfl⟩
              have HWS := HSJ.out.drew
              rw [← HWE] at HWS hSS ⊢
              clear HWE
              have q0 : W.cell? ⟨w.heap.size, 0, none⟩ = some (.int .i64 0) := HWS.cell 3 rfl (List.mem_singleton.2 rfl) 0
              have q1 : W.cell? ⟨w.heap.size, 1, none⟩ = some (.slice none 0 0) := HWS.cell 3 rfl (List.mem_singleton.2 rfl) 1
              have q2 : W.cell? ⟨w.heap.size, 2, none⟩ = some (.int .i64 0) := HWS.cell 3 rfl (List.mem_singleton.2 rfl) 2
              have z0 : W.frozen? ⟨w.heap.size, 0, none⟩ = false := HWS.free 3 rfl (List.mem_singleton.2 rfl) 0
              have z1 : W.frozen? ⟨w.heap.size, 1, none⟩ = false := HWS.free 3 rfl (List.mem_singleton.2 rfl) 1
              have z2 : W.frozen? ⟨w.heap.size, 2, none⟩ = false := HWS.free 3 rfl (List.mem_singleton.2 rfl) 2
              refine wpAnyH_ready (rs := [22]) (by kernel_rfl) (by simp) (AllReadyH.cons rfl (fun K2 hK2 => ?_) AllReadyH.nil)
              rw [if_pos (by rfl)]
              go_simp
              have hT := ((HWS.store 3 rfl 0 (.int .i64 (size : Int))).store 3 rfl 1 (.slice aop ls.length capp)).store 3 rfl 2 (.int .i64 (A : Int))
              have HT := Lib.hid hT
              refine hK2.out _ _ ⟨hT.cell 1 rfl (List.mem_singleton.2 rfl) 0, hT.cell 1 rfl (List.mem_singleton.2 rfl) 1, hT.cell 1 rfl (List.mem_singleton.2 rfl) 2, hT.cell 0 rfl (List.mem_singleton.2 rfl) 1⟩ (fun hSS => ?_)
              clear q0 q1 q2 z0 z1 z2 hT
              refine wpAnyH_ready (rs := [23]) (by kernel_rfl) (by simp) (AllReadyH.cons rfl (fun K3 hK3 => ?_) AllReadyH.nil)
              rw [if_pos (by rfl)]
              go_simp
              refine hK3.out _ _ hSS (fun _ => ?_)
              refine wpAnyH_done (by kernel_rfl) ?_ _
              go_wp2_with fail
              ((try simp only [Exit.inBlock, Exit.then]); refine bodyPost_ret (results_cell_two rfl _ _ _ _ _ 3 rfl HT.out rfl Try.underlying82 rfl h63) rfl ?_)
              exact .inr ⟨_, _, _, _, _, rfl, HT.out.pick [] (by decide) [] rfl, fun ⟨s, l, a, hp⟩ => by have h1 := HN.out s l a hp; obtain ⟨x, k, _, g2, _, _, g5, _⟩ := hp; rw [h1.2.2.1, h1.2.2.2, ← HA.out] at g5; exact HQ.out g5⟩
        | succ m =>
          have hr0 : 0 < rs.length := by omega
          have hr0i : (0 : Int) < (rs.length : Int) := by omega
          have hAb : A ≤ b.length := by
            rcases HBD.out.2 with e | e
            · rw [HA.out, e]; have := HAT.out.1; simp; omega
            · exact e
          have hrln : rs.length ≤ 1000000 := by omega
          have hS2 := HS.out.2.2
          have hpr2 := HS.out.2.1
          have hlsl : ls.length ≤ 1000000 := by omega
          clear k80 k82 f82
          go_wp2_with ((at_builtin; (refine wpList_app1 2 80 i0 (.int .i64 0) _ _ _ rfl rfl rfl rfl Try.underlying80 i0a i0b i0c i0d rfl hS2 rfl hpr2 rfl ?_ ?_ ?_); (unfold maxLen; omega); omega; intro v4 c4 w4 hr4 hS4); (obtain ⟨ao4, cap4, rfl⟩ := hr4.shape); have m81 : w4.cell? ⟨w2.heap.size, 1, none⟩ = some (.slice aop ls.length capp) := hS4.cell 1 rfl (List.mem_singleton.2 rfl) 1; have n81 : w4.frozen? ⟨w2.heap.size, 1, none⟩ = false := hS4.free 1 rfl (List.mem_singleton.2 rfl) 1; have H4 := Lib.hid (And.intro hr4 hS4); clear hS2 hpr2 hr4 hS4 k81 d0 d1)
          have hS5 := H4.out.2.store 1 rfl 1 (.slice ao4 (ls.length + 1) cap4)
          refine (rnum_any w1.heap.size _ bd rs 1099511627776 (by decide) (fun e => (HBD.out.1 e).1) HS.out.1 hS5 hrln).mono ?_
          clear m81 n81 hS5
          rintro e w6 (⟨hnone, rfl, hS6⟩ | ⟨n, k', sv6, hsome, rfl, hrd6, hS6⟩)
          · obtain ⟨d0, d1, g0, g1⟩ := rdr_cells hS6
            have HWS := Lib.hid (HJ.out.join hS6)
            have q0 : w6.cell? ⟨w.heap.size, 0, none⟩ = some (.int .i64 0) := HWS.out.cell 3 rfl (List.mem_singleton.2 rfl) 0
            have q1 : w6.cell? ⟨w.heap.size, 1, none⟩ = some (.slice none 0 0) := HWS.out.cell 3 rfl (List.mem_singleton.2 rfl) 1
            have q2 : w6.cell? ⟨w.heap.size, 2, none⟩ = some (.int .i64 0) := HWS.out.cell 3 rfl (List.mem_singleton.2 rfl) 2
            have z0 : w6.frozen? ⟨w.heap.size, 0, none⟩ = false := HWS.out.free 3 rfl (List.mem_singleton.2 rfl) 0
            have z1 : w6.frozen? ⟨w.heap.size, 1, none⟩ = false := HWS.out.free 3 rfl (List.mem_singleton.2 rfl) 1
            have z2 : w6.frozen? ⟨w.heap.size, 2, none⟩ = false := HWS.out.free 3 rfl (List.mem_singleton.2 rfl) 2
            have HNO := Lib.hid hnone
            clear hnone hS6 g0 g1
            go_wp2_with fail
            have HT := ((HWS.out.store 3 rfl 0 (.int .i64 0)).store 3 rfl 1 (.slice none 0 0)).store 3 rfl 2 (.int .i64 0)
            ((try simp only [Exit.inBlock, Exit.then]); refine bodyPost_ret (results_cell_two rfl _ _ _ _ _ 3 rfl HT rfl Try.underlying82 rfl h63) rfl ?_)
            refine .inr ⟨_, _, _, _, _, rfl, HT.pick [] (by decide) [] rfl, fun ⟨s, l, a, hp⟩ => ?_⟩
            obtain ⟨e1, e2, e3, e4⟩ := HB2.out s l a hp
            obtain ⟨e5, Z, e6, e7⟩ := HC2.out l e4 e1
            cases Z with
            | nil => have e8 : rs = [] := e7; rw [e8] at hr0; simp at hr0
            | cons z Z =>
              obtain ⟨_, k9, e9, _⟩ := e7
              rw [HNO.out] at e9
              cases e9
          · obtain ⟨d0, d1, g0, g1⟩ := rdr_cells hS6
            have hnl := rdN_le hsome
            have hkp := rdN_pos hsome
            have hwA : IntKind.i64.wrap ((A : Int) + (n : Int)) = (A : Int) + (n : Int) := IntWalk.i64_in _ (by omega)
            have HSM := Lib.hid (And.intro hsome (And.intro hrd6 hS6))
            have HWS := Lib.hid (HJ.out.join hS6)
            by_cases qb : b.length < A + n
            · have qbi : (b.length : Int) < (A : Int) + (n : Int) := by omega
              have HQB := Lib.hid qb
              have q0 : w6.cell? ⟨w.heap.size, 0, none⟩ = some (.int .i64 0) := HWS.out.cell 3 rfl (List.mem_singleton.2 rfl) 0
              have q1 : w6.cell? ⟨w.heap.size, 1, none⟩ = some (.slice none 0 0) := HWS.out.cell 3 rfl (List.mem_singleton.2 rfl) 1
              have q2 : w6.cell? ⟨w.heap.size, 2, none⟩ = some (.int .i64 0) := HWS.out.cell 3 rfl (List.mem_singleton.2 rfl) 2
              have z0 : w6.frozen? ⟨w.heap.size, 0, none⟩ = false := HWS.out.free 3 rfl (List.mem_singleton.2 rfl) 0
              have z1 : w6.frozen? ⟨w.heap.size, 1, none⟩ = false := HWS.out.free 3 rfl (List.mem_singleton.2 rfl) 1
              have z2 : w6.frozen? ⟨w.heap.size, 2, none⟩ = false := HWS.out.free 3 rfl (List.mem_singleton.2 rfl) 2
              clear hsome hrd6 hS6 g0 g1 qb
              go_wp2_with fail
              have HT := ((HWS.out.store 3 rfl 0 (.int .i64 0)).store 3 rfl 1 (.slice none 0 0)).store 3 rfl 2 (.int .i64 0)
              ((try simp only [Exit.inBlock, Exit.then]); refine bodyPost_ret (results_cell_two rfl _ _ _ _ _ 3 rfl HT rfl Try.underlying82 rfl h63) rfl ?_)
              refine .inr ⟨_, _, _, _, _, rfl, HT.pick [] (by decide) [] rfl, fun ⟨s, l, a, hp⟩ => ?_⟩
              obtain ⟨e1, e2, e3, e4⟩ := HB2.out s l a hp
              obtain ⟨e5, Z, e6, e7⟩ := HC2.out l e4 e1
              cases Z with
              | nil => have e8 : rs = [] := e7; rw [e8] at hr0; simp at hr0
              | cons z Z =>
                obtain ⟨_, k9, e9, _⟩ := e7
                rw [HSM.out.1] at e9
                injection e9 with e9
                injection e9 with e9 _
                obtain ⟨x, k, _, g2, _, _, g5, _⟩ := hp
                have h1 := HQB.out
                have h2 := HA.out
                have h3 := HAT.out.1
                rw [e6, List.sum_append, List.sum_cons, ← e9] at g5
                omega
            · have qbi : ¬ (b.length : Int) < (A : Int) + (n : Int) := by omega
              have HQB := Lib.hid qb
              clear hsome hrd6 hS6 g0 g1 qb
              go_wp2_with fail
              go_roundg ((rs.drop k').length)
              case measure => rw [List.length_drop]; omega
              case rel =>
                have hsn : at0 + (ls ++ [n]).sum = A + n := by rw [List.sum_append, HA.out]; simp; omega
                refine ⟨rs.drop k', false, sv6, ls ++ [n], _, c4, rfl, ?_, HSM.out.2.1, (fun e => by cases e), ?_, ?_, HSM.out.2.2, .inr ?_, Lib.hid fun _ => ?_, Lib.hid fun Y hY hbf => ?_⟩
                · rw [hsn]; push_cast; rfl
                · rw [List.length_append, List.length_drop, List.length_singleton]; omega
                · have h4 := H4.out.1
                  rw [placesP_snoc, iv_append, List.length_append, List.length_singleton, ← HA.out]
                  exact h4
                · rw [hsn]; have := HQB.out; omega
                · have hbd : bd = false := by
                    cases bd with
                    | false => rfl
                    | true => have := (HBD.out.1 rfl).1; rw [this] at hr0; simp at hr0
                  obtain ⟨e1, e2⟩ := HC1.out hbd
                  refine ⟨e1, fun Y hY => ?_⟩
                  rw [List.append_assoc, List.singleton_append]
                  exact e2 _ ⟨fun e => by rw [e] at hr0; simp at hr0, k', HSM.out.1, hY⟩
                · obtain ⟨e5, Z, e6, e7⟩ := HC2.out Y hY hbf
                  refine ⟨rfl, ?_⟩
                  cases Z with
                  | nil => have e8 : rs = [] := e7; rw [e8] at hr0; simp at hr0
                  | cons z Z =>
                    obtain ⟨_, k9, e9, e10⟩ := e7
                    rw [HSM.out.1] at e9
                    injection e9 with e9
                    injection e9 with e9 e11
                    subst e9 e11
                    exact ⟨Z, by rw [e6, List.append_assoc, List.singleton_append], e10⟩
    case inr =>
      obtain ⟨rest, Hrest⟩ : ∃ rest : List UInt8, Hid (rest = h.drop k) := ⟨_, Lib.hid rfl⟩
      obtain ⟨bad, Hbad⟩ : ∃ bad : Bool, Hid (bad = false) := ⟨_, Lib.hid rfl⟩
      rw [← Hrest.out] at hrd2
      rw [← Hbad.out] at hS2
      obtain ⟨at0, HAE⟩ : ∃ at0, Hid (at0 = 12 + h.length) := ⟨_, Lib.hid rfl⟩
      have HAT : Hid (at0 ≤ b.length ∧ (bad = false → at0 = 12 + h.length)) := Lib.hid ⟨by have := HAE.out; omega, fun _ => HAE.out⟩
      have HAV : Hid (Value.int .i64 (12 + (h.length : Int)) = .int .i64 ((at0 + ([] : List Nat).sum : Nat) : Int)) := Lib.hid (by rw [HAE.out]; simp)
      have hhl : h.length ≤ 1000000 := by omega
      have HB0 : Hid (bad = true → rest = []) := Lib.hid (fun e => by rw [Hbad.out] at e; cases e)
      have HSZ : Hid (size ≤ 1099511627776) := Lib.hid (rdN_le hsome)
      have HB1 : Hid (bad = false → firstP b = some h ∧ ∃ k, rdN h 1099511627776 = some (size, k) ∧ NumsR (h.drop k) = NumsR rest) := Lib.hid (fun _ => ⟨HF.out, k, hsome, by rw [Hrest.out]⟩)
      have HB2 : Hid (∀ s l a, PlanR b s l a → bad = false ∧ s = size ∧ a = at0 ∧ NumsR rest l) := Lib.hid (by
        rintro s l a ⟨h', k', g1, g2, g3, g4, _⟩
        rw [HF.out] at g1
        cases g1
        rw [hsome] at g3
        cases g3
        exact ⟨Hbad.out, rfl, by rw [HAE.out]; exact g2, by rw [Hrest.out]; exact g4⟩)
      have hrl : rest.length ≤ h.length := by rw [Hrest.out, List.length_drop]; omega
      clear hsome
      obtain ⟨d0, d1, _, _⟩ := rdr_cells hS2
      obtain ⟨ao2, cap2, rfl⟩ := hrd2.shape
      have HR2 := Lib.hid hrd2
      have hS3 := hS2.alloc (.cells #[.int .i64 (size : Int), .slice none 0 0, .int .i64 0] 82 (0, 0))
      go_wp2_with fail
      obtain ⟨w3, HW3⟩ : ∃ w3, Hid (w3 = w2.alloc (.cells #[.int .i64 (size : Int), .slice none 0 0, .int .i64 0] 82 (0, 0))) := ⟨_, Lib.hid rfl⟩
      rw [← HW3.out] at hS3 ⊢
      have HS3 : Hid (St w1.heap.size w1 w3 [[(w2.heap.size, .cells #[.int .i64 (size : Int), .slice none 0 0, .int .i64 0] 82 (0, 0))], rdrC w1.heap.size (.slice ao2 rest.length cap2) bad]) := Lib.hid (by
        have := hS3
        exact this)
      clear hS2 hrd2 hS3 HW3 d0 d1
      go_loopg [5] rest.length (fun gf s5 wr => ∃ (rs : List UInt8) (bd : Bool) (sv : Value) (ls : List Nat) (pv : Value) (pc : List (Nat × Obj)), rs.length = gf ∧ s5 = .int .i64 ((at0 + ls.sum : Nat) : Int) ∧ Rd w1 1 sv rs.length (bv rs) ∧ (bd = true → rs = [] ∧ ls = []) ∧ ls.length + rs.length ≤ h.length ∧
        RowC 3 1 pv ls.length (iv (placesP at0 ls)) pc ∧ St w1.heap.size w1 wr [rdrC w1.heap.size sv bd, [(w2.heap.size, .cells #[.int .i64 (size : Int), pv, .int .i64 0] 82 (0, 0))], pc] ∧
        (ls = [] ∨ at0 + ls.sum ≤ b.length) ∧ Hid (bd = false → bad = false ∧ ∀ Y, NumsR rs Y → NumsR rest (ls ++ Y)) ∧ Hid (∀ Y, NumsR rest Y → bad = false → bd = false ∧ ∃ Z, Y = ls ++ Z ∧ NumsR rs Z))
      case atStart =>
        refine ⟨rest, bad, _, [], .slice none 0 0, [], rfl, HAV.out, HR2.out, fun e => ⟨HB0.out e, rfl⟩, ?_, RowC.nil _ _, ?_, .inl rfl, ?_, ?_⟩
        · simpa using hrl
        · exact (HS3.out.one_nil).pick [2, 1, 0] (by decide) _ rfl
        · exact Lib.hid fun e => ⟨e, fun Y h => h⟩
        · exact Lib.hid fun Y h e => ⟨e, Y, rfl, h⟩
      case round =>
        obtain ⟨rs, bd, sv, ls, pv, pc, hgf, rfl, hrd, hbd, hll, hpr, hS, hle, HC1, HC2⟩ := hrel
        obtain ⟨A, HA⟩ : ∃ A, Hid (A = at0 + ls.sum) := ⟨_, Lib.hid rfl⟩
        rw [← HA.out] at hle ⊢
        obtain ⟨aos, caps, rfl⟩ := hrd.shape
        obtain ⟨aop, capp, rfl⟩ := hpr.shape
        obtain ⟨d0, d1, g0, g1⟩ := rdr_cells hS
        have k80 : wr.cell? ⟨w2.heap.size, 0, none⟩ = some (.int .i64 (size : Int)) := hS.cell 1 rfl (List.mem_singleton.2 rfl) 0
        have k81 : wr.cell? ⟨w2.heap.size, 1, none⟩ = some (.slice aop ls.length capp) := hS.cell 1 rfl (List.mem_singleton.2 rfl) 1
        have k82 : wr.cell? ⟨w2.heap.size, 2, none⟩ = some (.int .i64 0) := hS.cell 1 rfl (List.mem_singleton.2 rfl) 2
        have f82 : wr.frozen? ⟨w2.heap.size, 2, none⟩ = false := hS.free 1 rfl (List.mem_singleton.2 rfl) 2
        have HS := Lib.hid (And.intro hrd (And.intro hpr hS))
        have HBD := Lib.hid (And.intro hbd hle)
        clear hrd hpr hS g0 g1 hbd hle
        cases gk with
        | zero =>
          have hr0 : rs = [] := List.eq_nil_of_length_eq_zero hgf
          subst hr0
          clear hgf
          have HN : Hid (∀ s l a, PlanR b s l a → bd = false ∧ s = size ∧ l = ls ∧ a = at0) := Lib.hid (by
            intro s l a hp
            obtain ⟨e1, e2, e3, e4⟩ := HB2.out s l a hp
            obtain ⟨e5, Z, e6, e7⟩ := HC2.out l e4 e1
            have e8 : Z = [] := by
              cases Z with
              | nil => rfl
              | cons z Z => exact absurd rfl e7.1
            rw [e8, List.append_nil] at e6
            exact ⟨e5, e2, e6, e3⟩)
          have HP : Hid (bd = false → A = b.length → ls.length = (size + 999) / 1000 → PlanR b size ls at0) := Lib.hid (by
            intro e1 e2 e3
            obtain ⟨e4, e5⟩ := HC1.out e1
            obtain ⟨eF, k, e6, e7⟩ := HB1.out e4
            have e8 := e5 [] rfl
            rw [List.append_nil] at e8
            exact ⟨h, k, eF, HAT.out.2 e4, e6, by rw [e7]; exact e8, by rw [← HA.out, e2], e3⟩)
          go_wp2_with fail
          have hS9 := HS.out.2.2.store 1 rfl 2 (.int .i64 (A : Int))
          obtain ⟨w9, HW9⟩ : ∃ w9, Hid (w9 = wr.setCell ⟨w2.heap.size, 2, none⟩ (.int .i64 (A : Int))) := ⟨_, Lib.hid rfl⟩
          rw [← HW9.out] at hS9 ⊢
          replace hS9 : St w1.heap.size w1 w9 [rdrC w1.heap.size (.slice aos 0 caps) bd, [(w2.heap.size, .cells #[.int .i64 (size : Int), .slice aop ls.length capp, .int .i64 (A : Int)] 82 (0, 0))], pc] := hS9
          have HSJ := Lib.hid (HJ.out.join hS9)
          have s0 : w9.cell? ⟨w2.heap.size, 0, none⟩ = some (.int .i64 (size : Int)) := hS9.cell 1 rfl (List.mem_singleton.2 rfl) 0
          have s1 : w9.cell? ⟨w2.heap.size, 1, none⟩ = some (.slice aop ls.length capp) := hS9.cell 1 rfl (List.mem_singleton.2 rfl) 1
          have s2 : w9.cell? ⟨w2.heap.size, 2, none⟩ = some (.int .i64 (A : Int)) := hS9.cell 1 rfl (List.mem_singleton.2 rfl) 2
          have s3 : w9.cell? ⟨w1.heap.size, 1, none⟩ = some (.bool bd) := hS9.cell 0 rfl (List.mem_singleton.2 rfl) 1
          have HCELL : Hid (∀ w' : World, ReadS w1.heap.size w2.heap.size size A (.slice aop ls.length capp) bd w' → w'.cell? ⟨w2.heap.size, 0, none⟩ = some (.int .i64 (size : Int)) ∧ w'.cell? ⟨w2.heap.size, 1, none⟩ = some (.slice aop ls.length capp) ∧ w'.cell? ⟨w2.heap.size, 2, none⟩ = some (.int .i64 (A : Int)) ∧ w'.cell? ⟨w1.heap.size, 1, none⟩ = some (.bool bd)) := Lib.hid (fun _ h => h)
          have HS0123 : Hid (ReadS w1.heap.size w2.heap.size size A (.slice aop ls.length capp) bd w9.drew) := Lib.hid ⟨s0, s1, s2, s3⟩
          clear s0 s1 s2 s3 hS9 k80 k81 k82 f82 d0 d1
          refine wp_region_held_drew (S := ReadS w1.heap.size w2.heap.size size A (.slice aop ls.length capp) bd) mixed HS0123.out (fun hSS => ?_)
          cases bd with
          | true =>
            refine take_d (i := 0) 50 (.agg #[.int .i64 (size : Int), .slice aop ls.length capp, .int .i64 (A : Int)]) rfl rfl (by kernel_rfl) (by kernel_rfl) (by kernel_rfl) (fun _ _ _ h => h) (Or.inl ⟨by rfl, ?_⟩) hSS ?_
            (focus (intro w' hw'; have hb1 := HCELL.out w' hw'; obtain ⟨hb1, hb2, hb3, hb4⟩ := hb1; first | (go_simp; done) | (go_simp; simp [qx0, qx1, qx2]; done)))
            simp only [Act.put, List.setIfInBounds_toArray, List.set_cons_zero, List.set_cons_succ]
            refine take_d (i := 1) 51 (.pointer (some ⟨w1.heap.size, 0, none⟩)) rfl rfl (by kernel_rfl) (by kernel_rfl) (by kernel_rfl) (fun _ _ _ h => h) (Or.inl ⟨by rfl, ?_⟩) hSS ?_
            (focus (intro w' hw'; have hb1 := HCELL.out w' hw'; obtain ⟨hb1, hb2, hb3, hb4⟩ := hb1; first | (go_simp; done) | (go_simp; simp [qx0, qx1, qx2]; done)))
            simp only [Act.put, List.setIfInBounds_toArray, List.set_cons_zero, List.set_cons_succ]
            refine take_d (i := 2) 52 (.pointer (some ⟨w1.heap.size, 0, none⟩)) rfl rfl (by kernel_rfl) (by kernel_rfl) (by kernel_rfl) (fun _ _ _ h => h) (Or.inl ⟨by rfl, ?_⟩) hSS ?_
            (focus (intro w' hw'; have hb1 := HCELL.out w' hw'; obtain ⟨hb1, hb2, hb3, hb4⟩ := hb1; first | (go_simp; done) | (go_simp; simp [qx0, qx1, qx2]; done)))
            simp only [Act.put, List.setIfInBounds_toArray, List.set_cons_zero, List.set_cons_succ]
            refine take_d (i := 3) 53 (.pointer (some ⟨w1.heap.size, 1, none⟩)) rfl rfl (by kernel_rfl) (by kernel_rfl) (by kernel_rfl) (fun _ _ _ h => h) (Or.inl ⟨by rfl, ?_⟩) hSS ?_
            (focus (intro w' hw'; have hb1 := HCELL.out w' hw'; obtain ⟨hb1, hb2, hb3, hb4⟩ := hb1; first | (go_simp; done) | (go_simp; simp [qx0, qx1, qx2]; done)))
            simp only [Act.put, List.setIfInBounds_toArray, List.set_cons_zero, List.set_cons_succ]
            refine take_d (i := 4) 54 (.bool true) rfl rfl (by kernel_rfl) (by kernel_rfl) (by kernel_rfl) (fun _ _ _ h => h) (Or.inl ⟨by rfl, ?_⟩) hSS ?_
            (focus (intro w' hw'; have hb1 := HCELL.out w' hw'; obtain ⟨hb1, hb2, hb3, hb4⟩ := hb1; first | (go_simp; done) | (go_simp; simp [qx0, qx1, qx2]; done)))
            simp only [Act.put, List.setIfInBounds_toArray, List.set_cons_zero, List.set_cons_succ]
            refine take_d (i := 5) 55 (.bool false) rfl rfl (by kernel_rfl) (by kernel_rfl) (by kernel_rfl) (fun _ _ _ h => h) (Or.inl ⟨by rfl, ?_⟩) hSS ?_
            (focus (intro w' hw'; have hb1 := HCELL.out w' hw'; obtain ⟨hb1, hb2, hb3, hb4⟩ := hb1; first | (go_simp; done) | (go_simp; simp [qx0, qx1, qx2]; done)))
            simp only [Act.put, List.setIfInBounds_toArray, List.set_cons_zero, List.set_cons_succ]
            refine take_d (i := 6) 56 (.bool false) rfl rfl (by kernel_rfl) (by kernel_rfl) (by kernel_rfl) (fun _ _ _ h => h) (Or.inl ⟨by rfl, ?_⟩) hSS ?_
            (focus (intro w' hw'; have hb1 := HCELL.out w' hw'; obtain ⟨hb1, hb2, hb3, hb4⟩ := hb1; first | (go_simp; done) | (go_simp; simp [qx0, qx1, qx2]; done)))
            simp only [Act.put, List.setIfInBounds_toArray, List.set_cons_zero, List.set_cons_succ]
            refine take_d (i := 7) 57 (undef) rfl rfl (by kernel_rfl) (by kernel_rfl) (by kernel_rfl) (fun _ _ _ h => h) (Or.inr ⟨by rfl, rfl⟩) hSS ?_
            simp only [Act.put, List.setIfInBounds_toArray, List.set_cons_zero, List.set_cons_succ]
            refine take_d (i := 8) 58 (undef) rfl rfl (by kernel_rfl) (by kernel_rfl) (by kernel_rfl) (fun _ _ _ h => h) (Or.inr ⟨by rfl, rfl⟩) hSS ?_
            simp only [Act.put, List.setIfInBounds_toArray, List.set_cons_zero, List.set_cons_succ]
            refine take_d (i := 9) 59 (undef) rfl rfl (by kernel_rfl) (by kernel_rfl) (by kernel_rfl) (fun _ _ _ h => h) (Or.inr ⟨by rfl, rfl⟩) hSS ?_
            simp only [Act.put, List.setIfInBounds_toArray, List.set_cons_zero, List.set_cons_succ]
            refine take_d (i := 10) 60 (undef) rfl rfl (by kernel_rfl) (by kernel_rfl) (by kernel_rfl) (fun _ _ _ h => h) (Or.inr ⟨by rfl, rfl⟩) hSS ?_
            simp only [Act.put, List.setIfInBounds_toArray, List.set_cons_zero, List.set_cons_succ]
            refine take_d (i := 11) 61 (.bool false) rfl rfl (by kernel_rfl) (by kernel_rfl) (by kernel_rfl) (fun _ _ _ h => h) (Or.inl ⟨by rfl, ?_⟩) hSS ?_
            (focus (intro w' hw'; have hb1 := HCELL.out w' hw'; obtain ⟨hb1, hb2, hb3, hb4⟩ := hb1; first | (go_simp; done) | (go_simp; simp [qx0, qx1, qx2]; done)))
            simp only [Act.put, List.setIfInBounds_toArray, List.set_cons_zero, List.set_cons_succ]
            refine take_d (i := 12) 62 (.bool false) rfl rfl (by kernel_rfl) (by kernel_rfl) (by kernel_rfl) (fun _ _ _ h => h) (Or.inl ⟨by rfl, ?_⟩) hSS ?_
            (focus (intro w' hw'; have hb1 := HCELL.out w' hw'; obtain ⟨hb1, hb2, hb3, hb4⟩ := hb1; first | (go_simp; done) | (go_simp; simp [qx0, qx1, qx2]; done)))
            simp only [Act.put, List.setIfInBounds_toArray, List.set_cons_zero, List.set_cons_succ]
            refine take_d (i := 13) 63 (undef) rfl rfl (by kernel_rfl) (by kernel_rfl) (by kernel_rfl) (fun _ _ _ h => h) (Or.inr ⟨by rfl, rfl⟩) hSS ?_
            simp only [Act.put, List.setIfInBounds_toArray, List.set_cons_zero, List.set_cons_succ]
            refine take_d (i := 14) 64 (undef) rfl rfl (by kernel_rfl) (by kernel_rfl) (by kernel_rfl) (fun _ _ _ h => h) (Or.inr ⟨by rfl, rfl⟩) hSS ?_
            simp only [Act.put, List.setIfInBounds_toArray, List.set_cons_zero, List.set_cons_succ]
            refine take_d (i := 15) 65 (undef) rfl rfl (by kernel_rfl) (by kernel_rfl) (by kernel_rfl) (fun _ _ _ h => h) (Or.inr ⟨by rfl, rfl⟩) hSS ?_
            simp only [Act.put, List.setIfInBounds_toArray, List.set_cons_zero, List.set_cons_succ]
            refine take_d (i := 16) 66 (undef) rfl rfl (by kernel_rfl) (by kernel_rfl) (by kernel_rfl) (fun _ _ _ h => h) (Or.inr ⟨by rfl, rfl⟩) hSS ?_
            simp only [Act.put, List.setIfInBounds_toArray, List.set_cons_zero, List.set_cons_succ]
            refine take_d (i := 17) 67 (undef) rfl rfl (by kernel_rfl) (by kernel_rfl) (by kernel_rfl) (fun _ _ _ h => h) (Or.inr ⟨by rfl, rfl⟩) hSS ?_
            simp only [Act.put, List.setIfInBounds_toArray, List.set_cons_zero, List.set_cons_succ]
            refine take_d (i := 18) 68 (undef) rfl rfl (by kernel_rfl) (by kernel_rfl) (by kernel_rfl) (fun _ _ _ h => h) (Or.inr ⟨by rfl, rfl⟩) hSS ?_
            simp only [Act.put, List.setIfInBounds_toArray, List.set_cons_zero, List.set_cons_succ]
            refine take_d (i := 19) 69 (undef) rfl rfl (by kernel_rfl) (by kernel_rfl) (by kernel_rfl) (fun _ _ _ h => h) (Or.inr ⟨by rfl, rfl⟩) hSS ?_
            simp only [Act.put, List.setIfInBounds_toArray, List.set_cons_zero, List.set_cons_succ]
            refine take_d (i := 20) 70 (undef) rfl rfl (by kernel_rfl) (by kernel_rfl) (by kernel_rfl) (fun _ _ _ h => h) (Or.inr ⟨by rfl, rfl⟩) hSS ?_
            simp only [Act.put, List.setIfInBounds_toArray, List.set_cons_zero, List.set_cons_succ]
            refine take_d (i := 21) 71 (.bool false) rfl rfl (by kernel_rfl) (by kernel_rfl) (by kernel_rfl) (fun _ _ _ h => h) (Or.inl ⟨by rfl, ?_⟩) hSS ?_
            (focus (intro w' hw'; have hb1 := HCELL.out w' hw'; obtain ⟨hb1, hb2, hb3, hb4⟩ := hb1; first | (go_simp; done) | (go_simp; simp [qx0, qx1, qx2]; done)))
            simp only [Act.put, List.setIfInBounds_toArray, List.set_cons_zero, List.set_cons_succ]
            obtain ⟨W, HWE⟩ : ∃ W, W = w9.drew := ⟨_, rfl⟩
            have HWS := HSJ.out.drew
            rw [← HWE] at HWS hSS ⊢
            clear HWE
            have q0 : W.cell? ⟨w.heap.size, 0, none⟩ = some (.int .i64 0) := HWS.cell 3 rfl (List.mem_singleton.2 rfl) 0
            have q1 : W.cell? ⟨w.heap.size, 1, none⟩ = some (.slice none 0 0) := HWS.cell 3 rfl (List.mem_singleton.2 rfl) 1
            have q2 : W.cell? ⟨w.heap.size, 2, none⟩ = some (.int .i64 0) := HWS.cell 3 rfl (List.mem_singleton.2 rfl) 2
            have z0 : W.frozen? ⟨w.heap.size, 0, none⟩ = false := HWS.free 3 rfl (List.mem_singleton.2 rfl) 0
            have z1 : W.frozen? ⟨w.heap.size, 1, none⟩ = false := HWS.free 3 rfl (List.mem_singleton.2 rfl) 1
            have z2 : W.frozen? ⟨w.heap.size, 2, none⟩ = false := HWS.free 3 rfl (List.mem_singleton.2 rfl) 2
            refine wpAnyH_ready (rs := [22]) (by kernel_rfl) (by simp) (AllReadyH.cons rfl (fun K2 hK2 => ?_) AllReadyH.nil)
            rw [if_pos (by rfl)]
            go_simp
            have hT := ((HWS.store 3 rfl 0 (.int .i64 (size : Int))).store 3 rfl 1 (.slice aop ls.length capp)).store 3 rfl 2 (.int .i64 (A : Int))
            have HT := Lib.hid hT
            refine hK2.out _ _ ⟨hT.cell 1 rfl (List.mem_singleton.2 rfl) 0, hT.cell 1 rfl (List.mem_singleton.2 rfl) 1, hT.cell 1 rfl (List.mem_singleton.2 rfl) 2, hT.cell 0 rfl (List.mem_singleton.2 rfl) 1⟩ (fun hSS => ?_)
            clear q0 q1 q2 z0 z1 z2 hT
            refine wpAnyH_ready (rs := [23]) (by kernel_rfl) (by simp) (AllReadyH.cons rfl (fun K3 hK3 => ?_) AllReadyH.nil)
            rw [if_pos (by rfl)]
            go_simp
            refine hK3.out _ _ hSS (fun _ => ?_)
            refine wpAnyH_done (by kernel_rfl) ?_ _
            go_wp2_with fail
            ((try simp only [Exit.inBlock, Exit.then]); refine bodyPost_ret (results_cell_two rfl _ _ _ _ _ 3 rfl HT.out rfl Try.underlying82 rfl h63) rfl ?_)
            exact .inr ⟨_, _, _, _, _, rfl, HT.out.pick [] (by decide) [] rfl, fun ⟨s, l, a, hp⟩ => by have h1 := (HN.out s l a hp).1; cases h1⟩
          | false =>
            have hsz2 : (size : Int) ≤ 1099511627776 := by have := HSZ.out; omega
            have qd : (((size : Int) + 1000 - 1).tdiv 1000) = (((size + 999) / 1000 : Nat) : Int) := by
              rw [show (size : Int) + 1000 - 1 = ((size + 999 : Nat) : Int) from by omega]
              exact (Int.ofNat_tdiv (size + 999) 1000).symm
            have qd2 : (((size : Int) + 999).tdiv 1000) = (((size + 999) / 1000 : Nat) : Int) := by
              rw [show (size : Int) + 999 = ((size + 999 : Nat) : Int) from by omega]
              exact (Int.ofNat_tdiv (size + 999) 1000).symm
            have qw3 : IntKind.i64.wrap (((size : Int) + 999) / 1000) = ((size : Int) + 999) / 1000 := IntWalk.i64_in _ (by omega)
            have qx1 := qd
            have qx0 := qd2
            have qw1 : IntKind.i64.wrap ((size : Int) + 1000) = (size : Int) + 1000 := IntWalk.i64_in _ (by omega)
            have qw2 : IntKind.i64.wrap ((size : Int) + 1000 - 1) = (size : Int) + 1000 - 1 := IntWalk.i64_in _ (by omega)
            by_cases qa : A = b.length
            · have HQ := Lib.hid qa
              have qx2 : ((A : Int) == (b.length : Int)) = true := by rw [beq_iff_eq]; omega
              clear qa
              refine take_d (i := 0) 50 (.agg #[.int .i64 (size : Int), .slice aop ls.length capp, .int .i64 (A : Int)]) rfl rfl (by kernel_rfl) (by kernel_rfl) (by kernel_rfl) (fun _ _ _ h => h) (Or.inl ⟨by rfl, ?_⟩) hSS ?_
              (focus (intro w' hw'; have hb1 := HCELL.out w' hw'; obtain ⟨hb1, hb2, hb3, hb4⟩ := hb1; first | (go_simp; done) | (go_simp; simp [qx0, qx1, qx2]; done)))
              simp only [Act.put, List.setIfInBounds_toArray, List.set_cons_zero, List.set_cons_succ]
              refine take_d (i := 1) 51 (.pointer (some ⟨w1.heap.size, 0, none⟩)) rfl rfl (by kernel_rfl) (by kernel_rfl) (by kernel_rfl) (fun _ _ _ h => h) (Or.inl ⟨by rfl, ?_⟩) hSS ?_
              (focus (intro w' hw'; have hb1 := HCELL.out w' hw'; obtain ⟨hb1, hb2, hb3, hb4⟩ := hb1; first | (go_simp; done) | (go_simp; simp [qx0, qx1, qx2]; done)))
              simp only [Act.put, List.setIfInBounds_toArray, List.set_cons_zero, List.set_cons_succ]
              refine take_d (i := 2) 52 (.pointer (some ⟨w1.heap.size, 0, none⟩)) rfl rfl (by kernel_rfl) (by kernel_rfl) (by kernel_rfl) (fun _ _ _ h => h) (Or.inl ⟨by rfl, ?_⟩) hSS ?_
              (focus (intro w' hw'; have hb1 := HCELL.out w' hw'; obtain ⟨hb1, hb2, hb3, hb4⟩ := hb1; first | (go_simp; done) | (go_simp; simp [qx0, qx1, qx2]; done)))
              simp only [Act.put, List.setIfInBounds_toArray, List.set_cons_zero, List.set_cons_succ]
              refine take_d (i := 3) 53 (.pointer (some ⟨w1.heap.size, 1, none⟩)) rfl rfl (by kernel_rfl) (by kernel_rfl) (by kernel_rfl) (fun _ _ _ h => h) (Or.inl ⟨by rfl, ?_⟩) hSS ?_
              (focus (intro w' hw'; have hb1 := HCELL.out w' hw'; obtain ⟨hb1, hb2, hb3, hb4⟩ := hb1; first | (go_simp; done) | (go_simp; simp [qx0, qx1, qx2]; done)))
              simp only [Act.put, List.setIfInBounds_toArray, List.set_cons_zero, List.set_cons_succ]
              refine take_d (i := 4) 54 (.bool false) rfl rfl (by kernel_rfl) (by kernel_rfl) (by kernel_rfl) (fun _ _ _ h => h) (Or.inl ⟨by rfl, ?_⟩) hSS ?_
              (focus (intro w' hw'; have hb1 := HCELL.out w' hw'; obtain ⟨hb1, hb2, hb3, hb4⟩ := hb1; first | (go_simp; done) | (go_simp; simp [qx0, qx1, qx2]; done)))
              simp only [Act.put, List.setIfInBounds_toArray, List.set_cons_zero, List.set_cons_succ]
              refine take_d (i := 5) 55 (.bool true) rfl rfl (by kernel_rfl) (by kernel_rfl) (by kernel_rfl) (fun _ _ _ h => h) (Or.inl ⟨by rfl, ?_⟩) hSS ?_
              (focus (intro w' hw'; have hb1 := HCELL.out w' hw'; obtain ⟨hb1, hb2, hb3, hb4⟩ := hb1; first | (go_simp; done) | (go_simp; simp [qx0, qx1, qx2]; done)))
              simp only [Act.put, List.setIfInBounds_toArray, List.set_cons_zero, List.set_cons_succ]
              refine take_d (i := 6) 56 (.bool true) rfl rfl (by kernel_rfl) (by kernel_rfl) (by kernel_rfl) (fun _ _ _ h => h) (Or.inl ⟨by rfl, ?_⟩) hSS ?_
              (focus (intro w' hw'; have hb1 := HCELL.out w' hw'; obtain ⟨hb1, hb2, hb3, hb4⟩ := hb1; first | (go_simp; done) | (go_simp; simp [qx0, qx1, qx2]; done)))
              simp only [Act.put, List.setIfInBounds_toArray, List.set_cons_zero, List.set_cons_succ]
              refine take_d (i := 7) 57 (.int .i64 (A : Int)) rfl rfl (by kernel_rfl) (by kernel_rfl) (by kernel_rfl) (fun _ _ _ h => h) (Or.inl ⟨by rfl, ?_⟩) hSS ?_
              (focus (intro w' hw'; have hb1 := HCELL.out w' hw'; obtain ⟨hb1, hb2, hb3, hb4⟩ := hb1; first | (go_simp; done) | (go_simp; simp [qx0, qx1, qx2]; done)))
              simp only [Act.put, List.setIfInBounds_toArray, List.set_cons_zero, List.set_cons_succ]
              refine take_d (i := 8) 58 (.slice ao b.length cap) rfl rfl (by kernel_rfl) (by kernel_rfl) (by kernel_rfl) (fun _ _ _ h => h) (Or.inl ⟨by rfl, ?_⟩) hSS ?_
              (focus (intro w' hw'; have hb1 := HCELL.out w' hw'; obtain ⟨hb1, hb2, hb3, hb4⟩ := hb1; first | (go_simp; done) | (go_simp; simp [qx0, qx1, qx2]; done)))
              simp only [Act.put, List.setIfInBounds_toArray, List.set_cons_zero, List.set_cons_succ]
              refine take_d (i := 9) 59 (.int .i64 (b.length : Int)) rfl rfl (by kernel_rfl) (by kernel_rfl) (by kernel_rfl) (fun _ _ _ h => h) (Or.inl ⟨by rfl, ?_⟩) hSS ?_
              (focus (intro w' hw'; have hb1 := HCELL.out w' hw'; obtain ⟨hb1, hb2, hb3, hb4⟩ := hb1; first | (go_simp; done) | (go_simp; simp [qx0, qx1, qx2]; done)))
              simp only [Act.put, List.setIfInBounds_toArray, List.set_cons_zero, List.set_cons_succ]
              refine take_d (i := 10) 60 (.bool true) rfl rfl (by kernel_rfl) (by kernel_rfl) (by kernel_rfl) (fun _ _ _ h => h) (Or.inl ⟨by rfl, ?_⟩) hSS ?_
              (focus (intro w' hw'; have hb1 := HCELL.out w' hw'; obtain ⟨hb1, hb2, hb3, hb4⟩ := hb1; first | (go_simp; done) | (go_simp; simp [qx0, qx1, qx2]; done)))
              simp only [Act.put, List.setIfInBounds_toArray, List.set_cons_zero, List.set_cons_succ]
              refine take_d (i := 11) 61 (.bool true) rfl rfl (by kernel_rfl) (by kernel_rfl) (by kernel_rfl) (fun _ _ _ h => h) (Or.inl ⟨by rfl, ?_⟩) hSS ?_
              (focus (intro w' hw'; have hb1 := HCELL.out w' hw'; obtain ⟨hb1, hb2, hb3, hb4⟩ := hb1; first | (go_simp; done) | (go_simp; simp [qx0, qx1, qx2]; done)))
              simp only [Act.put, List.setIfInBounds_toArray, List.set_cons_zero, List.set_cons_succ]
              refine take_d (i := 12) 62 (.bool true) rfl rfl (by kernel_rfl) (by kernel_rfl) (by kernel_rfl) (fun _ _ _ h => h) (Or.inl ⟨by rfl, ?_⟩) hSS ?_
              (focus (intro w' hw'; have hb1 := HCELL.out w' hw'; obtain ⟨hb1, hb2, hb3, hb4⟩ := hb1; first | (go_simp; done) | (go_simp; simp [qx0, qx1, qx2]; done)))
              simp only [Act.put, List.setIfInBounds_toArray, List.set_cons_zero, List.set_cons_succ]
              refine take_d (i := 13) 63 (.agg #[.int .i64 (size : Int), .slice aop ls.length capp, .int .i64 (A : Int)]) rfl rfl (by kernel_rfl) (by kernel_rfl) (by kernel_rfl) (fun _ _ _ h => h) (Or.inl ⟨by rfl, ?_⟩) hSS ?_
              (focus (intro w' hw'; have hb1 := HCELL.out w' hw'; obtain ⟨hb1, hb2, hb3, hb4⟩ := hb1; first | (go_simp; done) | (go_simp; simp [qx0, qx1, qx2]; done)))
              simp only [Act.put, List.setIfInBounds_toArray, List.set_cons_zero, List.set_cons_succ]
              refine take_d (i := 15) 65 (.pointer (some ⟨w2.heap.size, 0, none⟩)) rfl rfl (by kernel_rfl) (by kernel_rfl) (by kernel_rfl) (fun _ _ _ h => h) (Or.inl ⟨by rfl, ?_⟩) hSS ?_
              (focus (intro w' hw'; have hb1 := HCELL.out w' hw'; obtain ⟨hb1, hb2, hb3, hb4⟩ := hb1; first | (go_simp; done) | (go_simp; simp [qx0, qx1, qx2]; done)))
              simp only [Act.put, List.setIfInBounds_toArray, List.set_cons_zero, List.set_cons_succ]
              refine take_d (i := 16) 66 (.int .i64 (size : Int)) rfl rfl (by kernel_rfl) (by kernel_rfl) (by kernel_rfl) (fun _ _ _ h => h) (Or.inl ⟨by rfl, ?_⟩) hSS ?_
              (focus (intro w' hw'; have hb1 := HCELL.out w' hw'; obtain ⟨hb1, hb2, hb3, hb4⟩ := hb1; first | (go_simp; done) | (go_simp; simp [qx0, qx1, qx2]; done)))
              simp only [Act.put, List.setIfInBounds_toArray, List.set_cons_zero, List.set_cons_succ]
              refine take_d (i := 17) 67 (.int .i64 ((size : Int) + 1000)) rfl rfl (by kernel_rfl) (by kernel_rfl) (by kernel_rfl) (fun _ _ _ h => h) (Or.inl ⟨by rfl, ?_⟩) hSS ?_
              (focus (intro w' hw'; have hb1 := HCELL.out w' hw'; obtain ⟨hb1, hb2, hb3, hb4⟩ := hb1; first | (go_simp; done) | (go_simp; simp [qx0, qx1, qx2]; done)))
              simp only [Act.put, List.setIfInBounds_toArray, List.set_cons_zero, List.set_cons_succ]
              refine take_d (i := 18) 68 (.int .i64 ((size : Int) + 1000 - 1)) rfl rfl (by kernel_rfl) (by kernel_rfl) (by kernel_rfl) (fun _ _ _ h => h) (Or.inl ⟨by rfl, ?_⟩) hSS ?_
              (focus (intro w' hw'; have hb1 := HCELL.out w' hw'; obtain ⟨hb1, hb2, hb3, hb4⟩ := hb1; first | (go_simp; done) | (go_simp; simp [qx0, qx1, qx2]; done)))
              simp only [Act.put, List.setIfInBounds_toArray, List.set_cons_zero, List.set_cons_succ]
              refine take_d (i := 19) 69 (.int .i64 (((size : Int) + 999) / 1000)) rfl rfl (by kernel_rfl) (by kernel_rfl) (by kernel_rfl) (fun _ _ _ h => h) (Or.inl ⟨by rfl, ?_⟩) hSS ?_
              (focus (intro w' hw'; have hb1 := HCELL.out w' hw'; obtain ⟨hb1, hb2, hb3, hb4⟩ := hb1; first | (go_simp; done) | (go_simp; simp [qx0, qx1, qx2]; done)))
              simp only [Act.put, List.setIfInBounds_toArray, List.set_cons_zero, List.set_cons_succ]
              refine wpAnyH_ready (rs := [14]) (by kernel_rfl) (by simp) (AllReadyH.cons rfl (fun K1 hK1 => ?_) AllReadyH.nil)
              rw [if_pos (by rfl)]
              go_simp
              refine (ctnum_any (size : Int) (A : Int) aop ls.length capp _).mono ?_
              rintro e wn ⟨rfl, o, rfl⟩
              have HSA := Lib.hid (HSJ.out.drew.alloc' o)
              refine hK1.out _ _ ⟨HSA.out.cell 1 rfl (List.mem_singleton.2 rfl) 0, HSA.out.cell 1 rfl (List.mem_singleton.2 rfl) 1, HSA.out.cell 1 rfl (List.mem_singleton.2 rfl) 2, HSA.out.cell 0 rfl (List.mem_singleton.2 rfl) 1⟩ (fun hSS => ?_)
              try simp only [Act.put, List.setIfInBounds_toArray, List.set_cons_zero, List.set_cons_succ]
              by_cases qc : ls.length = (size + 999) / 1000
              · have qx0 : ((ls.length : Int) == ((size : Int) + 999) / 1000) = true := by rw [beq_iff_eq]; omega
                have HQC := Lib.hid qc
                clear qc
                refine take_d (i := 20) 70 (.bool true) rfl rfl (by kernel_rfl) (by kernel_rfl) (by kernel_rfl) (fun _ _ _ h => h) (Or.inl ⟨by rfl, ?_⟩) hSS ?_
                (focus (intro w' hw'; have hb1 := HCELL.out w' hw'; obtain ⟨hb1, hb2, hb3, hb4⟩ := hb1; first | (go_simp; done) | (go_simp; simp [qx0, qx1, qx2]; done)))
                simp only [Act.put, List.setIfInBounds_toArray, List.set_cons_zero, List.set_cons_succ]
                refine take_d (i := 21) 71 (.bool true) rfl rfl (by kernel_rfl) (by kernel_rfl) (by kernel_rfl) (fun _ _ _ h => h) (Or.inl ⟨by rfl, ?_⟩) hSS ?_
                (focus (intro w' hw'; have hb1 := HCELL.out w' hw'; obtain ⟨hb1, hb2, hb3, hb4⟩ := hb1; first | (go_simp; done) | (go_simp; simp [qx0, qx1, qx2]; done)))
                simp only [Act.put, List.setIfInBounds_toArray, List.set_cons_zero, List.set_cons_succ]
                obtain ⟨W, HWE⟩ : ∃ W, W = w9.drew.alloc o := ⟨_, rfl⟩
                have HWS := HSA.out
                rw [← HWE] at HWS hSS ⊢
                clear HWE
                have q0 : W.cell? ⟨w.heap.size, 0, none⟩ = some (.int .i64 0) := HWS.cell 3 rfl (List.mem_singleton.2 rfl) 0
                have q1 : W.cell? ⟨w.heap.size, 1, none⟩ = some (.slice none 0 0) := HWS.cell 3 rfl (List.mem_singleton.2 rfl) 1
                have q2 : W.cell? ⟨w.heap.size, 2, none⟩ = some (.int .i64 0) := HWS.cell 3 rfl (List.mem_singleton.2 rfl) 2
                have z0 : W.frozen? ⟨w.heap.size, 0, none⟩ = false := HWS.free 3 rfl (List.mem_singleton.2 rfl) 0
                have z1 : W.frozen? ⟨w.heap.size, 1, none⟩ = false := HWS.free 3 rfl (List.mem_singleton.2 rfl) 1
                have z2 : W.frozen? ⟨w.heap.size, 2, none⟩ = false := HWS.free 3 rfl (List.mem_singleton.2 rfl) 2
                refine wpAnyH_ready (rs := [22]) (by kernel_rfl) (by simp) (AllReadyH.cons rfl (fun K2 hK2 => ?_) AllReadyH.nil)
                rw [if_pos (by rfl)]
                go_simp
                have hT := ((HWS.store 3 rfl 0 (.int .i64 (size : Int))).store 3 rfl 1 (.slice aop ls.length capp)).store 3 rfl 2 (.int .i64 (A : Int))
                have HT := Lib.hid hT
                refine hK2.out _ _ ⟨hT.cell 1 rfl (List.mem_singleton.2 rfl) 0, hT.cell 1 rfl (List.mem_singleton.2 rfl) 1, hT.cell 1 rfl (List.mem_singleton.2 rfl) 2, hT.cell 0 rfl (List.mem_singleton.2 rfl) 1⟩ (fun hSS => ?_)
                clear q0 q1 q2 z0 z1 z2 hT
                refine wpAnyH_ready (rs := [23]) (by kernel_rfl) (by simp) (AllReadyH.cons rfl (fun K3 hK3 => ?_) AllReadyH.nil)
                rw [if_pos (by rfl)]
                go_simp
                refine hK3.out _ _ hSS (fun _ => ?_)
                refine wpAnyH_done (by kernel_rfl) ?_ _
                go_wp2_with fail
                ((try simp only [Exit.inBlock, Exit.then]); refine bodyPost_ret (results_cell_two rfl _ _ _ _ _ 3 rfl HT.out rfl Try.underlying82 rfl h63) rfl ?_)
                exact .inl ⟨size, ls, at0, _, pc, HP.out (by first | trivial | rfl) HQ.out HQC.out, by rw [HQ.out]; rfl, HS.out.2.1, (HT.out.pick [2] (by decide) _ rfl)⟩
              · have qx0 : ((ls.length : Int) == ((size : Int) + 999) / 1000) = false := by rw [beq_eq_false_iff_ne]; omega
                have HQC := Lib.hid qc
                clear qc
                refine take_d (i := 20) 70 (.bool false) rfl rfl (by kernel_rfl) (by kernel_rfl) (by kernel_rfl) (fun _ _ _ h => h) (Or.inl ⟨by rfl, ?_⟩) hSS ?_
                (focus (intro w' hw'; have hb1 := HCELL.out w' hw'; obtain ⟨hb1, hb2, hb3, hb4⟩ := hb1; first | (go_simp; done) | (go_simp; simp [qx0, qx1, qx2]; done)))
                simp only [Act.put, List.setIfInBounds_toArray, List.set_cons_zero, List.set_cons_succ]
                refine take_d (i := 21) 71 (.bool false) rfl rfl (by kernel_rfl) (by kernel_rfl) (by kernel_rfl) (fun _ _ _ h => h) (Or.inl ⟨by rfl, ?_⟩) hSS ?_
                (focus (intro w' hw'; have hb1 := HCELL.out w' hw'; obtain ⟨hb1, hb2, hb3, hb4⟩ := hb1; first | (go_simp; done) | (go_simp; simp [qx0, qx1, qx2]; done)))
                simp only [Act.put, List.setIfInBounds_toArray, List.set_cons_zero, List.set_cons_succ]
                obtain ⟨W, HWE⟩ : ∃ W, W = w9.drew.alloc o := ⟨_, rfl⟩
                have HWS := HSA.out
                rw [← HWE] at HWS hSS ⊢
                clear HWE
                have q0 : W.cell? ⟨w.heap.size, 0, none⟩ = some (.int .i64 0) := HWS.cell 3 rfl (List.mem_singleton.2 rfl) 0
                have q1 : W.cell? ⟨w.heap.size, 1, none⟩ = some (.slice none 0 0) := HWS.cell 3 rfl (List.mem_singleton.2 rfl) 1
                have q2 : W.cell? ⟨w.heap.size, 2, none⟩ = some (.int .i64 0) := HWS.cell 3 rfl (List.mem_singleton.2 rfl) 2
                have z0 : W.frozen? ⟨w.heap.size, 0, none⟩ = false := HWS.free 3 rfl (List.mem_singleton.2 rfl) 0
                have z1 : W.frozen? ⟨w.heap.size, 1, none⟩ = false := HWS.free 3 rfl (List.mem_singleton.2 rfl) 1
                have z2 : W.frozen? ⟨w.heap.size, 2, none⟩ = false := HWS.free 3 rfl (List.mem_singleton.2 rfl) 2
                refine wpAnyH_ready (rs := [22]) (by kernel_rfl) (by simp) (AllReadyH.cons rfl (fun K2 hK2 => ?_) AllReadyH.nil)
                rw [if_pos (by rfl)]
                go_simp
                have hT := ((HWS.store 3 rfl 0 (.int .i64 (size : Int))).store 3 rfl 1 (.slice aop ls.length capp)).store 3 rfl 2 (.int .i64 (A : Int))
                have HT := Lib.hid hT
                refine hK2.out _ _ ⟨hT.cell 1 rfl (List.mem_singleton.2 rfl) 0, hT.cell 1 rfl (List.mem_singleton.2 rfl) 1, hT.cell 1 rfl (List.mem_singleton.2 rfl) 2, hT.cell 0 rfl (List.mem_singleton.2 rfl) 1⟩ (fun hSS => ?_)
                clear q0 q1 q2 z0 z1 z2 hT
                refine wpAnyH_ready (rs := [23]) (by kernel_rfl) (by simp) (AllReadyH.cons rfl (fun K3 hK3 => ?_) AllReadyH.nil)
                rw [if_pos (by rfl)]
                go_simp
                refine hK3.out _ _ hSS (fun _ => ?_)
                refine wpAnyH_done (by kernel_rfl) ?_ _
                go_wp2_with fail
                ((try simp only [Exit.inBlock, Exit.then]); refine bodyPost_ret (results_cell_two rfl _ _ _ _ _ 3 rfl HT.out rfl Try.underlying82 rfl h63) rfl ?_)
                exact .inr ⟨_, _, _, _, _, rfl, HT.out.pick [] (by decide) [] rfl, fun ⟨s, l, a, hp⟩ => by have h1 := HN.out s l a hp; obtain ⟨x, k, _, g2, _, _, g5, g6⟩ := hp; rw [h1.2.2.1, h1.2.1] at g6; exact HQC.out g6⟩
            · have HQ := Lib.hid qa
              have qx2 : ((A : Int) == (b.length : Int)) = false := by rw [beq_eq_false_iff_ne]; omega
              clear qa
              refine take_d (i := 0) 50 (.agg #[.int .i64 (size : Int), .slice aop ls.length capp, .int .i64 (A : Int)]) rfl rfl (by kernel_rfl) (by kernel_rfl) (by kernel_rfl) (fun _ _ _ h => h) (Or.inl ⟨by rfl, ?_⟩) hSS ?_
              (focus (intro w' hw'; have hb1 := HCELL.out w' hw'; obtain ⟨hb1, hb2, hb3, hb4⟩ := hb1; first | (go_simp; done) | (go_simp; simp [qx0, qx1, qx2]; done)))
              simp only [Act.put, List.setIfInBounds_toArray, List.set_cons_zero, List.set_cons_succ]
              refine take_d (i := 1) 51 (.pointer (some ⟨w1.heap.size, 0, none⟩)) rfl rfl (by kernel_rfl) (by kernel_rfl) (by kernel_rfl) (fun _ _ _ h => h) (Or.inl ⟨by rfl, ?_⟩) hSS ?_
              (focus (intro w' hw'; have hb1 := HCELL.out w' hw'; obtain ⟨hb1, hb2, hb3, hb4⟩ := hb1; first | (go_simp; done) | (go_simp; simp [qx0, qx1, qx2]; done)))
              simp only [Act.put, List.setIfInBounds_toArray, List.set_cons_zero, List.set_cons_succ]
              refine take_d (i := 2) 52 (.pointer (some ⟨w1.heap.size, 0, none⟩)) rfl rfl (by kernel_rfl) (by kernel_rfl) (by kernel_rfl) (fun _ _ _ h => h) (Or.inl ⟨by rfl, ?_⟩) hSS ?_
              (focus (intro w' hw'; have hb1 := HCELL.out w' hw'; obtain ⟨hb1, hb2, hb3, hb4⟩ := hb1; first | (go_simp; done) | (go_simp; simp [qx0, qx1, qx2]; done)))
              simp only [Act.put, List.setIfInBounds_toArray, List.set_cons_zero, List.set_cons_succ]
              refine take_d (i := 3) 53 (.pointer (some ⟨w1.heap.size, 1, none⟩)) rfl rfl (by kernel_rfl) (by kernel_rfl) (by kernel_rfl) (fun _ _ _ h => h) (Or.inl ⟨by rfl, ?_⟩) hSS ?_
              (focus (intro w' hw'; have hb1 := HCELL.out w' hw'; obtain ⟨hb1, hb2, hb3, hb4⟩ := hb1; first | (go_simp; done) | (go_simp; simp [qx0, qx1, qx2]; done)))
              simp only [Act.put, List.setIfInBounds_toArray, List.set_cons_zero, List.set_cons_succ]
              refine take_d (i := 4) 54 (.bool false) rfl rfl (by kernel_rfl) (by kernel_rfl) (by kernel_rfl) (fun _ _ _ h => h) (Or.inl ⟨by rfl, ?_⟩) hSS ?_
              (focus (intro w' hw'; have hb1 := HCELL.out w' hw'; obtain ⟨hb1, hb2, hb3, hb4⟩ := hb1; first | (go_simp; done) | (go_simp; simp [qx0, qx1, qx2]; done)))
              simp only [Act.put, List.setIfInBounds_toArray, List.set_cons_zero, List.set_cons_succ]
              refine take_d (i := 5) 55 (.bool true) rfl rfl (by kernel_rfl) (by kernel_rfl) (by kernel_rfl) (fun _ _ _ h => h) (Or.inl ⟨by rfl, ?_⟩) hSS ?_
              (focus (intro w' hw'; have hb1 := HCELL.out w' hw'; obtain ⟨hb1, hb2, hb3, hb4⟩ := hb1; first | (go_simp; done) | (go_simp; simp [qx0, qx1, qx2]; done)))
              simp only [Act.put, List.setIfInBounds_toArray, List.set_cons_zero, List.set_cons_succ]
              refine take_d (i := 6) 56 (.bool true) rfl rfl (by kernel_rfl) (by kernel_rfl) (by kernel_rfl) (fun _ _ _ h => h) (Or.inl ⟨by rfl, ?_⟩) hSS ?_
              (focus (intro w' hw'; have hb1 := HCELL.out w' hw'; obtain ⟨hb1, hb2, hb3, hb4⟩ := hb1; first | (go_simp; done) | (go_simp; simp [qx0, qx1, qx2]; done)))
              simp only [Act.put, List.setIfInBounds_toArray, List.set_cons_zero, List.set_cons_succ]
              refine take_d (i := 7) 57 (.int .i64 (A : Int)) rfl rfl (by kernel_rfl) (by kernel_rfl) (by kernel_rfl) (fun _ _ _ h => h) (Or.inl ⟨by rfl, ?_⟩) hSS ?_
              (focus (intro w' hw'; have hb1 := HCELL.out w' hw'; obtain ⟨hb1, hb2, hb3, hb4⟩ := hb1; first | (go_simp; done) | (go_simp; simp [qx0, qx1, qx2]; done)))
              simp only [Act.put, List.setIfInBounds_toArray, List.set_cons_zero, List.set_cons_succ]
              refine take_d (i := 8) 58 (.slice ao b.length cap) rfl rfl (by kernel_rfl) (by kernel_rfl) (by kernel_rfl) (fun _ _ _ h => h) (Or.inl ⟨by rfl, ?_⟩) hSS ?_
              (focus (intro w' hw'; have hb1 := HCELL.out w' hw'; obtain ⟨hb1, hb2, hb3, hb4⟩ := hb1; first | (go_simp; done) | (go_simp; simp [qx0, qx1, qx2]; done)))
              simp only [Act.put, List.setIfInBounds_toArray, List.set_cons_zero, List.set_cons_succ]
              refine take_d (i := 9) 59 (.int .i64 (b.length : Int)) rfl rfl (by kernel_rfl) (by kernel_rfl) (by kernel_rfl) (fun _ _ _ h => h) (Or.inl ⟨by rfl, ?_⟩) hSS ?_
              (focus (intro w' hw'; have hb1 := HCELL.out w' hw'; obtain ⟨hb1, hb2, hb3, hb4⟩ := hb1; first | (go_simp; done) | (go_simp; simp [qx0, qx1, qx2]; done)))
              simp only [Act.put, List.setIfInBounds_toArray, List.set_cons_zero, List.set_cons_succ]
              refine take_d (i := 10) 60 (.bool false) rfl rfl (by kernel_rfl) (by kernel_rfl) (by kernel_rfl) (fun _ _ _ h => h) (Or.inl ⟨by rfl, ?_⟩) hSS ?_
              (focus (intro w' hw'; have hb1 := HCELL.out w' hw'; obtain ⟨hb1, hb2, hb3, hb4⟩ := hb1; first | (go_simp; done) | (go_simp; simp [qx0, qx1, qx2]; done)))
              simp only [Act.put, List.setIfInBounds_toArray, List.set_cons_zero, List.set_cons_succ]
              refine take_d (i := 11) 61 (.bool false) rfl rfl (by kernel_rfl) (by kernel_rfl) (by kernel_rfl) (fun _ _ _ h => h) (Or.inl ⟨by rfl, ?_⟩) hSS ?_
              (focus (intro w' hw'; have hb1 := HCELL.out w' hw'; obtain ⟨hb1, hb2, hb3, hb4⟩ := hb1; first | (go_simp; done) | (go_simp; simp [qx0, qx1, qx2]; done)))
              simp only [Act.put, List.setIfInBounds_toArray, List.set_cons_zero, List.set_cons_succ]
              refine take_d (i := 12) 62 (.bool false) rfl rfl (by kernel_rfl) (by kernel_rfl) (by kernel_rfl) (fun _ _ _ h => h) (Or.inl ⟨by rfl, ?_⟩) hSS ?_
              (focus (intro w' hw'; have hb1 := HCELL.out w' hw'; obtain ⟨hb1, hb2, hb3, hb4⟩ := hb1; first | (go_simp; done) | (go_simp; simp [qx0, qx1, qx2]; done)))
              simp only [Act.put, List.setIfInBounds_toArray, List.set_cons_zero, List.set_cons_succ]
              refine take_d (i := 13) 63 (undef) rfl rfl (by kernel_rfl) (by kernel_rfl) (by kernel_rfl) (fun _ _ _ h => h) (Or.inr ⟨by rfl, rfl⟩) hSS ?_
              simp only [Act.put, List.setIfInBounds_toArray, List.set_cons_zero, List.set_cons_succ]
              refine take_d (i := 14) 64 (undef) rfl rfl (by kernel_rfl) (by kernel_rfl) (by kernel_rfl) (fun _ _ _ h => h) (Or.inr ⟨by rfl, rfl⟩) hSS ?_
              simp only [Act.put, List.setIfInBounds_toArray, List.set_cons_zero, List.set_cons_succ]
              refine take_d (i := 15) 65 (undef) rfl rfl (by kernel_rfl) (by kernel_rfl) (by kernel_rfl) (fun _ _ _ h => h) (Or.inr ⟨by rfl, rfl⟩) hSS ?_
              simp only [Act.put, List.setIfInBounds_toArray, List.set_cons_zero, List.set_cons_succ]
              refine take_d (i := 16) 66 (undef) rfl rfl (by kernel_rfl) (by kernel_rfl) (by kernel_rfl) (fun _ _ _ h => h) (Or.inr ⟨by rfl, rfl⟩) hSS ?_
              simp only [Act.put, List.setIfInBounds_toArray, List.set_cons_zero, List.set_cons_succ]
              refine take_d (i := 17) 67 (undef) rfl rfl (by kernel_rfl) (by kernel_rfl) (by kernel_rfl) (fun _ _ _ h => h) (Or.inr ⟨by rfl, rfl⟩) hSS ?_
              simp only [Act.put, List.setIfInBounds_toArray, List.set_cons_zero, List.set_cons_succ]
              refine take_d (i := 18) 68 (undef) rfl rfl (by kernel_rfl) (by kernel_rfl) (by kernel_rfl) (fun _ _ _ h => h) (Or.inr ⟨by rfl, rfl⟩) hSS ?_
              simp only [Act.put, List.setIfInBounds_toArray, List.set_cons_zero, List.set_cons_succ]
              refine take_d (i := 19) 69 (undef) rfl rfl (by kernel_rfl) (by kernel_rfl) (by kernel_rfl) (fun _ _ _ h => h) (Or.inr ⟨by rfl, rfl⟩) hSS ?_
              simp only [Act.put, List.setIfInBounds_toArray, List.set_cons_zero, List.set_cons_succ]
              refine take_d (i := 20) 70 (undef) rfl rfl (by kernel_rfl) (by kernel_rfl) (by kernel_rfl) (fun _ _ _ h => h) (Or.inr ⟨by rfl, rfl⟩) hSS ?_
              simp only [Act.put, List.setIfInBounds_toArray, List.set_cons_zero, List.set_cons_succ]
              refine take_d (i := 21) 71 (.bool false) rfl rfl (by kernel_rfl) (by kernel_rfl) (by kernel_rfl) (fun _ _ _ h => h) (Or.inl ⟨by rfl, ?_⟩) hSS ?_
              (focus (intro w' hw'; have hb1 := HCELL.out w' hw'; obtain ⟨hb1, hb2, hb3, hb4⟩ := hb1; first | (go_simp; done) | (go_simp; simp [qx0, qx1, qx2]; done)))
              simp only [Act.put, List.setIfInBounds_toArray, List.set_cons_zero, List.set_cons_succ]
              obtain ⟨W, HWE⟩ : ∃ W, W = w9.drew := ⟨_, rfl⟩
              have HWS := HSJ.out.drew
              rw [← HWE] at HWS hSS ⊢
              clear HWE
              have q0 : W.cell? ⟨w.heap.size, 0, none⟩ = some (.int .i64 0) := HWS.cell 3 rfl (List.mem_singleton.2 rfl) 0
              have q1 : W.cell? ⟨w.heap.size, 1, none⟩ = some (.slice none 0 0) := HWS.cell 3 rfl (List.mem_singleton.2 rfl) 1
              have q2 : W.cell? ⟨w.heap.size, 2, none⟩ = some (.int .i64 0) := HWS.cell 3 rfl (List.mem_singleton.2 rfl) 2
              have z0 : W.frozen? ⟨w.heap.size, 0, none⟩ = false := HWS.free 3 rfl (List.mem_singleton.2 rfl) 0
              have z1 : W.frozen? ⟨w.heap.size, 1, none⟩ = false := HWS.free 3 rfl (List.mem_singleton.2 rfl) 1
              have z2 : W.frozen? ⟨w.heap.size, 2, none⟩ = false := HWS.free 3 rfl (List.mem_singleton.2 rfl) 2
              refine wpAnyH_ready (rs := [22]) (by kernel_rfl) (by simp) (AllReadyH.cons rfl (fun K2 hK2 => ?_) AllReadyH.nil)
              rw [if_pos (by rfl)]
              go_simp
              have hT := ((HWS.store 3 rfl 0 (.int .i64 (size : Int))).store 3 rfl 1 (.slice aop ls.length capp)).store 3 rfl 2 (.int .i64 (A : Int))
              have HT := Lib.hid hT
              refine hK2.out _ _ ⟨hT.cell 1 rfl (List.mem_singleton.2 rfl) 0, hT.cell 1 rfl (List.mem_singleton.2 rfl) 1, hT.cell 1 rfl (List.mem_singleton.2 rfl) 2, hT.cell 0 rfl (List.mem_singleton.2 rfl) 1⟩ (fun hSS => ?_)
              clear q0 q1 q2 z0 z1 z2 hT
              refine wpAnyH_ready (rs := [23]) (by kernel_rfl) (by simp) (AllReadyH.cons rfl (fun K3 hK3 => ?_) AllReadyH.nil)
              rw [if_pos (by rfl)]
              go_simp
              refine hK3.out _ _ hSS (fun _ => ?_)
              refine wpAnyH_done (by kernel_rfl) ?_ _
              go_wp2_with fail
              ((try simp only [Exit.inBlock, Exit.then]); refine bodyPost_ret (results_cell_two rfl _ _ _ _ _ 3 rfl HT.out rfl Try.underlying82 rfl h63) rfl ?_)
              exact .inr ⟨_, _, _, _, _, rfl, HT.out.pick [] (by decide) [] rfl, fun ⟨s, l, a, hp⟩ => by have h1 := HN.out s l a hp; obtain ⟨x, k, _, g2, _, _, g5, _⟩ := hp; rw [h1.2.2.1, h1.2.2.2, ← HA.out] at g5; exact HQ.out g5⟩
        | succ m =>
          have hr0 : 0 < rs.length := by omega
          have hr0i : (0 : Int) < (rs.length : Int) := by omega
          have hAb : A ≤ b.length := by
            rcases HBD.out.2 with e | e
            · rw [HA.out, e]; have := HAT.out.1; simp; omega
            · exact e
          have hrln : rs.length ≤ 1000000 := by omega
          have hS2 := HS.out.2.2
          have hpr2 := HS.out.2.1
          have hlsl : ls.length ≤ 1000000 := by omega
          clear k80 k82 f82
          go_wp2_with ((at_builtin; (refine wpList_app1 2 80 i0 (.int .i64 0) _ _ _ rfl rfl rfl rfl Try.underlying80 i0a i0b i0c i0d rfl hS2 rfl hpr2 rfl ?_ ?_ ?_); (unfold maxLen; omega); omega; intro v4 c4 w4 hr4 hS4); (obtain ⟨ao4, cap4, rfl⟩ := hr4.shape); have m81 : w4.cell? ⟨w2.heap.size, 1, none⟩ = some (.slice aop ls.length capp) := hS4.cell 1 rfl (List.mem_singleton.2 rfl) 1; have n81 : w4.frozen? ⟨w2.heap.size, 1, none⟩ = false := hS4.free 1 rfl (List.mem_singleton.2 rfl) 1; have H4 := Lib.hid (And.intro hr4 hS4); clear hS2 hpr2 hr4 hS4 k81 d0 d1)
          have hS5 := H4.out.2.store 1 rfl 1 (.slice ao4 (ls.length + 1) cap4)
          refine (rnum_any w1.heap.size _ bd rs 1099511627776 (by decide) (fun e => (HBD.out.1 e).1) HS.out.1 hS5 hrln).mono ?_
          clear m81 n81 hS5
          rintro e w6 (⟨hnone, rfl, hS6⟩ | ⟨n, k', sv6, hsome, rfl, hrd6, hS6⟩)
          · obtain ⟨d0, d1, g0, g1⟩ := rdr_cells hS6
            have HWS := Lib.hid (HJ.out.join hS6)
            have q0 : w6.cell? ⟨w.heap.size, 0, none⟩ = some (.int .i64 0) := HWS.out.cell 3 rfl (List.mem_singleton.2 rfl) 0
            have q1 : w6.cell? ⟨w.heap.size, 1, none⟩ = some (.slice none 0 0) := HWS.out.cell 3 rfl (List.mem_singleton.2 rfl) 1
            have q2 : w6.cell? ⟨w.heap.size, 2, none⟩ = some (.int .i64 0) := HWS.out.cell 3 rfl (List.mem_singleton.2 rfl) 2
            have z0 : w6.frozen? ⟨w.heap.size, 0, none⟩ = false := HWS.out.free 3 rfl (List.mem_singleton.2 rfl) 0
            have z1 : w6.frozen? ⟨w.heap.size, 1, none⟩ = false := HWS.out.free 3 rfl (List.mem_singleton.2 rfl) 1
            have z2 : w6.frozen? ⟨w.heap.size, 2, none⟩ = false := HWS.out.free 3 rfl (List.mem_singleton.2 rfl) 2
            have HNO := Lib.hid hnone
            clear hnone hS6 g0 g1
            go_wp2_with fail
            have HT := ((HWS.out.store 3 rfl 0 (.int .i64 0)).store 3 rfl 1 (.slice none 0 0)).store 3 rfl 2 (.int .i64 0)
            ((try simp only [Exit.inBlock, Exit.then]); refine bodyPost_ret (results_cell_two rfl _ _ _ _ _ 3 rfl HT rfl Try.underlying82 rfl h63) rfl ?_)
            refine .inr ⟨_, _, _, _, _, rfl, HT.pick [] (by decide) [] rfl, fun ⟨s, l, a, hp⟩ => ?_⟩
            obtain ⟨e1, e2, e3, e4⟩ := HB2.out s l a hp
            obtain ⟨e5, Z, e6, e7⟩ := HC2.out l e4 e1
            cases Z with
            | nil => have e8 : rs = [] := e7; rw [e8] at hr0; simp at hr0
            | cons z Z =>
              obtain ⟨_, k9, e9, _⟩ := e7
              rw [HNO.out] at e9
              cases e9
          · obtain ⟨d0, d1, g0, g1⟩ := rdr_cells hS6
            have hnl := rdN_le hsome
            have hkp := rdN_pos hsome
            have hwA : IntKind.i64.wrap ((A : Int) + (n : Int)) = (A : Int) + (n : Int) := IntWalk.i64_in _ (by omega)
            have HSM := Lib.hid (And.intro hsome (And.intro hrd6 hS6))
            have HWS := Lib.hid (HJ.out.join hS6)
            by_cases qb : b.length < A + n
            · have qbi : (b.length : Int) < (A : Int) + (n : Int) := by omega
              have HQB := Lib.hid qb
              have q0 : w6.cell? ⟨w.heap.size, 0, none⟩ = some (.int .i64 0) := HWS.out.cell 3 rfl (List.mem_singleton.2 rfl) 0
              have q1 : w6.cell? ⟨w.heap.size, 1, none⟩ = some (.slice none 0 0) := HWS.out.cell 3 rfl (List.mem_singleton.2 rfl) 1
              have q2 : w6.cell? ⟨w.heap.size, 2, none⟩ = some (.int .i64 0) := HWS.out.cell 3 rfl (List.mem_singleton.2 rfl) 2
              have z0 : w6.frozen? ⟨w.heap.size, 0, none⟩ = false := HWS.out.free 3 rfl (List.mem_singleton.2 rfl) 0
              have z1 : w6.frozen? ⟨w.heap.size, 1, none⟩ = false := HWS.out.free 3 rfl (List.mem_singleton.2 rfl) 1
              have z2 : w6.frozen? ⟨w.heap.size, 2, none⟩ = false := HWS.out.free 3 rfl (List.mem_singleton.2 rfl) 2
              clear hsome hrd6 hS6 g0 g1 qb
              go_wp2_with fail
              have HT := ((HWS.out.store 3 rfl 0 (.int .i64 0)).store 3 rfl 1 (.slice none 0 0)).store 3 rfl 2 (.int .i64 0)
              ((try simp only [Exit.inBlock, Exit.then]); refine bodyPost_ret (results_cell_two rfl _ _ _ _ _ 3 rfl HT rfl Try.underlying82 rfl h63) rfl ?_)
              refine .inr ⟨_, _, _, _, _, rfl, HT.pick [] (by decide) [] rfl, fun ⟨s, l, a, hp⟩ => ?_⟩
              obtain ⟨e1, e2, e3, e4⟩ := HB2.out s l a hp
              obtain ⟨e5, Z, e6, e7⟩ := HC2.out l e4 e1
              cases Z with
              | nil => have e8 : rs = [] := e7; rw [e8] at hr0; simp at hr0
              | cons z Z =>
                obtain ⟨_, k9, e9, _⟩ := e7
                rw [HSM.out.1] at e9
                injection e9 with e9
                injection e9 with e9 _
                obtain ⟨x, k, _, g2, _, _, g5, _⟩ := hp
                have h1 := HQB.out
                have h2 := HA.out
                have h3 := HAT.out.1
                rw [e6, List.sum_append, List.sum_cons, ← e9] at g5
                omega
            · have qbi : ¬ (b.length : Int) < (A : Int) + (n : Int) := by omega
              have HQB := Lib.hid qb
              clear hsome hrd6 hS6 g0 g1 qb
              go_wp2_with fail
              go_roundg ((rs.drop k').length)
              case measure => rw [List.length_drop]; omega
              case rel =>
                have hsn : at0 + (ls ++ [n]).sum = A + n := by rw [List.sum_append, HA.out]; simp; omega
                refine ⟨rs.drop k', false, sv6, ls ++ [n], _, c4, rfl, ?_, HSM.out.2.1, (fun e => by cases e), ?_, ?_, HSM.out.2.2, .inr ?_, Lib.hid fun _ => ?_, Lib.hid fun Y hY hbf => ?_⟩
                · rw [hsn]; push_cast; rfl
                · rw [List.length_append, List.length_drop, List.length_singleton]; omega
                · have h4 := H4.out.1
                  rw [placesP_snoc, iv_append, List.length_append, List.length_singleton, ← HA.out]
                  exact h4
                · rw [hsn]; have := HQB.out; omega
                · have hbd : bd = false := by
                    cases bd with
                    | false => rfl
                    | true => have := (HBD.out.1 rfl).1; rw [this] at hr0; simp at hr0
                  obtain ⟨e1, e2⟩ := HC1.out hbd
                  refine ⟨e1, fun Y hY => ?_⟩
                  rw [List.append_assoc, List.singleton_append]
                  exact e2 _ ⟨fun e => by rw [e] at hr0; simp at hr0, k', HSM.out.1, hY⟩
                · obtain ⟨e5, Z, e6, e7⟩ := HC2.out Y hY hbf
                  refine ⟨rfl, ?_⟩
                  cases Z with
                  | nil => have e8 : rs = [] := e7; rw [e8] at hr0; simp at hr0
                  | cons z Z =>
                    obtain ⟨_, k9, e9, e10⟩ := e7
                    rw [HSM.out.1] at e9
                    injection e9 with e9
                    injection e9 with e9 e11
                    subst e9 e11
                    exact ⟨Z, by rw [e6, List.append_assoc, List.singleton_append], e10⟩
  · have HJ := Lib.hid ((HS0.out.join hS1).pick [0] (by decide) [[(w.heap.size, .cells #[.int .i64 0, .slice none 0 0, .int .i64 0] 82 (0, 0))]] rfl)
    obtain ⟨h, hh0⟩ : ∃ h : List UInt8, h = [] := ⟨_, rfl⟩
    have hSr : St w1.heap.size w1 (w1.alloc (.cells #[.slice none 0 0, .bool false] 61 (0, 0))) (rdrC w1.heap.size (.slice none 0 0) false :: []) := (St.init w1).alloc _
    have HSR := Lib.hid hSr
    have HF := Lib.hid hf
    have hhl : h.length ≤ 1000000 := by rw [hh0]; exact Nat.zero_le _
    have hn0 : rdN [] 1099511627776 = none := rfl
    clear hf hS1 hSr
    go_wp2_with fail
    refine (rnum_any w1.heap.size _ false [] 1099511627776 (by decide) (fun h => by cases h) (Rd.nil _ _) HSR.out (by decide)).mono ?_
    rintro e w2 (⟨hnone, rfl, hS2⟩ | ⟨size, k, sv, hsome, rfl, hrd2, hS2⟩)
    case inl =>
      obtain ⟨rest, Hrest⟩ : ∃ rest : List UInt8, Hid (rest = []) := ⟨_, Lib.hid rfl⟩
      obtain ⟨sv, Hsv⟩ : ∃ sv : Value, Hid (sv = .slice none 0 0) := ⟨_, Lib.hid rfl⟩
      obtain ⟨bad, Hbad⟩ : ∃ bad : Bool, Hid (bad = true) := ⟨_, Lib.hid rfl⟩
      obtain ⟨size, Hsize⟩ : ∃ size : Nat, Hid (size = 0) := ⟨_, Lib.hid rfl⟩
      obtain ⟨at0, HAE⟩ : ∃ at0 : Nat, Hid (at0 = 0) := ⟨_, Lib.hid rfl⟩
      have HAT : Hid (at0 ≤ b.length ∧ (bad = false → at0 = 12 + h.length)) := Lib.hid ⟨by rw [HAE.out]; exact Nat.zero_le _, fun e => by rw [Hbad.out] at e; cases e⟩
      have HAV : Hid (Value.int .i64 0 = .int .i64 ((at0 + ([] : List Nat).sum : Nat) : Int)) := Lib.hid (by rw [HAE.out]; simp)
      have hrd2 : Rd w1 1 sv rest.length (bv rest) := by rw [Hsv.out, Hrest.out]; exact Rd.nil _ _
      rw [← Hsv.out, ← Hbad.out] at hS2
      have HB0 : Hid (bad = true → rest = []) := Lib.hid (fun _ => Hrest.out)
      have HSZ : Hid (size ≤ 1099511627776) := Lib.hid (by rw [Hsize.out]; omega)
      have HB1 : Hid (bad = false → firstP b = some h ∧ ∃ k, rdN h 1099511627776 = some (size, k) ∧ NumsR (h.drop k) = NumsR rest) := Lib.hid (fun e => by rw [Hbad.out] at e; cases e)
      have HB2 : Hid (∀ s l a, PlanR b s l a → bad = false ∧ s = size ∧ a = at0 ∧ NumsR rest l) := Lib.hid (by
        rintro s l a ⟨h', k', g1, g2, g3, _⟩
        rw [HF.out] at g1
        cases g1)
      have hrl : rest.length ≤ h.length := by rw [Hrest.out]; exact Nat.zero_le _
      clear hnone hn0 hh0
      obtain ⟨d0, d1, _, _⟩ := rdr_cells hS2
      obtain ⟨ao2, cap2, rfl⟩ := hrd2.shape
      have HR2 := Lib.hid hrd2
      have hS3 := hS2.alloc (.cells #[.int .i64 0, .slice none 0 0, .int .i64 0] 82 (0, 0))
      go_wp2_with fail
      obtain ⟨w3, HW3⟩ : ∃ w3, Hid (w3 = w2.alloc (.cells #[.int .i64 0, .slice none 0 0, .int .i64 0] 82 (0, 0))) := ⟨_, Lib.hid rfl⟩
      rw [← HW3.out] at hS3 ⊢
      have HS3 : Hid (St w1.heap.size w1 w3 [[(w2.heap.size, .cells #[.int .i64 (size : Int), .slice none 0 0, .int .i64 0] 82 (0, 0))], rdrC w1.heap.size (.slice ao2 rest.length cap2) bad]) := Lib.hid (by
        have := hS3
        rw [Hsize.out]; exact this)
      clear hS2 hrd2 hS3 HW3 d0 d1
      go_loopg [5] rest.length (fun gf s5 wr => ∃ (rs : List UInt8) (bd : Bool) (sv : Value) (ls : List Nat) (pv : Value) (pc : List (Nat × Obj)), rs.length = gf ∧ s5 = .int .i64 ((at0 + ls.sum : Nat) : Int) ∧ Rd w1 1 sv rs.length (bv rs) ∧ (bd = true → rs = [] ∧ ls = []) ∧ ls.length + rs.length ≤ h.length ∧
        RowC 3 1 pv ls.length (iv (placesP at0 ls)) pc ∧ St w1.heap.size w1 wr [rdrC w1.heap.size sv bd, [(w2.heap.size, .cells #[.int .i64 (size : Int), pv, .int .i64 0] 82 (0, 0))], pc] ∧
        (ls = [] ∨ at0 + ls.sum ≤ b.length) ∧ Hid (bd = false → bad = false ∧ ∀ Y, NumsR rs Y → NumsR rest (ls ++ Y)) ∧ Hid (∀ Y, NumsR rest Y → bad = false → bd = false ∧ ∃ Z, Y = ls ++ Z ∧ NumsR rs Z))
      case atStart =>
        refine ⟨rest, bad, _, [], .slice none 0 0, [], rfl, HAV.out, HR2.out, fun e => ⟨HB0.out e, rfl⟩, ?_, RowC.nil _ _, ?_, .inl rfl, ?_, ?_⟩
        · simpa using hrl
        · exact (HS3.out.one_nil).pick [2, 1, 0] (by decide) _ rfl
        · exact Lib.hid fun e => ⟨e, fun Y h => h⟩
        · exact Lib.hid fun Y h e => ⟨e, Y, rfl, h⟩
      case round =>
        obtain ⟨rs, bd, sv, ls, pv, pc, hgf, rfl, hrd, hbd, hll, hpr, hS, hle, HC1, HC2⟩ := hrel
        obtain ⟨A, HA⟩ : ∃ A, Hid (A = at0 + ls.sum) := ⟨_, Lib.hid rfl⟩
        rw [← HA.out] at hle ⊢
        obtain ⟨aos, caps, rfl⟩ := hrd.shape
        obtain ⟨aop, capp, rfl⟩ := hpr.shape
        obtain ⟨d0, d1, g0, g1⟩ := rdr_cells hS
        have k80 : wr.cell? ⟨w2.heap.size, 0, none⟩ = some (.int .i64 (size : Int)) := hS.cell 1 rfl (List.mem_singleton.2 rfl) 0
        have k81 : wr.cell? ⟨w2.heap.size, 1, none⟩ = some (.slice aop ls.length capp) := hS.cell 1 rfl (List.mem_singleton.2 rfl) 1
        have k82 : wr.cell? ⟨w2.heap.size, 2, none⟩ = some (.int .i64 0) := hS.cell 1 rfl (List.mem_singleton.2 rfl) 2
        have f82 : wr.frozen? ⟨w2.heap.size, 2, none⟩ = false := hS.free 1 rfl (List.mem_singleton.2 rfl) 2
        have HS := Lib.hid (And.intro hrd (And.intro hpr hS))
        have HBD := Lib.hid (And.intro hbd hle)
        clear hrd hpr hS g0 g1 hbd hle
        cases gk with
        | zero =>
          have hr0 : rs = [] := List.eq_nil_of_length_eq_zero hgf
          subst hr0
          clear hgf
          have HN : Hid (∀ s l a, PlanR b s l a → bd = false ∧ s = size ∧ l = ls ∧ a = at0) := Lib.hid (by
            intro s l a hp
            obtain ⟨e1, e2, e3, e4⟩ := HB2.out s l a hp
            obtain ⟨e5, Z, e6, e7⟩ := HC2.out l e4 e1
            have e8 : Z = [] := by
              cases Z with
              | nil => rfl
              | cons z Z => exact absurd rfl e7.1
            rw [e8, List.append_nil] at e6
            exact ⟨e5, e2, e6, e3⟩)
          have HP : Hid (bd = false → A = b.length → ls.length = (size + 999) / 1000 → PlanR b size ls at0) := Lib.hid (by
            intro e1 e2 e3
            obtain ⟨e4, e5⟩ := HC1.out e1
            obtain ⟨eF, k, e6, e7⟩ := HB1.out e4
            have e8 := e5 [] rfl
            rw [List.append_nil] at e8
            exact ⟨h, k, eF, HAT.out.2 e4, e6, by rw [e7]; exact e8, by rw [← HA.out, e2], e3⟩)
          go_wp2_with fail
          have hS9 := HS.out.2.2.store 1 rfl 2 (.int .i64 (A : Int))
          obtain ⟨w9, HW9⟩ : ∃ w9, Hid (w9 = wr.setCell ⟨w2.heap.size, 2, none⟩ (.int .i64 (A : Int))) := ⟨_, Lib.hid rfl⟩
          rw [← HW9.out] at hS9 ⊢
          replace hS9 : St w1.heap.size w1 w9 [rdrC w1.heap.size (.slice aos 0 caps) bd, [(w2.heap.size, .cells #[.int .i64 (size : Int), .slice aop ls.length capp, .int .i64 (A : Int)] 82 (0, 0))], pc] := hS9
          have HSJ := Lib.hid (HJ.out.join hS9)
          have s0 : w9.cell? ⟨w2.heap.size, 0, none⟩ = some (.int .i64 (size : Int)) := hS9.cell 1 rfl (List.mem_singleton.2 rfl) 0
          have s1 : w9.cell? ⟨w2.heap.size, 1, none⟩ = some (.slice aop ls.length capp) := hS9.cell 1 rfl (List.mem_singleton.2 rfl) 1
          have s2 : w9.cell? ⟨w2.heap.size, 2, none⟩ = some (.int .i64 (A : Int)) := hS9.cell 1 rfl (List.mem_singleton.2 rfl) 2
          have s3 : w9.cell? ⟨w1.heap.size, 1, none⟩ = some (.bool bd) := hS9.cell 0 rfl (List.mem_singleton.2 rfl) 1
          have HCELL : Hid (∀ w' : World, ReadS w1.heap.size w2.heap.size size A (.slice aop ls.length capp) bd w' → w'.cell? ⟨w2.heap.size, 0, none⟩ = some (.int .i64 (size : Int)) ∧ w'.cell? ⟨w2.heap.size, 1, none⟩ = some (.slice aop ls.length capp) ∧ w'.cell? ⟨w2.heap.size, 2, none⟩ = some (.int .i64 (A : Int)) ∧ w'.cell? ⟨w1.heap.size, 1, none⟩ = some (.bool bd)) := Lib.hid (fun _ h => h)
          have HS0123 : Hid (ReadS w1.heap.size w2.heap.size size A (.slice aop ls.length capp) bd w9.drew) := Lib.hid ⟨s0, s1, s2, s3⟩
          clear s0 s1 s2 s3 hS9 k80 k81 k82 f82 d0 d1
          refine wp_region_held_drew (S := ReadS w1.heap.size w2.heap.size size A (.slice aop ls.length capp) bd) mixed HS0123.out (fun hSS => ?_)
          cases bd with
          | true =>
            refine take_d (i := 0) 50 (.agg #[.int .i64 (size : Int), .slice aop ls.length capp, .int .i64 (A : Int)]) rfl rfl (by kernel_rfl) (by kernel_rfl) (by kernel_rfl) (fun _ _ _ h => h) (Or.inl ⟨by rfl, ?_⟩) hSS ?_
            (focus (intro w' hw'; have hb1 := HCELL.out w' hw'; obtain ⟨hb1, hb2, hb3, hb4⟩ := hb1; first | (go_simp; done) | (go_simp; simp [qx0, qx1, qx2]; done)))
            simp only [Act.put, List.setIfInBounds_toArray, List.set_cons_zero, List.set_cons_succ]
            refine take_d (i := 1) 51 (.pointer (some ⟨w1.heap.size, 0, none⟩)) rfl rfl (by kernel_rfl) (by kernel_rfl) (by kernel_rfl) (fun _ _ _ h => h) (Or.inl ⟨by rfl, ?_⟩) hSS ?_
            (focus (intro w' hw'; have hb1 := HCELL.out w' hw'; obtain ⟨hb1, hb2, hb3, hb4⟩ := hb1; first | (go_simp; done) | (go_simp; simp [qx0, qx1, qx2]; done)))
            simp only [Act.put, List.setIfInBounds_toArray, List.set_cons_zero, List.set_cons_succ]
            refine take_d (i := 2) 52 (.pointer (some ⟨w1.heap.size, 0, none⟩)) rfl rfl (by kernel_rfl) (by kernel_rfl) (by kernel_rfl) (fun _ _ _ h => h) (Or.inl ⟨by rfl, ?_⟩) hSS ?_
            (focus (intro w' hw'; have hb1 := HCELL.out w' hw'; obtain ⟨hb1, hb2, hb3, hb4⟩ := hb1; first | (go_simp; done) | (go_simp; simp [qx0, qx1, qx2]; done)))
            simp only [Act.put, List.setIfInBounds_toArray, List.set_cons_zero, List.set_cons_succ]
            refine take_d (i := 3) 53 (.pointer (some ⟨w1.heap.size, 1, none⟩)) rfl rfl (by kernel_rfl) (by kernel_rfl) (by kernel_rfl) (fun _ _ _ h => h) (Or.inl ⟨by rfl, ?_⟩) hSS ?_
            (focus (intro w' hw'; have hb1 := HCELL.out w' hw'; obtain ⟨hb1, hb2, hb3, hb4⟩ := hb1; first | (go_simp; done) | (go_simp; simp [qx0, qx1, qx2]; done)))
            simp only [Act.put, List.setIfInBounds_toArray, List.set_cons_zero, List.set_cons_succ]
            refine take_d (i := 4) 54 (.bool true) rfl rfl (by kernel_rfl) (by kernel_rfl) (by kernel_rfl) (fun _ _ _ h => h) (Or.inl ⟨by rfl, ?_⟩) hSS ?_
            (focus (intro w' hw'; have hb1 := HCELL.out w' hw'; obtain ⟨hb1, hb2, hb3, hb4⟩ := hb1; first | (go_simp; done) | (go_simp; simp [qx0, qx1, qx2]; done)))
            simp only [Act.put, List.setIfInBounds_toArray, List.set_cons_zero, List.set_cons_succ]
            refine take_d (i := 5) 55 (.bool false) rfl rfl (by kernel_rfl) (by kernel_rfl) (by kernel_rfl) (fun _ _ _ h => h) (Or.inl ⟨by rfl, ?_⟩) hSS ?_
            (focus (intro w' hw'; have hb1 := HCELL.out w' hw'; obtain ⟨hb1, hb2, hb3, hb4⟩ := hb1; first | (go_simp; done) | (go_simp; simp [qx0, qx1, qx2]; done)))
            simp only [Act.put, List.setIfInBounds_toArray, List.set_cons_zero, List.set_cons_succ]
            refine take_d (i := 6) 56 (.bool false) rfl rfl (by kernel_rfl) (by kernel_rfl) (by kernel_rfl) (fun _ _ _ h => h) (Or.inl ⟨by rfl, ?_⟩) hSS ?_
            (focus (intro w' hw'; have hb1 := HCELL.out w' hw'; obtain ⟨hb1, hb2, hb3, hb4⟩ := hb1; first | (go_simp; done) | (go_simp; simp [qx0, qx1, qx2]; done)))
            simp only [Act.put, List.setIfInBounds_toArray, List.set_cons_zero, List.set_cons_succ]
            refine take_d (i := 7) 57 (undef) rfl rfl (by kernel_rfl) (by kernel_rfl) (by kernel_rfl) (fun _ _ _ h => h) (Or.inr ⟨by rfl, rfl⟩) hSS ?_
            simp only [Act.put, List.setIfInBounds_toArray, List.set_cons_zero, List.set_cons_succ]
            refine take_d (i := 8) 58 (undef) rfl rfl (by kernel_rfl) (by kernel_rfl) (by kernel_rfl) (fun _ _ _ h => h) (Or.inr ⟨by rfl, rfl⟩) hSS ?_
            simp only [Act.put, List.setIfInBounds_toArray, List.set_cons_zero, List.set_cons_succ]
            refine take_d (i := 9) 59 (undef) rfl rfl (by kernel_rfl) (by kernel_rfl) (by kernel_rfl) (fun _ _ _ h => h) (Or.inr ⟨by rfl, rfl⟩) hSS ?_
            simp only [Act.put, List.setIfInBounds_toArray, List.set_cons_zero, List.set_cons_succ]
            refine take_d (i := 10) 60 (undef) rfl rfl (by kernel_rfl) (by kernel_rfl) (by kernel_rfl) (fun _ _ _ h => h) (Or.inr ⟨by rfl, rfl⟩) hSS ?_
            simp only [Act.put, List.setIfInBounds_toArray, List.set_cons_zero, List.set_cons_succ]
            refine take_d (i := 11) 61 (.bool false) rfl rfl (by kernel_rfl) (by kernel_rfl) (by kernel_rfl) (fun _ _ _ h => h) (Or.inl ⟨by rfl, ?_⟩) hSS ?_
            (focus (intro w' hw'; have hb1 := HCELL.out w' hw'; obtain ⟨hb1, hb2, hb3, hb4⟩ := hb1; first | (go_simp; done) | (go_simp; simp [qx0, qx1, qx2]; done)))
            simp only [Act.put, List.setIfInBounds_toArray, List.set_cons_zero, List.set_cons_succ]
            refine take_d (i := 12) 62 (.bool false) rfl rfl (by kernel_rfl) (by kernel_rfl) (by kernel_rfl) (fun _ _ _ h => h) (Or.inl ⟨by rfl, ?_⟩) hSS ?_
            (focus (intro w' hw'; have hb1 := HCELL.out w' hw'; obtain ⟨hb1, hb2, hb3, hb4⟩ := hb1; first | (go_simp; done) | (go_simp; simp [qx0, qx1, qx2]; done)))
            simp only [Act.put, List.setIfInBounds_toArray, List.set_cons_zero, List.set_cons_succ]
            refine take_d (i := 13) 63 (undef) rfl rfl (by kernel_rfl) (by kernel_rfl) (by kernel_rfl) (fun _ _ _ h => h) (Or.inr ⟨by rfl, rfl⟩) hSS ?_
            simp only [Act.put, List.setIfInBounds_toArray, List.set_cons_zero, List.set_cons_succ]
            refine take_d (i := 14) 64 (undef) rfl rfl (by kernel_rfl) (by kernel_rfl) (by kernel_rfl) (fun _ _ _ h => h) (Or.inr ⟨by rfl, rfl⟩) hSS ?_
            simp only [Act.put, List.setIfInBounds_toArray, List.set_cons_zero, List.set_cons_succ]
            refine take_d (i := 15) 65 (undef) rfl rfl (by kernel_rfl) (by kernel_rfl) (by kernel_rfl) (fun _ _ _ h => h) (Or.inr ⟨by rfl, rfl⟩) hSS ?_
            simp only [Act.put, List.setIfInBounds_toArray, List.set_cons_zero, List.set_cons_succ]
            refine take_d (i := 16) 66 (undef) rfl rfl (by kernel_rfl) (by kernel_rfl) (by kernel_rfl) (fun _ _ _ h => h) (Or.inr ⟨by rfl, rfl⟩) hSS ?_
            simp only [Act.put, List.setIfInBounds_toArray, List.set_cons_zero, List.set_cons_succ]
            refine take_d (i := 17) 67 (undef) rfl rfl (by kernel_rfl) (by kernel_rfl) (by kernel_rfl) (fun _ _ _ h => h) (Or.inr ⟨by rfl, rfl⟩) hSS ?_
            simp only [Act.put, List.setIfInBounds_toArray, List.set_cons_zero, List.set_cons_succ]
            refine take_d (i := 18) 68 (undef) rfl rfl (by kernel_rfl) (by kernel_rfl) (by kernel_rfl) (fun _ _ _ h => h) (Or.inr ⟨by rfl, rfl⟩) hSS ?_
            simp only [Act.put, List.setIfInBounds_toArray, List.set_cons_zero, List.set_cons_succ]
            refine take_d (i := 19) 69 (undef) rfl rfl (by kernel_rfl) (by kernel_rfl) (by kernel_rfl) (fun _ _ _ h => h) (Or.inr ⟨by rfl, rfl⟩) hSS ?_
            simp only [Act.put, List.setIfInBounds_toArray, List.set_cons_zero, List.set_cons_succ]
            refine take_d (i := 20) 70 (undef) rfl rfl (by kernel_rfl) (by kernel_rfl) (by kernel_rfl) (fun _ _ _ h => h) (Or.inr ⟨by rfl, rfl⟩) hSS ?_
            simp only [Act.put, List.setIfInBounds_toArray, List.set_cons_zero, List.set_cons_succ]
            refine take_d (i := 21) 71 (.bool false) rfl rfl (by kernel_rfl) (by kernel_rfl) (by kernel_rfl) (fun _ _ _ h => h) (Or.inl ⟨by rfl, ?_⟩) hSS ?_
            (focus (intro w' hw'; have hb1 := HCELL.out w' hw'; obtain ⟨hb1, hb2, hb3, hb4⟩ := hb1; first | (go_simp; done) | (go_simp; simp [qx0, qx1, qx2]; done)))
            simp only [Act.put, List.setIfInBounds_toArray, List.set_cons_zero, List.set_cons_succ]
            obtain ⟨W, HWE⟩ : ∃ W, W = w9.drew := ⟨_, rfl⟩
            have HWS := HSJ.out.drew
            rw [← HWE] at HWS hSS ⊢
            clear HWE
            have q0 : W.cell? ⟨w.heap.size, 0, none⟩ = some (.int .i64 0) := HWS.cell 3 rfl (List.mem_singleton.2 rfl) 0
            have q1 : W.cell? ⟨w.heap.size, 1, none⟩ = some (.slice none 0 0) := HWS.cell 3 rfl (List.mem_singleton.2 rfl) 1
            have q2 : W.cell? ⟨w.heap.size, 2, none⟩ = some (.int .i64 0) := HWS.cell 3 rfl (List.mem_singleton.2 rfl) 2
            have z0 : W.frozen? ⟨w.heap.size, 0, none⟩ = false := HWS.free 3 rfl (List.mem_singleton.2 rfl) 0
            have z1 : W.frozen? ⟨w.heap.size, 1, none⟩ = false := HWS.free 3 rfl (List.mem_singleton.2 rfl) 1
            have z2 : W.frozen? ⟨w.heap.size, 2, none⟩ = false := HWS.free 3 rfl (List.mem_singleton.2 rfl) 2
            refine wpAnyH_ready (rs := [22]) (by kernel_rfl) (by simp) (AllReadyH.cons rfl (fun K2 hK2 => ?_) AllReadyH.nil)
            rw [if_pos (by rfl)]
            go_simp
            have hT := ((HWS.store 3 rfl 0 (.int .i64 (size : Int))).store 3 rfl 1 (.slice aop ls.length capp)).store 3 rfl 2 (.int .i64 (A : Int))
            have HT := Lib.hid hT
            refine hK2.out _ _ ⟨hT.cell 1 rfl (List.mem_singleton.2 rfl) 0, hT.cell 1 rfl (List.mem_singleton.2 rfl) 1, hT.cell 1 rfl (List.mem_singleton.2 rfl) 2, hT.cell 0 rfl (List.mem_singleton.2 rfl) 1⟩ (fun hSS => ?_)
            clear q0 q1 q2 z0 z1 z2 hT
            refine wpAnyH_ready (rs := [23]) (by kernel_rfl) (by simp) (AllReadyH.cons rfl (fun K3 hK3 => ?_) AllReadyH.nil)
            rw [if_pos (by rfl)]
            go_simp
            refine hK3.out _ _ hSS (fun _ => ?_)
            refine wpAnyH_done (by kernel_rfl) ?_ _
            go_wp2_with fail
            ((try simp only [Exit.inBlock, Exit.then]); refine bodyPost_ret (results_cell_two rfl _ _ _ _ _ 3 rfl HT.out rfl Try.underlying82 rfl h63) rfl ?_)
            exact .inr ⟨_, _, _, _, _, rfl, HT.out.pick [] (by decide) [] rfl, fun ⟨s, l, a, hp⟩ => by have h1 := (HN.out s l a hp).1; cases h1⟩
          | false =>
            have hsz2 : (size : Int) ≤ 1099511627776 := by have := HSZ.out; omega
            have qd : (((size : Int) + 1000 - 1).tdiv 1000) = (((size + 999) / 1000 : Nat) : Int) := by
              rw [show (size : Int) + 1000 - 1 = ((size + 999 : Nat) : Int) from by omega]
              exact (Int.ofNat_tdiv (size + 999) 1000).symm
            have qd2 : (((size : Int) + 999).tdiv 1000) = (((size + 999) / 1000 : Nat) : Int) := by
              rw [show (size : Int) + 999 = ((size + 999 : Nat) : Int) from by omega]
              exact (Int.ofNat_tdiv (size + 999) 1000).symm
            have qw3 : IntKind.i64.wrap (((size : Int) + 999) / 1000) = ((size : Int) + 999) / 1000 := IntWalk.i64_in _ (by omega)
            have qx1 := qd
            have qx0 := qd2
            have qw1 : IntKind.i64.wrap ((size : Int) + 1000) = (size : Int) + 1000 := IntWalk.i64_in _ (by omega)
            have qw2 : IntKind.i64.wrap ((size : Int) + 1000 - 1) = (size : Int) + 1000 - 1 := IntWalk.i64_in _ (by omega)
            by_cases qa : A = b.length
            · have HQ := Lib.hid qa
              have qx2 : ((A : Int) == (b.length : Int)) = true := by rw [beq_iff_eq]; omega
              clear qa
              refine take_d (i := 0) 50 (.agg #[.int .i64 (size : Int), .slice aop ls.length capp, .int .i64 (A : Int)]) rfl rfl (by kernel_rfl) (by kernel_rfl) (by kernel_rfl) (fun _ _ _ h => h) (Or.inl ⟨by rfl, ?_⟩) hSS ?_
              (focus (intro w' hw'; have hb1 := HCELL.out w' hw'; obtain ⟨hb1, hb2, hb3, hb4⟩ := hb1; first | (go_simp; done) | (go_simp; simp [qx0, qx1, qx2]; done)))
              simp only [Act.put, List.setIfInBounds_toArray, List.set_cons_zero, List.set_cons_succ]
              refine take_d (i := 1) 51 (.pointer (some ⟨w1.heap.size, 0, none⟩)) rfl rfl (by kernel_rfl) (by kernel_rfl) (by kernel_rfl) (fun _ _ _ h => h) (Or.inl ⟨by rfl, ?_⟩) hSS ?_
              (focus (intro w' hw'; have hb1 := HCELL.out w' hw'; obtain ⟨hb1, hb2, hb3, hb4⟩ := hb1; first | (go_simp; done) | (go_simp; simp [qx0, qx1, qx2]; done)))
              simp only [Act.put, List.setIfInBounds_toArray, List.set_cons_zero, List.set_cons_succ]
              refine take_d (i := 2) 52 (.pointer (some ⟨w1.heap.size, 0, none⟩)) rfl rfl (by kernel_rfl) (by kernel_rfl) (by kernel_rfl) (fun _ _ _ h => h) (Or.inl ⟨by rfl, ?_⟩) hSS ?_
              (focus (intro w' hw'; have hb1 := HCELL.out w' hw'; obtain ⟨hb1, hb2, hb3, hb4⟩ := hb1; first | (go_simp; done) | (go_simp; simp [qx0, qx1, qx2]; done)))
              simp only [Act.put, List.setIfInBounds_toArray, List.set_cons_zero, List.set_cons_succ]
              refine take_d (i := 3) 53 (.pointer (some ⟨w1.heap.size, 1, none⟩)) rfl rfl (by kernel_rfl) (by kernel_rfl) (by kernel_rfl) (fun _ _ _ h => h) (Or.inl ⟨by rfl, ?_⟩) hSS ?_
              (focus (intro w' hw'; have hb1 := HCELL.out w' hw'; obtain ⟨hb1, hb2, hb3, hb4⟩ := hb1; first | (go_simp; done) | (go_simp; simp [qx0, qx1, qx2]; done)))
              simp only [Act.put, List.setIfInBounds_toArray, List.set_cons_zero, List.set_cons_succ]
              refine take_d (i := 4) 54 (.bool false) rfl rfl (by kernel_rfl) (by kernel_rfl) (by kernel_rfl) (fun _ _ _ h => h) (Or.inl ⟨by rfl, ?_⟩) hSS ?_
              (focus (intro w' hw'; have hb1 := HCELL.out w' hw'; obtain ⟨hb1, hb2, hb3, hb4⟩ := hb1; first | (go_simp; done) | (go_simp; simp [qx0, qx1, qx2]; done)))
              simp only [Act.put, List.setIfInBounds_toArray, List.set_cons_zero, List.set_cons_succ]
              refine take_d (i := 5) 55 (.bool true) rfl rfl (by kernel_rfl) (by kernel_rfl) (by kernel_rfl) (fun _ _ _ h => h) (Or.inl ⟨by rfl, ?_⟩) hSS ?_
              (focus (intro w' hw'; have hb1 := HCELL.out w' hw'; obtain ⟨hb1, hb2, hb3, hb4⟩ := hb1; first | (go_simp; done) | (go_simp; simp [qx0, qx1, qx2]; done)))
              simp only [Act.put, List.setIfInBounds_toArray, List.set_cons_zero, List.set_cons_succ]
              refine take_d (i := 6) 56 (.bool true) rfl rfl (by kernel_rfl) (by kernel_rfl) (by kernel_rfl) (fun _ _ _ h => h) (Or.inl ⟨by rfl, ?_⟩) hSS ?_
              (focus (intro w' hw'; have hb1 := HCELL.out w' hw'; obtain ⟨hb1, hb2, hb3, hb4⟩ := hb1; first | (go_simp; done) | (go_simp; simp [qx0, qx1, qx2]; done)))
              simp only [Act.put, List.setIfInBounds_toArray, List.set_cons_zero, List.set_cons_succ]
              refine take_d (i := 7) 57 (.int .i64 (A : Int)) rfl rfl (by kernel_rfl) (by kernel_rfl) (by kernel_rfl) (fun _ _ _ h => h) (Or.inl ⟨by rfl, ?_⟩) hSS ?_
              (focus (intro w' hw'; have hb1 := HCELL.out w' hw'; obtain ⟨hb1, hb2, hb3, hb4⟩ := hb1; first | (go_simp; done) | (go_simp; simp [qx0, qx1, qx2]; done)))
              simp only [Act.put, List.setIfInBounds_toArray, List.set_cons_zero, List.set_cons_succ]
              refine take_d (i := 8) 58 (.slice ao b.length cap) rfl rfl (by kernel_rfl) (by kernel_rfl) (by kernel_rfl) (fun _ _ _ h => h) (Or.inl ⟨by rfl, ?_⟩) hSS ?_
              (focus (intro w' hw'; have hb1 := HCELL.out w' hw'; obtain ⟨hb1, hb2, hb3, hb4⟩ := hb1; first | (go_simp; done) | (go_simp; simp [qx0, qx1, qx2]; done)))
              simp only [Act.put, List.setIfInBounds_toArray, List.set_cons_zero, List.set_cons_succ]
              refine take_d (i := 9) 59 (.int .i64 (b.length : Int)) rfl rfl (by kernel_rfl) (by kernel_rfl) (by kernel_rfl) (fun _ _ _ h => h) (Or.inl ⟨by rfl, ?_⟩) hSS ?_
              (focus (intro w' hw'; have hb1 := HCELL.out w' hw'; obtain ⟨hb1, hb2, hb3, hb4⟩ := hb1; first | (go_simp; done) | (go_simp; simp [qx0, qx1, qx2]; done)))
              simp only [Act.put, List.setIfInBounds_toArray, List.set_cons_zero, List.set_cons_succ]
              refine take_d (i := 10) 60 (.bool true) rfl rfl (by kernel_rfl) (by kernel_rfl) (by kernel_rfl) (fun _ _ _ h => h) (Or.inl ⟨by rfl, ?_⟩) hSS ?_
              (focus (intro w' hw'; have hb1 := HCELL.out w' hw'; obtain ⟨hb1, hb2, hb3, hb4⟩ := hb1; first | (go_simp; done) | (go_simp; simp [qx0, qx1, qx2]; done)))
              simp only [Act.put, List.setIfInBounds_toArray, List.set_cons_zero, List.set_cons_succ]
              refine take_d (i := 11) 61 (.bool true) rfl rfl (by kernel_rfl) (by kernel_rfl) (by kernel_rfl) (fun _ _ _ h => h) (Or.inl ⟨by rfl, ?_⟩) hSS ?_
              (focus (intro w' hw'; have hb1 := HCELL.out w' hw'; obtain ⟨hb1, hb2, hb3, hb4⟩ := hb1; first | (go_simp; done) | (go_simp; simp [qx0, qx1, qx2]; done)))
              simp only [Act.put, List.setIfInBounds_toArray, List.set_cons_zero, List.set_cons_succ]
              refine take_d (i := 12) 62 (.bool true) rfl rfl (by kernel_rfl) (by kernel_rfl) (by kernel_rfl) (fun _ _ _ h => h) (Or.inl ⟨by rfl, ?_⟩) hSS ?_
              (focus (intro w' hw'; have hb1 := HCELL.out w' hw'; obtain ⟨hb1, hb2, hb3, hb4⟩ := hb1; first | (go_simp; done) | (go_simp; simp [qx0, qx1, qx2]; done)))
              simp only [Act.put, List.setIfInBounds_toArray, List.set_cons_zero, List.set_cons_succ]
              refine take_d (i := 13) 63 (.agg #[.int .i64 (size : Int), .slice aop ls.length capp, .int .i64 (A : Int)]) rfl rfl (by kernel_rfl) (by kernel_rfl) (by kernel_rfl) (fun _ _ _ h => h) (Or.inl ⟨by rfl, ?_⟩) hSS ?_
              (focus (intro w' hw'; have hb1 := HCELL.out w' hw'; obtain ⟨hb1, hb2, hb3, hb4⟩ := hb1; first | (go_simp; done) | (go_simp; simp [qx0, qx1, qx2]; done)))
              simp only [Act.put, List.setIfInBounds_toArray, List.set_cons_zero, List.set_cons_succ]
              refine take_d (i := 15) 65 (.pointer (some ⟨w2.heap.size, 0, none⟩)) rfl rfl (by kernel_rfl) (by kernel_rfl) (by kernel_rfl) (fun _ _ _ h => h) (Or.inl ⟨by rfl, ?_⟩) hSS ?_
              (focus (intro w' hw'; have hb1 := HCELL.out w' hw'; obtain ⟨hb1, hb2, hb3, hb4⟩ := hb1; first | (go_simp; done) | (go_simp; simp [qx0, qx1, qx2]; done)))
              simp only [Act.put, List.setIfInBounds_toArray, List.set_cons_zero, List.set_cons_succ]
              refine take_d (i := 16) 66 (.int .i64 (size : Int)) rfl rfl (by kernel_rfl) (by kernel_rfl) (by kernel_rfl) (fun _ _ _ h => h) (Or.inl ⟨by rfl, ?_⟩) hSS ?_
              (focus (intro w' hw'; have hb1 := HCELL.out w' hw'; obtain ⟨hb1, hb2, hb3, hb4⟩ := hb1; first | (go_simp; done) | (go_simp; simp [qx0, qx1, qx2]; done)))
              simp only [Act.put, List.setIfInBounds_toArray, List.set_cons_zero, List.set_cons_succ]
              refine take_d (i := 17) 67 (.int .i64 ((size : Int) + 1000)) rfl rfl (by kernel_rfl) (by kernel_rfl) (by kernel_rfl) (fun _ _ _ h => h) (Or.inl ⟨by rfl, ?_⟩) hSS ?_
              (focus (intro w' hw'; have hb1 := HCELL.out w' hw'; obtain ⟨hb1, hb2, hb3, hb4⟩ := hb1; first | (go_simp; done) | (go_simp; simp [qx0, qx1, qx2]; done)))
              simp only [Act.put, List.setIfInBounds_toArray, List.set_cons_zero, List.set_cons_succ]
              refine take_d (i := 18) 68 (.int .i64 ((size : Int) + 1000 - 1)) rfl rfl (by kernel_rfl) (by kernel_rfl) (by kernel_rfl) (fun _ _ _ h => h) (Or.inl ⟨by rfl, ?_⟩) hSS ?_
              (focus (intro w' hw'; have hb1 := HCELL.out w' hw'; obtain ⟨hb1, hb2, hb3, hb4⟩ := hb1; first | (go_simp; done) | (go_simp; simp [qx0, qx1, qx2]; done)))
              simp only [Act.put, List.setIfInBounds_toArray, List.set_cons_zero, List.set_cons_succ]
              refine take_d (i := 19) 69 (.int .i64 (((size : Int) + 999) / 1000)) rfl rfl (by kernel_rfl) (by kernel_rfl) (by kernel_rfl) (fun _ _ _ h => h) (Or.inl ⟨by rfl, ?_⟩) hSS ?_
              (focus (intro w' hw'; have hb1 := HCELL.out w' hw'; obtain ⟨hb1, hb2, hb3, hb4⟩ := hb1; first | (go_simp; done) | (go_simp; simp [qx0, qx1, qx2]; done)))
              simp only [Act.put, List.setIfInBounds_toArray, List.set_cons_zero, List.set_cons_succ]
              refine wpAnyH_ready (rs := [14]) (by kernel_rfl) (by simp) (AllReadyH.cons rfl (fun K1 hK1 => ?_) AllReadyH.nil)
              rw [if_pos (by rfl)]
              go_simp
              refine (ctnum_any (size : Int) (A : Int) aop ls.length capp _).mono ?_
              rintro e wn ⟨rfl, o, rfl⟩
              have HSA := Lib.hid (HSJ.out.drew.alloc' o)
              refine hK1.out _ _ ⟨HSA.out.cell 1 rfl (List.mem_singleton.2 rfl) 0, HSA.out.cell 1 rfl (List.mem_singleton.2 rfl) 1, HSA.out.cell 1 rfl (List.mem_singleton.2 rfl) 2, HSA.out.cell 0 rfl (List.mem_singleton.2 rfl) 1⟩ (fun hSS => ?_)
              try simp only [Act.put, List.setIfInBounds_toArray, List.set_cons_zero, List.set_cons_succ]
              by_cases qc : ls.length = (size + 999) / 1000
              · have qx0 : ((ls.length : Int) == ((size : Int) + 999) / 1000) = true := by rw [beq_iff_eq]; omega
                have HQC := Lib.hid qc
                clear qc
                refine take_d (i := 20) 70 (.bool true) rfl rfl (by kernel_rfl) (by kernel_rfl) (by kernel_rfl) (fun _ _ _ h => h) (Or.inl ⟨by rfl, ?_⟩) hSS ?_
                (focus (intro w' hw'; have hb1 := HCELL.out w' hw'; obtain ⟨hb1, hb2, hb3, hb4⟩ := hb1; first | (go_simp; done) | (go_simp; simp [qx0, qx1, qx2]; done)))
                simp only [Act.put, List.setIfInBounds_toArray, List.set_cons_zero, List.set_cons_succ]
                refine take_d (i := 21) 71 (.bool true) rfl rfl (by kernel_rfl) (by kernel_rfl) (by kernel_rfl) (fun _ _ _ h => h) (Or.inl ⟨by rfl, ?_⟩) hSS ?_
                (focus (intro w' hw'; have hb1 := HCELL.out w' hw'; obtain ⟨hb1, hb2, hb3, hb4⟩ := hb1; first | (go_simp; done) | (go_simp; simp [qx0, qx1, qx2]; done)))
                simp only [Act.put, List.setIfInBounds_toArray, List.set_cons_zero, List.set_cons_succ]
                obtain ⟨W, HWE⟩ : ∃ W, W = w9.drew.alloc o := ⟨_, rfl⟩
                have HWS := HSA.out
                rw [← HWE] at HWS hSS ⊢
                clear HWE
                have q0 : W.cell? ⟨w.heap.size, 0, none⟩ = some (.int .i64 0) := HWS.cell 3 rfl (List.mem_singleton.2 rfl) 0
                have q1 : W.cell? ⟨w.heap.size, 1, none⟩ = some (.slice none 0 0) := HWS.cell 3 rfl (List.mem_singleton.2 rfl) 1
                have q2 : W.cell? ⟨w.heap.size, 2, none⟩ = some (.int .i64 0) := HWS.cell 3 rfl (List.mem_singleton.2 rfl) 2
                have z0 : W.frozen? ⟨w.heap.size, 0, none⟩ = false := HWS.free 3 rfl (List.mem_singleton.2 rfl) 0
                have z1 : W.frozen? ⟨w.heap.size, 1, none⟩ = false := HWS.free 3 rfl (List.mem_singleton.2 rfl) 1
                have z2 : W.frozen? ⟨w.heap.size, 2, none⟩ = false := HWS.free 3 rfl (List.mem_singleton.2 rfl) 2
                refine wpAnyH_ready (rs := [22]) (by kernel_rfl) (by simp) (AllReadyH.cons rfl (fun K2 hK2 => ?_) AllReadyH.nil)
                rw [if_pos (by rfl)]
                go_simp
                have hT := ((HWS.store 3 rfl 0 (.int .i64 (size : Int))).store 3 rfl 1 (.slice aop ls.length capp)).store 3 rfl 2 (.int .i64 (A : Int))
                have HT := Lib.hid hT
                refine hK2.out _ _ ⟨hT.cell 1 rfl (List.mem_singleton.2 rfl) 0, hT.cell 1 rfl (List.mem_singleton.2 rfl) 1, hT.cell 1 rfl (List.mem_singleton.2 rfl) 2, hT.cell 0 rfl (List.mem_singleton.2 rfl) 1⟩ (fun hSS => ?_)
                clear q0 q1 q2 z0 z1 z2 hT
                refine wpAnyH_ready (rs := [23]) (by kernel_rfl) (by simp) (AllReadyH.cons rfl (fun K3 hK3 => ?_) AllReadyH.nil)
                rw [if_pos (by rfl)]
                go_simp
                refine hK3.out _ _ hSS (fun _ => ?_)
                refine wpAnyH_done (by kernel_rfl) ?_ _
                go_wp2_with fail
                ((try simp only [Exit.inBlock, Exit.then]); refine bodyPost_ret (results_cell_two rfl _ _ _ _ _ 3 rfl HT.out rfl Try.underlying82 rfl h63) rfl ?_)
                exact .inl ⟨size, ls, at0, _, pc, HP.out (by first | trivial | rfl) HQ.out HQC.out, by rw [HQ.out]; rfl, HS.out.2.1, (HT.out.pick [2] (by decide) _ rfl)⟩
              · have qx0 : ((ls.length : Int) == ((size : Int) + 999) / 1000) = false := by rw [beq_eq_false_iff_ne]; omega
                have HQC := Lib.hid qc
                clear qc
                refine take_d (i := 20) 70 (.bool false) rfl rfl (by kernel_rfl) (by kernel_rfl) (by kernel_rfl) (fun _ _ _ h => h) (Or.inl ⟨by rfl, ?_⟩) hSS ?_
                (focus (intro w' hw'; have hb1 := HCELL.out w' hw'; obtain ⟨hb1, hb2, hb3, hb4⟩ := hb1; first | (go_simp; done) | (go_simp; simp [qx0, qx1, qx2]; done)))
                simp only [Act.put, List.setIfInBounds_toArray, List.set_cons_zero, List.set_cons_succ]
                refine take_d (i := 21) 71 (.bool false) rfl rfl (by kernel_rfl) (by kernel_rfl) (by kernel_rfl) (fun _ _ _ h => h) (Or.inl ⟨by rfl, ?_⟩) hSS ?_
                (focus (intro w' hw'; have hb1 := HCELL.out w' hw'; obtain ⟨hb1, hb2, hb3, hb4⟩ := hb1; first | (go_simp; done) | (go_simp; simp [qx0, qx1, qx2]; done)))
                simp only [Act.put, List.setIfInBounds_toArray, List.set_cons_zero, List.set_cons_succ]
                obtain ⟨W, HWE⟩ : ∃ W, W = w9.drew.alloc o := ⟨_, rfl⟩
                have HWS := HSA.out
                rw [← HWE] at HWS hSS ⊢
                clear HWE
                have q0 : W.cell? ⟨w.heap.size, 0, none⟩ = some (.int .i64 0) := HWS.cell 3 rfl (List.mem_singleton.2 rfl) 0
                have q1 : W.cell? ⟨w.heap.size, 1, none⟩ = some (.slice none 0 0) := HWS.cell 3 rfl (List.mem_singleton.2 rfl) 1
                have q2 : W.cell? ⟨w.heap.size, 2, none⟩ = some (.int .i64 0) := HWS.cell 3 rfl (List.mem_singleton.2 rfl) 2
                have z0 : W.frozen? ⟨w.heap.size, 0, none⟩ = false := HWS.free 3 rfl (List.mem_singleton.2 rfl) 0
                have z1 : W.frozen? ⟨w.heap.size, 1, none⟩ = false := HWS.free 3 rfl (List.mem_singleton.2 rfl) 1
                have z2 : W.frozen? ⟨w.heap.size, 2, none⟩ = false := HWS.free 3 rfl (List.mem_singleton.2 rfl) 2
                refine wpAnyH_ready (rs := [22]) (by kernel_rfl) (by simp) (AllReadyH.cons rfl (fun K2 hK2 => ?_) AllReadyH.nil)
                rw [if_pos (by rfl)]
                go_simp
                have hT := ((HWS.store 3 rfl 0 (.int .i64 (size : Int))).store 3 rfl 1 (.slice aop ls.length capp)).store 3 rfl 2 (.int .i64 (A : Int))
                have HT := Lib.hid hT
                refine hK2.out _ _ ⟨hT.cell 1 rfl (List.mem_singleton.2 rfl) 0, hT.cell 1 rfl (List.mem_singleton.2 rfl) 1, hT.cell 1 rfl (List.mem_singleton.2 rfl) 2, hT.cell 0 rfl (List.mem_singleton.2 rfl) 1⟩ (fun hSS => ?_)
                clear q0 q1 q2 z0 z1 z2 hT
                refine wpAnyH_ready (rs := [23]) (by kernel_rfl) (by simp) (AllReadyH.cons rfl (fun K3 hK3 => ?_) AllReadyH.nil)
                rw [if_pos (by rfl)]
                go_simp
                refine hK3.out _ _ hSS (fun _ => ?_)
                refine wpAnyH_done (by kernel_rfl) ?_ _
                go_wp2_with fail
                ((try simp only [Exit.inBlock, Exit.then]); refine bodyPost_ret (results_cell_two rfl _ _ _ _ _ 3 rfl HT.out rfl Try.underlying82 rfl h63) rfl ?_)
                exact .inr ⟨_, _, _, _, _, rfl, HT.out.pick [] (by decide) [] rfl, fun ⟨s, l, a, hp⟩ => by have h1 := HN.out s l a hp; obtain ⟨x, k, _, g2, _, _, g5, g6⟩ := hp; rw [h1.2.2.1, h1.2.1] at g6; exact HQC.out g6⟩
            · have HQ := Lib.hid qa
              have qx2 : ((A : Int) == (b.length : Int)) = false := by rw [beq_eq_false_iff_ne]; omega
              clear qa
              refine take_d (i := 0) 50 (.agg #[.int .i64 (size : Int), .slice aop ls.length capp, .int .i64 (A : Int)]) rfl rfl (by kernel_rfl) (by kernel_rfl) (by kernel_rfl) (fun _ _ _ h => h) (Or.inl ⟨by rfl, ?_⟩) hSS ?_
              (focus (intro w' hw'; have hb1 := HCELL.out w' hw'; obtain ⟨hb1, hb2, hb3, hb4⟩ := hb1; first | (go_simp; done) | (go_simp; simp [qx0, qx1, qx2]; done)))
              simp only [Act.put, List.setIfInBounds_toArray, List.set_cons_zero, List.set_cons_succ]
              refine take_d (i := 1) 51 (.pointer (some ⟨w1.heap.size, 0, none⟩)) rfl rfl (by kernel_rfl) (by kernel_rfl) (by kernel_rfl) (fun _ _ _ h => h) (Or.inl ⟨by rfl, ?_⟩) hSS ?_
              (focus (intro w' hw'; have hb1 := HCELL.out w' hw'; obtain ⟨hb1, hb2, hb3, hb4⟩ := hb1; first | (go_simp; done) | (go_simp; simp [qx0, qx1, qx2]; done)))
              simp only [Act.put, List.setIfInBounds_toArray, List.set_cons_zero, List.set_cons_succ]
              refine take_d (i := 2) 52 (.pointer (some ⟨w1.heap.size, 0, none⟩)) rfl rfl (by kernel_rfl) (by kernel_rfl) (by kernel_rfl) (fun _ _ _ h => h) (Or.inl ⟨by rfl, ?_⟩) hSS ?_
              (focus (intro w' hw'; have hb1 := HCELL.out w' hw'; obtain ⟨hb1, hb2, hb3, hb4⟩ := hb1; first | (go_simp; done) | (go_simp; simp [qx0, qx1, qx2]; done)))
              simp only [Act.put, List.setIfInBounds_toArray, List.set_cons_zero, List.set_cons_succ]
              refine take_d (i := 3) 53 (.pointer (some ⟨w1.heap.size, 1, none⟩)) rfl rfl (by kernel_rfl) (by kernel_rfl) (by kernel_rfl) (fun _ _ _ h => h) (Or.inl ⟨by rfl, ?_⟩) hSS ?_
              (focus (intro w' hw'; have hb1 := HCELL.out w' hw'; obtain ⟨hb1, hb2, hb3, hb4⟩ := hb1; first | (go_simp; done) | (go_simp; simp [qx0, qx1, qx2]; done)))
              simp only [Act.put, List.setIfInBounds_toArray, List.set_cons_zero, List.set_cons_succ]
              refine take_d (i := 4) 54 (.bool false) rfl rfl (by kernel_rfl) (by kernel_rfl) (by kernel_rfl) (fun _ _ _ h => h) (Or.inl ⟨by rfl, ?_⟩) hSS ?_
              (focus (intro w' hw'; have hb1 := HCELL.out w' hw'; obtain ⟨hb1, hb2, hb3, hb4⟩ := hb1; first | (go_simp; done) | (go_simp; simp [qx0, qx1, qx2]; done)))
              simp only [Act.put, List.setIfInBounds_toArray, List.set_cons_zero, List.set_cons_succ]
              refine take_d (i := 5) 55 (.bool true) rfl rfl (by kernel_rfl) (by kernel_rfl) (by kernel_rfl) (fun _ _ _ h => h) (Or.inl ⟨by rfl, ?_⟩) hSS ?_
              (focus (intro w' hw'; have hb1 := HCELL.out w' hw'; obtain ⟨hb1, hb2, hb3, hb4⟩ := hb1; first | (go_simp; done) | (go_simp; simp [qx0, qx1, qx2]; done)))
              simp only [Act.put, List.setIfInBounds_toArray, List.set_cons_zero, List.set_cons_succ]
              refine take_d (i := 6) 56 (.bool true) rfl rfl (by kernel_rfl) (by kernel_rfl) (by kernel_rfl) (fun _ _ _ h => h) (Or.inl ⟨by rfl, ?_⟩) hSS ?_
              (focus (intro w' hw'; have hb1 := HCELL.out w' hw'; obtain ⟨hb1, hb2, hb3, hb4⟩ := hb1; first | (go_simp; done) | (go_simp; simp [qx0, qx1, qx2]; done)))
              simp only [Act.put, List.setIfInBounds_toArray, List.set_cons_zero, List.set_cons_succ]
              refine take_d (i := 7) 57 (.int .i64 (A : Int)) rfl rfl (by kernel_rfl) (by kernel_rfl) (by kernel_rfl) (fun _ _ _ h => h) (Or.inl ⟨by rfl, ?_⟩) hSS ?_
              (focus (intro w' hw'; have hb1 := HCELL.out w' hw'; obtain ⟨hb1, hb2, hb3, hb4⟩ := hb1; first | (go_simp; done) | (go_simp; simp [qx0, qx1, qx2]; done)))
              simp only [Act.put, List.setIfInBounds_toArray, List.set_cons_zero, List.set_cons_succ]
              refine take_d (i := 8) 58 (.slice ao b.length cap) rfl rfl (by kernel_rfl) (by kernel_rfl) (by kernel_rfl) (fun _ _ _ h => h) (Or.inl ⟨by rfl, ?_⟩) hSS ?_
              (focus (intro w' hw'; have hb1 := HCELL.out w' hw'; obtain ⟨hb1, hb2, hb3, hb4⟩ := hb1; first | (go_simp; done) | (go_simp; simp [qx0, qx1, qx2]; done)))
              simp only [Act.put, List.setIfInBounds_toArray, List.set_cons_zero, List.set_cons_succ]
              refine take_d (i := 9) 59 (.int .i64 (b.length : Int)) rfl rfl (by kernel_rfl) (by kernel_rfl) (by kernel_rfl) (fun _ _ _ h => h) (Or.inl ⟨by rfl, ?_⟩) hSS ?_
              (focus (intro w' hw'; have hb1 := HCELL.out w' hw'; obtain ⟨hb1, hb2, hb3, hb4⟩ := hb1; first | (go_simp; done) | (go_simp; simp [qx0, qx1, qx2]; done)))
              simp only [Act.put, List.setIfInBounds_toArray, List.set_cons_zero, List.set_cons_succ]
              refine take_d (i := 10) 60 (.bool false) rfl rfl (by kernel_rfl) (by kernel_rfl) (by kernel_rfl) (fun _ _ _ h => h) (Or.inl ⟨by rfl, ?_⟩) hSS ?_
              (focus (intro w' hw'; have hb1 := HCELL.out w' hw'; obtain ⟨hb1, hb2, hb3, hb4⟩ := hb1; first | (go_simp; done) | (go_simp; simp [qx0, qx1, qx2]; done)))
              simp only [Act.put, List.setIfInBounds_toArray, List.set_cons_zero, List.set_cons_succ]
              refine take_d (i := 11) 61 (.bool false) rfl rfl (by kernel_rfl) (by kernel_rfl) (by kernel_rfl) (fun _ _ _ h => h) (Or.inl ⟨by rfl, ?_⟩) hSS ?_
              (focus (intro w' hw'; have hb1 := HCELL.out w' hw'; obtain ⟨hb1, hb2, hb3, hb4⟩ := hb1; first | (go_simp; done) | (go_simp; simp [qx0, qx1, qx2]; done)))
              simp only [Act.put, List.setIfInBounds_toArray, List.set_cons_zero, List.set_cons_succ]
              refine take_d (i := 12) 62 (.bool false) rfl rfl (by kernel_rfl) (by kernel_rfl) (by kernel_rfl) (fun _ _ _ h => h) (Or.inl ⟨by rfl, ?_⟩) hSS ?_
              (focus (intro w' hw'; have hb1 := HCELL.out w' hw'; obtain ⟨hb1, hb2, hb3, hb4⟩ := hb1; first | (go_simp; done) | (go_simp; simp [qx0, qx1, qx2]; done)))
              simp only [Act.put, List.setIfInBounds_toArray, List.set_cons_zero, List.set_cons_succ]
              refine take_d (i := 13) 63 (undef) rfl rfl (by kernel_rfl) (by kernel_rfl) (by kernel_rfl) (fun _ _ _ h => h) (Or.inr ⟨by rfl, rfl⟩) hSS ?_
              simp only [Act.put, List.setIfInBounds_toArray, List.set_cons_zero, List.set_cons_succ]
              refine take_d (i := 14) 64 (undef) rfl rfl (by kernel_rfl) (by kernel_rfl) (by kernel_rfl) (fun _ _ _ h => h) (Or.inr ⟨by rfl, rfl⟩) hSS ?_
              simp only [Act.put, List.setIfInBounds_toArray, List.set_cons_zero, List.set_cons_succ]
              refine take_d (i := 15) 65 (undef) rfl rfl (by kernel_rfl) (by kernel_rfl) (by kernel_rfl) (fun _ _ _ h => h) (Or.inr ⟨by rfl, rfl⟩) hSS ?_
              simp only [Act.put, List.setIfInBounds_toArray, List.set_cons_zero, List.set_cons_succ]
              refine take_d (i := 16) 66 (undef) rfl rfl (by kernel_rfl) (by kernel_rfl) (by kernel_rfl) (fun _ _ _ h => h) (Or.inr ⟨by rfl, rfl⟩) hSS ?_
              simp only [Act.put, List.setIfInBounds_toArray, List.set_cons_zero, List.set_cons_succ]
              refine take_d (i := 17) 67 (undef) rfl rfl (by kernel_rfl) (by kernel_rfl) (by kernel_rfl) (fun _ _ _ h => h) (Or.inr ⟨by rfl, rfl⟩) hSS ?_
              simp only [Act.put, List.setIfInBounds_toArray, List.set_cons_zero, List.set_cons_succ]
              refine take_d (i := 18) 68 (undef) rfl rfl (by kernel_rfl) (by kernel_rfl) (by kernel_rfl) (fun _ _ _ h => h) (Or.inr ⟨by rfl, rfl⟩) hSS ?_
              simp only [Act.put, List.setIfInBounds_toArray, List.set_cons_zero, List.set_cons_succ]
              refine take_d (i := 19) 69 (undef) rfl rfl (by kernel_rfl) (by kernel_rfl) (by kernel_rfl) (fun _ _ _ h => h) (Or.inr ⟨by rfl, rfl⟩) hSS ?_
              simp only [Act.put, List.setIfInBounds_toArray, List.set_cons_zero, List.set_cons_succ]
              refine take_d (i := 20) 70 (undef) rfl rfl (by kernel_rfl) (by kernel_rfl) (by kernel_rfl) (fun _ _ _ h => h) (Or.inr ⟨by rfl, rfl⟩) hSS ?_
              simp only [Act.put, List.setIfInBounds_toArray, List.set_cons_zero, List.set_cons_succ]
              refine take_d (i := 21) 71 (.bool false) rfl rfl (by kernel_rfl) (by kernel_rfl) (by kernel_rfl) (fun _ _ _ h => h) (Or.inl ⟨by rfl, ?_⟩) hSS ?_
              (focus (intro w' hw'; have hb1 := HCELL.out w' hw'; obtain ⟨hb1, hb2, hb3, hb4⟩ := hb1; first | (go_simp; done) | (go_simp; simp [qx0, qx1, qx2]; done)))
              simp only [Act.put, List.setIfInBounds_toArray, List.set_cons_zero, List.set_cons_succ]
              obtain ⟨W, HWE⟩ : ∃ W, W = w9.drew := ⟨_, rfl⟩
              have HWS := HSJ.out.drew
              rw [← HWE] at HWS hSS ⊢
              clear HWE
              have q0 : W.cell? ⟨w.heap.size, 0, none⟩ = some (.int .i64 0) := HWS.cell 3 rfl (List.mem_singleton.2 rfl) 0
              have q1 : W.cell? ⟨w.heap.size, 1, none⟩ = some (.slice none 0 0) := HWS.cell 3 rfl (List.mem_singleton.2 rfl) 1
              have q2 : W.cell? ⟨w.heap.size, 2, none⟩ = some (.int .i64 0) := HWS.cell 3 rfl (List.mem_singleton.2 rfl) 2
              have z0 : W.frozen? ⟨w.heap.size, 0, none⟩ = false := HWS.free 3 rfl (List.mem_singleton.2 rfl) 0
              have z1 : W.frozen? ⟨w.heap.size, 1, none⟩ = false := HWS.free 3 rfl (List.mem_singleton.2 rfl) 1
              have z2 : W.frozen? ⟨w.heap.size, 2, none⟩ = false := HWS.free 3 rfl (List.mem_singleton.2 rfl) 2
              refine wpAnyH_ready (rs := [22]) (by kernel_rfl) (by simp) (AllReadyH.cons rfl (fun K2 hK2 => ?_) AllReadyH.nil)
              rw [if_pos (by rfl)]
              go_simp
              have hT := ((HWS.store 3 rfl 0 (.int .i64 (size : Int))).store 3 rfl 1 (.slice aop ls.length capp)).store 3 rfl 2 (.int .i64 (A : Int))
              have HT := Lib.hid hT
              refine hK2.out _ _ ⟨hT.cell 1 rfl (List.mem_singleton.2 rfl) 0, hT.cell 1 rfl (List.mem_singleton.2 rfl) 1, hT.cell 1 rfl (List.mem_singleton.2 rfl) 2, hT.cell 0 rfl (List.mem_singleton.2 rfl) 1⟩ (fun hSS => ?_)
              clear q0 q1 q2 z0 z1 z2 hT
              refine wpAnyH_ready (rs := [23]) (by kernel_rfl) (by simp) (AllReadyH.cons rfl (fun K3 hK3 => ?_) AllReadyH.nil)
              rw [if_pos (by rfl)]
              go_simp
              refine hK3.out _ _ hSS (fun _ => ?_)
              refine wpAnyH_done (by kernel_rfl) ?_ _
              go_wp2_with fail
              ((try simp only [Exit.inBlock, Exit.then]); refine bodyPost_ret (results_cell_two rfl _ _ _ _ _ 3 rfl HT.out rfl Try.underlying82 rfl h63) rfl ?_)
              exact .inr ⟨_, _, _, _, _, rfl, HT.out.pick [] (by decide) [] rfl, fun ⟨s, l, a, hp⟩ => by have h1 := HN.out s l a hp; obtain ⟨x, k, _, g2, _, _, g5, _⟩ := hp; rw [h1.2.2.1, h1.2.2.2, ← HA.out] at g5; exact HQ.out g5⟩
        | succ m =>
          have hr0 : 0 < rs.length := by omega
          have hr0i : (0 : Int) < (rs.length : Int) := by omega
          have hAb : A ≤ b.length := by
            rcases HBD.out.2 with e | e
            · rw [HA.out, e]; have := HAT.out.1; simp; omega
            · exact e
          have hrln : rs.length ≤ 1000000 := by omega
          have hS2 := HS.out.2.2
          have hpr2 := HS.out.2.1
          have hlsl : ls.length ≤ 1000000 := by omega
          clear k80 k82 f82
          go_wp2_with ((at_builtin; (refine wpList_app1 2 80 i0 (.int .i64 0) _ _ _ rfl rfl rfl rfl Try.underlying80 i0a i0b i0c i0d rfl hS2 rfl hpr2 rfl ?_ ?_ ?_); (unfold maxLen; omega); omega; intro v4 c4 w4 hr4 hS4); (obtain ⟨ao4, cap4, rfl⟩ := hr4.shape); have m81 : w4.cell? ⟨w2.heap.size, 1, none⟩ = some (.slice aop ls.length capp) := hS4.cell 1 rfl (List.mem_singleton.2 rfl) 1; have n81 : w4.frozen? ⟨w2.heap.size, 1, none⟩ = false := hS4.free 1 rfl (List.mem_singleton.2 rfl) 1; have H4 := Lib.hid (And.intro hr4 hS4); clear hS2 hpr2 hr4 hS4 k81 d0 d1)
          have hS5 := H4.out.2.store 1 rfl 1 (.slice ao4 (ls.length + 1) cap4)
          refine (rnum_any w1.heap.size _ bd rs 1099511627776 (by decide) (fun e => (HBD.out.1 e).1) HS.out.1 hS5 hrln).mono ?_
          clear m81 n81 hS5
          rintro e w6 (⟨hnone, rfl, hS6⟩ | ⟨n, k', sv6, hsome, rfl, hrd6, hS6⟩)
          · obtain ⟨d0, d1, g0, g1⟩ := rdr_cells hS6
            have HWS := Lib.hid (HJ.out.join hS6)
            have q0 : w6.cell? ⟨w.heap.size, 0, none⟩ = some (.int .i64 0) := HWS.out.cell 3 rfl (List.mem_singleton.2 rfl) 0
            have q1 : w6.cell? ⟨w.heap.size, 1, none⟩ = some (.slice none 0 0) := HWS.out.cell 3 rfl (List.mem_singleton.2 rfl) 1
            have q2 : w6.cell? ⟨w.heap.size, 2, none⟩ = some (.int .i64 0) := HWS.out.cell 3 rfl (List.mem_singleton.2 rfl) 2
            have z0 : w6.frozen? ⟨w.heap.size, 0, none⟩ = false := HWS.out.free 3 rfl (List.mem_singleton.2 rfl) 0
            have z1 : w6.frozen? ⟨w.heap.size, 1, none⟩ = false := HWS.out.free 3 rfl (List.mem_singleton.2 rfl) 1
            have z2 : w6.frozen? ⟨w.heap.size, 2, none⟩ = false := HWS.out.free 3 rfl (List.mem_singleton.2 rfl) 2
            have HNO := Lib.hid hnone
            clear hnone hS6 g0 g1
            go_wp2_with fail
            have HT := ((HWS.out.store 3 rfl 0 (.int .i64 0)).store 3 rfl 1 (.slice none 0 0)).store 3 rfl 2 (.int .i64 0)
            ((try simp only [Exit.inBlock, Exit.then]); refine bodyPost_ret (results_cell_two rfl _ _ _ _ _ 3 rfl HT rfl Try.underlying82 rfl h63) rfl ?_)
            refine .inr ⟨_, _, _, _, _, rfl, HT.pick [] (by decide) [] rfl, fun ⟨s, l, a, hp⟩ => ?_⟩
            obtain ⟨e1, e2, e3, e4⟩ := HB2.out s l a hp
            obtain ⟨e5, Z, e6, e7⟩ := HC2.out l e4 e1
            cases Z with
            | nil => have e8 : rs = [] := e7; rw [e8] at hr0; simp at hr0
            | cons z Z =>
              obtain ⟨_, k9, e9, _⟩ := e7
              rw [HNO.out] at e9
              cases e9
          · obtain ⟨d0, d1, g0, g1⟩ := rdr_cells hS6
            have hnl := rdN_le hsome
            have hkp := rdN_pos hsome
            have hwA : IntKind.i64.wrap ((A : Int) + (n : Int)) = (A : Int) + (n : Int) := IntWalk.i64_in _ (by omega)
            have HSM := Lib.hid (And.intro hsome (And.intro hrd6 hS6))
            have HWS := Lib.hid (HJ.out.join hS6)
            by_cases qb : b.length < A + n
            · have qbi : (b.length : Int) < (A : Int) + (n : Int) := by omega
              have HQB := Lib.hid qb
              have q0 : w6.cell? ⟨w.heap.size, 0, none⟩ = some (.int .i64 0) := HWS.out.cell 3 rfl (List.mem_singleton.2 rfl) 0
              have q1 : w6.cell? ⟨w.heap.size, 1, none⟩ = some (.slice none 0 0) := HWS.out.cell 3 rfl (List.mem_singleton.2 rfl) 1
              have q2 : w6.cell? ⟨w.heap.size, 2, none⟩ = some (.int .i64 0) := HWS.out.cell 3 rfl (List.mem_singleton.2 rfl) 2
              have z0 : w6.frozen? ⟨w.heap.size, 0, none⟩ = false := HWS.out.free 3 rfl (List.mem_singleton.2 rfl) 0
              have z1 : w6.frozen? ⟨w.heap.size, 1, none⟩ = false := HWS.out.free 3 rfl (List.mem_singleton.2 rfl) 1
              have z2 : w6.frozen? ⟨w.heap.size, 2, none⟩ = false := HWS.out.free 3 rfl (List.mem_singleton.2 rfl) 2
              clear hsome hrd6 hS6 g0 g1 qb
              go_wp2_with fail
              have HT := ((HWS.out.store 3 rfl 0 (.int .i64 0)).store 3 rfl 1 (.slice none 0 0)).store 3 rfl 2 (.int .i64 0)
              ((try simp only [Exit.inBlock, Exit.then]); refine bodyPost_ret (results_cell_two rfl _ _ _ _ _ 3 rfl HT rfl Try.underlying82 rfl h63) rfl ?_)
              refine .inr ⟨_, _, _, _, _, rfl, HT.pick [] (by decide) [] rfl, fun ⟨s, l, a, hp⟩ => ?_⟩
              obtain ⟨e1, e2, e3, e4⟩ := HB2.out s l a hp
              obtain ⟨e5, Z, e6, e7⟩ := HC2.out l e4 e1
              cases Z with
              | nil => have e8 : rs = [] := e7; rw [e8] at hr0; simp at hr0
              | cons z Z =>
                obtain ⟨_, k9, e9, _⟩ := e7
                rw [HSM.out.1] at e9
                injection e9 with e9
                injection e9 with e9 _
                obtain ⟨x, k, _, g2, _, _, g5, _⟩ := hp
                have h1 := HQB.out
                have h2 := HA.out
                have h3 := HAT.out.1
                rw [e6, List.sum_append, List.sum_cons, ← e9] at g5
                omega
            · have qbi : ¬ (b.length : Int) < (A : Int) + (n : Int) := by omega
              have HQB := Lib.hid qb
              clear hsome hrd6 hS6 g0 g1 qb
              go_wp2_with fail
              go_roundg ((rs.drop k').length)
              case measure => rw [List.length_drop]; omega
              case rel =>
                have hsn : at0 + (ls ++ [n]).sum = A + n := by rw [List.sum_append, HA.out]; simp; omega
                refine ⟨rs.drop k', false, sv6, ls ++ [n], _, c4, rfl, ?_, HSM.out.2.1, (fun e => by cases e), ?_, ?_, HSM.out.2.2, .inr ?_, Lib.hid fun _ => ?_, Lib.hid fun Y hY hbf => ?_⟩
                · rw [hsn]; push_cast; rfl
                · rw [List.length_append, List.length_drop, List.length_singleton]; omega
                · have h4 := H4.out.1
                  rw [placesP_snoc, iv_append, List.length_append, List.length_singleton, ← HA.out]
                  exact h4
                · rw [hsn]; have := HQB.out; omega
                · have hbd : bd = false := by
                    cases bd with
                    | false => rfl
                    | true => have := (HBD.out.1 rfl).1; rw [this] at hr0; simp at hr0
                  obtain ⟨e1, e2⟩ := HC1.out hbd
                  refine ⟨e1, fun Y hY => ?_⟩
                  rw [List.append_assoc, List.singleton_append]
                  exact e2 _ ⟨fun e => by rw [e] at hr0; simp at hr0, k', HSM.out.1, hY⟩
                · obtain ⟨e5, Z, e6, e7⟩ := HC2.out Y hY hbf
                  refine ⟨rfl, ?_⟩
                  cases Z with
                  | nil => have e8 : rs = [] := e7; rw [e8] at hr0; simp at hr0
                  | cons z Z =>
                    obtain ⟨_, k9, e9, e10⟩ := e7
                    rw [HSM.out.1] at e9
                    injection e9 with e9
                    injection e9 with e9 e11
                    subst e9 e11
                    exact ⟨Z, by rw [e6, List.append_assoc, List.singleton_append], e10⟩
    case inr =>
      rw [hn0] at hsome
      cases hsome
end Go.Proofs.Ythgbkncanoknkaa

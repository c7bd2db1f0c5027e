/-
  Texts joined: SegO, SegG, SegF, PureSeg, SegLaw, Short, OpenB, OpenRec, SegHelp.
-/
import Derived.Test.YthgbkncanoknkaaSg11
import Derived.Test.YthgbkncanoknkaaSg1
import Derived.Test.YthgbkncanoknkaaSg4
import Derived.Deep.RegionHeld
import Derived.Test.YthgbkncanoknkaaSg8
import Derived.WalkKit
import Derived.ProofKit
import Derived.OpenShut
import Derived.SizedLaws
import Derived.ChangeSlices
import Derived.Test.YthgbkncanoknkaaSg9
import Derived.Lib.SmallJoins
import Derived.BigRegion
/-
  Contract of sealed.Open.
-/
set_option linter.unusedVariables false
set_option linter.unusedSimpArgs false
namespace Go.Proofs.Ythgbkncanoknkaa
open Go.RowKit
set_option maxRecDepth 100000
def SOpenOut (b : List UInt8) (w : World) (e : Ending) (w' : World) : Prop :=
  Below w.heap.size w w' ∧ ((∃ es pk p, SegR b es pk ∧ e = .returned (.tuple #[.pointer (some ⟨p, 0, none⟩), .int .i64 0]) ∧ SegIn w' p es pk) ∨
  ((¬ ∃ es pk, SegR b es pk) ∧ e = .returned (.tuple #[.pointer none, .int .i64 6])))
theorem infoPL : (Try.prog.info? 68).map (fun i => (i.zero, i.size, i.bytes)) = some (some (.agg #[.int .i64 0, .int .i64 0, .string ⟨#[]⟩, .string ⟨#[]⟩, .int .i64 0, .int .i64 0]), 6, 64) := by kernel_rfl
set_option maxHeartbeats 4000000 in
theorem sopen_any (v : Value) (b : List UInt8) (w : World) (h : Rd w 1 v b.length (bv b)) (hn : b.length ≤ 1000000) : Calls Try.prog 14 #[v] w (SOpenOut b w) := by
  obtain ⟨i0, i0a, i0b, i0c, i0d⟩ := info_parts infoU8
  obtain ⟨j0, j0a, j0b, j0c, j0d⟩ := info_parts infoPL
  obtain ⟨ao, cap, rfl⟩ := h.shape
  have H0 := Lib.hid h
  obtain ⟨hcp1, hcp2⟩ := h.cap
  clear h
  go_enter Try.func14, Try.ntmps14
  go_wp2_with fail
  refine (crcfirst_any _ b w H0.out hn).mono ?_
  rintro e w1 (⟨h, v1, c1, hf, rfl, hr1, hS1⟩ | ⟨hf, q, rfl, hS1⟩)
  · have hh := firstP_len hf
    obtain ⟨n, hn1, hn2⟩ : ∃ n : Nat, 12 + h.length = n ∧ 12 ≤ n ∧ n ≤ b.length := ⟨_, rfl, by omega, by omega⟩
    have HF := Lib.hid (And.intro hf hn1)
    rw [hn1]
    have hne : ((n : Int) == 0) = false := by rw [beq_eq_false_iff_ne]; omega
    have hnl' : n ≤ b.length := by omega
    have hnl : (n : Int) ≤ (b.length : Int) := by omega
    have hnc : (n : Int) ≤ (cap : Int) := by omega
    have hhl : h.length ≤ 1000000 := by omega
    obtain ⟨ad, rfl⟩ : ∃ ad, ao = some ad := by
      cases ao with
      | none => have := H0.out.none_iff; omega
      | some ad => exact ⟨ad, rfl⟩
    have HRD := Lib.hid (hr1.rd hS1 0 rfl)
    have HS1 := Lib.hid hS1
    clear hf hn1 hS1
    obtain ⟨ao1, cap1, rfl⟩ := hr1.shape
    have hSr : St w1.heap.size w1 (w1.alloc (.cells #[.slice ao1 h.length cap1, .bool false] 61 (0, 0))) (rdrC w1.heap.size (.slice ao1 h.length cap1) false :: []) := (St.init w1).alloc _
    clear hr1
    obtain ⟨aor, har⟩ : ∃ aor, (¬ cap = n → aor = some (ad.add n)) ∧ (cap = n → aor = some ad) := by
      by_cases e : cap = n
      · exact ⟨_, fun h => absurd e h, fun _ => rfl⟩
      · exact ⟨_, fun _ => rfl, fun h => absurd h e⟩
    have hSe : St w1.heap.size w1 ((w1.alloc (.cells #[.slice ao1 h.length cap1, .bool false] 61 (0, 0))).alloc (.cells #[] 5 (0, 0))) [[(w1.heap.size + 1, .cells #[] 5 (0, 0))], rdrC w1.heap.size (.slice ao1 h.length cap1) false] := by
      have := hSr.alloc (.cells #[] 5 (0, 0))
      rwa [show (w1.alloc (.cells #[.slice ao1 h.length cap1, .bool false] 61 (0, 0))).heap.size = w1.heap.size + 1 from by simp] at this
    have hre : RowC 5 1 (.slice (some ⟨w1.heap.size + 1, 0, none⟩) 0 0) 0 [] [(w1.heap.size + 1, .cells #[] 5 (0, 0))] := RowC.fresh _ [] rfl (Nat.le_refl _) (Nat.zero_le _) rfl rfl
    obtain ⟨w2, HW2⟩ : ∃ w2, Hid (w2 = (w1.alloc (.cells #[.slice ao1 h.length cap1, .bool false] 61 (0, 0))).alloc (.cells #[] 5 (0, 0))) := ⟨_, Lib.hid rfl⟩
    have hrest : Rd w1 1 (.slice aor (b.length - n) (cap - n)) (b.length - n) (bv (b.drop n)) := by
      have := H0.out.drop (ao' := aor) n hnl' (fun e => by rw [har.1 e, Nat.mul_one]; rfl) har.2
      rw [bv_drop]
      exact this.keep HS1.out.below
    have hre2 := hrest.st hSe
    have HRE := Lib.hid (And.intro hrest har)
    clear hSr hrest har
    by_cases qc : cap = n
    case' pos =>
      obtain rfl := HRE.out.2.2 qc
      rw [show cap - n = 0 from by omega] at hre2
    case' neg =>
      obtain rfl := HRE.out.2.1 qc
    all_goals
      go_wp2_with ((at_builtin; (refine wpList_app 0 29 i0 (.int .u8 0) _ _ rfl rfl rfl rfl Try.underlying29 i0a i0b i0c i0d rfl (by decide) hSe rfl hre hre2 (bv_one _) ?_ ?_ ?_); (unfold maxLen; omega); omega; intro v5 c5 w5 hr5 hS5); (obtain ⟨aop, capp, rfl⟩ := hr5.shape); have H5 := Lib.hid (And.intro hr5 hS5); clear hSe hre hre2 hr5 hS5)
      obtain ⟨w6, HW6⟩ : ∃ w6, Hid (w6 = w5.alloc (.cells #[.slice none 0 0, .slice aop (b.length - n) capp] 64 (0, 0))) := ⟨_, Lib.hid rfl⟩
      have HS6 : Hid (St w1.heap.size w1 w6 [rdrC w1.heap.size (.slice ao1 h.length cap1) false, [(w5.heap.size, .cells #[.slice none 0 0, .slice aop (b.length - n) capp] 64 (0, 0))], [], c5]) := Lib.hid (by
        rw [HW6.out]
        exact ((H5.out.2.alloc (.cells #[.slice none 0 0, .slice aop (b.length - n) capp] 64 (0, 0))).one_nil).pick [3, 1, 0, 2] (by decide) _ rfl)
      rw [← HW6.out]
      refine (rnum_any w1.heap.size _ false h 1073741824 (by decide) (fun h => by cases h) HRD.out HS6.out (by omega)).mono ?_
      intro e w7 hN
      obtain ⟨bad, K, rest, sv7, rfl, hrd7, hS7, hKm, hrl, hbad, HNF⟩ := hN.form
      have H7 := Lib.hid (And.intro hrd7 (And.intro hS7 hbad))
      have HSG : Hid (∀ es pk, SegR b es pk → bad = false ∧ es.length = K ∧ EntsR rest es) := Lib.hid (by
        rintro es pk ⟨x, k, g1, g2, g3, _⟩
        rw [HF.out.1] at g1
        cases g1
        rcases HNF.out with ⟨_, _, _, e1⟩ | ⟨e1, k', e2, e3, _⟩
        · rw [e1] at g2; cases g2
        · rw [e2] at g2
          injection g2 with g2
          injection g2 with g4 g5
          subst g5
          exact ⟨e1, g4.symm, by rw [e3]; exact g3⟩)
      have HSO : Hid (∀ es, bad = false → es.length = K → EntsR rest es → SegR b es (b.drop n)) := Lib.hid (by
        intro es e0 e1 e2
        rcases HNF.out with ⟨e3, _⟩ | ⟨_, k', e4, e5, _⟩
        · rw [e0] at e3; cases e3
        · exact ⟨h, k', HF.out.1, by rw [e1]; exact e4, by rw [← e5]; exact e2, by rw [HF.out.2]⟩)
      have HB : Hid (∀ (wz : World) (F : List HL), St w1.heap.size w1 wz F → Below w.heap.size w wz) := Lib.hid (fun wz F hF => (HS1.out.join hF).below)
      have hrl2 : rest.length ≤ 1000000 := by omega
      clear hN hrd7 hS7 hbad hrl
      go_wp2_with fail
      go_loopg [9, 10] rest.length (fun gf s9 s10 wr => ∃ (rs : List UInt8) (bd : Bool) (kk : Nat) (es : List Ent) (sv lv : Value) (cl : List (Nat × Obj)), rs.length = gf ∧ s9 = .int .i64 (sizesP es : Int) ∧ s10 = .int .i64 (kk : Int) ∧ kk ≤ 1073741824 ∧ Hid (es.length + kk = K) ∧ es.length + rs.length ≤ 1000000 ∧ sizesP es ≤ 4000 * es.length ∧
        Hid (Rd w1 1 sv rs.length (bv rs) ∧ RowC 68 6 lv es.length (pls es) cl ∧ St w1.heap.size w1 wr [rdrC w1.heap.size sv bd, [(w5.heap.size, .cells #[lv, .slice aop (b.length - n) capp] 64 (0, 0))], cl, c5]) ∧ Hid (bd = true → rs = []) ∧
        Hid (bd = false → bad = false ∧ ∀ Y, EntsR rs Y → EntsR rest (es ++ Y)) ∧ Hid (∀ Y, bad = false → EntsR rest Y → Y.length = K → bd = false ∧ ∃ Z, Y = es ++ Z ∧ EntsR rs Z))
      case atStart =>
        exact ⟨rest, bad, K, [], sv7, .slice none 0 0, [], rfl, rfl, rfl, hKm, Lib.hid (by simp), by simpa using hrl2, by simp [sizesP], Lib.hid ⟨H7.out.1, RowC.nil _ _, H7.out.2.1⟩, Lib.hid H7.out.2.2, Lib.hid fun e => ⟨e, fun Y h => h⟩, Lib.hid fun Y e h _ => ⟨e, Y, rfl, h⟩⟩
      case round =>
        obtain ⟨rs, bd, kk, es, sv, lv, cl, hgf, rfl, rfl, hkm, HK, hll, hsz, HS, HBD, HC1, HC2⟩ := hrel
        obtain ⟨fr, HFR⟩ : ∃ fr, Hid (fr = sizesP es) := ⟨_, Lib.hid rfl⟩
        rw [← HFR.out] at hsz ⊢
        obtain ⟨d0, d1, _, _⟩ := rdr_cells HS.out.2.2
        by_cases q0 : kk = 0
        · have hk1 : ¬ (0 : Int) < (kk : Int) := by omega
          have hk2 : decide ((0 : Int) < (kk : Int)) = false := by rw [decide_eq_false_iff_not]; exact hk1
          go_wp2_with fail
          refine (rdone_any w1.heap.size _ bd rs HS.out.1 HS.out.2.2).mono ?_
          rintro e w9 ⟨rfl, rfl⟩
          cases bd with
          | true =>
            go_wp2_with fail
            go_ret2
            refine ⟨HB.out _ _ HS.out.2.2, .inr ⟨?_, rfl⟩⟩
            rintro ⟨es', pk', hseg⟩
            obtain ⟨e1, e2, e3⟩ := HSG.out _ _ hseg
            have e4 := (HC2.out es' e1 e3 e2).1
            cases e4
          | false =>
            cases rs with
            | cons x rs =>
              go_wp2_with fail
              go_ret2
              refine ⟨HB.out _ _ HS.out.2.2, .inr ⟨?_, rfl⟩⟩
              rintro ⟨es', pk', hseg⟩
              obtain ⟨e1, e2, e3⟩ := HSG.out _ _ hseg
              obtain ⟨_, Z, e5, e6⟩ := HC2.out es' e1 e3 e2
              have e7 : Z = [] := by
                have h1 := congrArg List.length e5
                rw [List.length_append, e2] at h1
                have h2 := HK.out
                have h3 := q0
                exact List.eq_nil_of_length_eq_zero (by omega)
              subst e7
              have e8 : x :: rs = [] := e6
              cases e8
            | nil =>
              go_wp2_with fail
              go_ret2
              refine ⟨HB.out _ _ HS.out.2.2, .inl ⟨es, b.drop n, w5.heap.size, ?_, rfl, ?_⟩⟩
              · obtain ⟨e1, e2⟩ := HC1.out (by first | trivial | rfl)
                have e3 := e2 [] rfl
                rw [List.append_nil] at e3
                refine HSO.out es e1 (by have := HK.out; omega) e3
              · have hS := HS.out.2.2
                refine ⟨_, _, hS.cell 1 rfl (List.mem_singleton.2 rfl) 0, hS.cell 1 rfl (List.mem_singleton.2 rfl) 1, HS.out.2.1.rd hS 2 rfl, ?_⟩
                have h1 := H5.out.1.rd hS 3 rfl
                rw [List.length_drop, ← Nat.zero_add (b.length - n)]
                simpa using h1
        · have hk1 : (0 : Int) < (kk : Int) := by omega
          cases bd with
          | true =>
            go_wp2_with fail
            refine (rdone_any w1.heap.size _ true rs HS.out.1 HS.out.2.2).mono ?_
            rintro e w9 ⟨rfl, rfl⟩
            go_wp2_with fail
            go_ret2
            refine ⟨HB.out _ _ HS.out.2.2, .inr ⟨?_, rfl⟩⟩
            rintro ⟨es', pk', hseg⟩
            obtain ⟨e1, e2, e3⟩ := HSG.out _ _ hseg
            have e4 := (HC2.out es' e1 e3 e2).1
            cases e4
          | false =>
            go_wp2_with fail
            refine (rnum_any w1.heap.size _ false rs 1 (by decide) (fun e => by cases e) HS.out.1 HS.out.2.2 (by omega)).mono ?_
            intro e wa hNa
            obtain ⟨ba, na, ra, sva, rfl, hrda, hSa, hna1, hral, hba, HNA⟩ := hNa.form
            have HA := Lib.hid (And.intro hrda (And.intro hSa hba))
            clear hNa hrda hSa hba d0 d1
            go_wp2_with fail
            refine (rnum_any w1.heap.size _ ba ra 1125899906842624 (by decide) HA.out.2.2 HA.out.1 HA.out.2.1 (by omega)).mono ?_
            intro e wb hNb
            obtain ⟨bb, nb, rb, svb, rfl, hrdb, hSb, hnb1, hrbl, hbb, HNB⟩ := hNb.form
            have HA := Lib.hid (And.intro hrdb (And.intro hSb hbb))
            clear hNb hrdb hSb hbb
            go_wp2_with fail
            refine (rtext_any w1.heap.size _ bb rb HA.out.2.2 HA.out.1 HA.out.2.1 (by omega)).mono ?_
            intro e wc hNc
            obtain ⟨bc, key, rc, svc, rfl, hrdc, hSc, hrcl, hbc, HNC⟩ := hNc.form
            obtain ⟨E, HE⟩ : ∃ E : Rec, Hid (E = ⟨(na : Int), (nb : Int), key, []⟩) := ⟨_, Lib.hid rfl⟩
            obtain ⟨wd, HWD⟩ : ∃ wd, Hid (wd = wc.alloc (.cells #[.int .i64 (na : Int), .int .i64 (nb : Int), .string ⟨key.toArray⟩, .string ⟨#[]⟩] 26)) := ⟨_, Lib.hid rfl⟩
            have HA : Hid (Rd w1 1 svc rc.length (bv rc) ∧ St w1.heap.size w1 wd [rdrC w1.heap.size svc bc, [(w5.heap.size, .cells #[lv, .slice aop (b.length - n) capp] 64 (0, 0))], cl, c5, recO wc.heap.size E] ∧ (bc = true → rc = [])) := Lib.hid ⟨hrdc, by
              rw [HWD.out, HE.out]
              exact (hSc.alloc (.cells #[.int .i64 (na : Int), .int .i64 (nb : Int), .string ⟨key.toArray⟩, .string ⟨#[]⟩] 26)).pick [1, 2, 3, 4, 0] (by decide) _ rfl, hbc⟩
            clear hNc hrdc hSc hbc
            go_wp2_with fail
            rw [← HWD.out]
            refine (rnum_any w1.heap.size _ bc rc 4000 (by decide) HA.out.2.2 HA.out.1 HA.out.2.1 (by omega)).mono ?_
            intro e we hNd
            obtain ⟨bd, nd, rd, svd, rfl, hrdd, hSd, hnd1, hrdl, hbd, HND⟩ := hNd.form
            have HA := Lib.hid (And.intro hrdd (And.intro hSd hbd))
            have q3 : we.cell? ⟨wc.heap.size, 0, none⟩ = some (.int .i64 (na : Int)) := by have := (recO_cells hSd 4 rfl).1; rw [HE.out] at this; exact this
            have q4 : we.cell? ⟨wc.heap.size, 1, none⟩ = some (.int .i64 (nb : Int)) := by have := (recO_cells hSd 4 rfl).2.1; rw [HE.out] at this; exact this
            have q5 : we.cell? ⟨wc.heap.size, 2, none⟩ = some (.string ⟨key.toArray⟩) := by have := (recO_cells hSd 4 rfl).2.2.1; rw [HE.out] at this; exact this
            have q6 : we.cell? ⟨wc.heap.size, 3, none⟩ = some (.string ⟨#[]⟩) := by have := (recO_cells hSd 4 rfl).2.2.2; rw [HE.out] at this; exact this
            clear hNd hrdd hSd hbd
            go_wp2_with fail
            refine (check_any ⟨(na : Int), (nb : Int), key, []⟩ _).mono ?_
            rintro e wf ⟨rfl, of, rfl⟩
            obtain ⟨ck, HCK⟩ : ∃ ck, Hid (ck = ckR ⟨(na : Int), (nb : Int), key, []⟩) := ⟨_, Lib.hid rfl⟩
            rw [← HCK.out]
            have HSF := Lib.hid (HA.out.2.1.alloc' of)
            obtain ⟨wf, HWF⟩ : ∃ wf, Hid (wf = we.alloc of) := ⟨_, Lib.hid rfl⟩
            rw [← HWF.out] at HSF ⊢
            have r3 : wf.cell? ⟨wc.heap.size, 0, none⟩ = some (.int .i64 (na : Int)) := by have := (recO_cells HSF.out 4 rfl).1; rw [HE.out] at this; exact this
            clear q3 q4 q5 q6
            by_cases qa : ck = 0
            · by_cases qb : na = 0 ∧ 0 < nd
              · have qai : ((ck : Int) != 0) = false := by rw [qa]; rfl
                have qbi : ((na : Int) == 0) = true := by rw [qb.1]; rfl
                have qci : (0 : Int) < (nd : Int) := by omega
                have HQ := Lib.hid qb
                clear qa qb
                go_wp2_with fail
                go_ret2
                refine ⟨HB.out _ _ HSF.out, .inr ⟨?_, rfl⟩⟩
                rintro ⟨es', pk', hseg⟩
                obtain ⟨e1, e2, e3⟩ := HSG.out _ _ hseg
                obtain ⟨_, Z, e5, e6⟩ := HC2.out es' e1 e3 e2
                cases Z with
                | nil =>
                  have h1 := congrArg List.length e5
                  rw [List.length_append, e2] at h1
                  have h2 := HK.out
                  simp at h1
                  omega
                | cons z Z =>
                  obtain ⟨e7, e8, _⟩ := round_ent HNA.out HNB.out HNC.out HND.out e6
                  subst e7
                  obtain ⟨e8, e9⟩ := e8
                  have h1 : ck = 0 := by rw [HCK.out]; exact e8
                  first | exact absurd h1 HQ.out | (have h2 := e9 HQ.out.1; have h3 := HQ.out.2; simp only at h2; omega)
              · have qai : ((ck : Int) != 0) = false := by rw [qa]; rfl
                have HOK : Hid (OkE ⟨na, nb, key, nd⟩) := Lib.hid ⟨by rw [← qa, HCK.out]; rfl, fun e => by simp only at e ⊢; omega⟩
                have hkey : key ≠ [] := (ck_ok.1 (by rw [← HCK.out, qa])).1
                obtain ⟨hlt, HR1, HR2⟩ := round_bad HNA.out HNB.out HNC.out HND.out hkey
                have HR := Lib.hid (And.intro HR1 HR2)
                have HS7 : Hid (RecS wc.heap.size ⟨(na : Int), (nb : Int), key, []⟩ wf.drew) := Lib.hid (by
                  have := recO_cells HSF.out.drew 4 rfl
                  rw [HE.out] at this
                  exact this)
                have HCELL : Hid (∀ w' : World, RecS wc.heap.size ⟨(na : Int), (nb : Int), key, []⟩ w' → w'.cell? ⟨wc.heap.size, 0, none⟩ = some (.int .i64 (na : Int)) ∧ w'.cell? ⟨wc.heap.size, 1, none⟩ = some (.int .i64 (nb : Int)) ∧ w'.cell? ⟨wc.heap.size, 2, none⟩ = some (.string ⟨key.toArray⟩) ∧ w'.cell? ⟨wc.heap.size, 3, none⟩ = some (.string ⟨#[]⟩)) := Lib.hid (fun _ h => h)
                have HROW := Lib.hid HS.out.2.1
                obtain ⟨aol, capl, rfl⟩ := HROW.out.shape
                clear HR1 HR2 hkey
                by_cases qz : na = 0
                case' pos =>
                  have qbi : ((na : Int) == 0) = true := by rw [qz]; rfl
                  have qci : ¬ (0 : Int) < (nd : Int) := by omega
                  have qcd : decide ((0 : Int) < (nd : Int)) = false := by rw [decide_eq_false_iff_not]; exact qci
                  clear qa qb qz
                  go_wp2_with fail
                case' neg =>
                  have qbi : ((na : Int) == 0) = false := by rw [beq_eq_false_iff_ne]; omega
                  clear qa qb qz
                  go_wp2_with fail
                all_goals
                  clear r3
                  refine wp_region_held_drew (S := RecS wc.heap.size ⟨(na : Int), (nb : Int), key, []⟩) mixed HS7.out (fun hSS => ?_)
                  refine take_d (i := 0) 65 (.pointer (some ⟨w5.heap.size, 0, none⟩)) rfl rfl (by kernel_rfl) (by kernel_rfl) (by kernel_rfl) (fun _ _ _ h => h) (Or.inl ⟨by rfl, ?_⟩) hSS ?_
                  (focus (intro w' hw'; have hb1 := HCELL.out w' hw'; obtain ⟨hb1, hb2, hb3, hb4⟩ := hb1; first | (go_simp; done) | (go_simp; simp [qx0, qx1, qx2]; done)))
                  simp only [Act.put, List.setIfInBounds_toArray, List.set_cons_zero, List.set_cons_succ]
                  refine take_d (i := 1) 66 (.pointer (some ⟨w5.heap.size, 0, none⟩)) rfl rfl (by kernel_rfl) (by kernel_rfl) (by kernel_rfl) (fun _ _ _ h => h) (Or.inl ⟨by rfl, ?_⟩) hSS ?_
                  (focus (intro w' hw'; have hb1 := HCELL.out w' hw'; obtain ⟨hb1, hb2, hb3, hb4⟩ := hb1; first | (go_simp; done) | (go_simp; simp [qx0, qx1, qx2]; done)))
                  simp only [Act.put, List.setIfInBounds_toArray, List.set_cons_zero, List.set_cons_succ]
                  refine take_d (i := 2) 67 (.pointer (some ⟨w5.heap.size, 0, none⟩)) rfl rfl (by kernel_rfl) (by kernel_rfl) (by kernel_rfl) (fun _ _ _ h => h) (Or.inl ⟨by rfl, ?_⟩) hSS ?_
                  (focus (intro w' hw'; have hb1 := HCELL.out w' hw'; obtain ⟨hb1, hb2, hb3, hb4⟩ := hb1; first | (go_simp; done) | (go_simp; simp [qx0, qx1, qx2]; done)))
                  simp only [Act.put, List.setIfInBounds_toArray, List.set_cons_zero, List.set_cons_succ]
                  refine take_d (i := 3) 68 (.pointer (some ⟨w5.heap.size, 0, none⟩)) rfl rfl (by kernel_rfl) (by kernel_rfl) (by kernel_rfl) (fun _ _ _ h => h) (Or.inl ⟨by rfl, ?_⟩) hSS ?_
                  (focus (intro w' hw'; have hb1 := HCELL.out w' hw'; obtain ⟨hb1, hb2, hb3, hb4⟩ := hb1; first | (go_simp; done) | (go_simp; simp [qx0, qx1, qx2]; done)))
                  simp only [Act.put, List.setIfInBounds_toArray, List.set_cons_zero, List.set_cons_succ]
                  refine take_d (i := 5) 70 (.agg #[.int .i64 (na : Int), .int .i64 (nb : Int), .string ⟨key.toArray⟩, .string ⟨#[]⟩]) rfl rfl (by kernel_rfl) (by kernel_rfl) (by kernel_rfl) (fun _ _ _ h => h) (Or.inl ⟨by rfl, ?_⟩) hSS ?_
                  (focus (intro w' hw'; have hb1 := HCELL.out w' hw'; obtain ⟨hb1, hb2, hb3, hb4⟩ := hb1; first | (go_simp; done) | (go_simp; simp [qx0, qx1, qx2]; done)))
                  simp only [Act.put, List.setIfInBounds_toArray, List.set_cons_zero, List.set_cons_succ]
                  refine take_d (i := 6) 71 (.int .i64 (fr : Int)) rfl rfl (by kernel_rfl) (by kernel_rfl) (by kernel_rfl) (fun _ _ _ h => h) (Or.inl ⟨by rfl, ?_⟩) hSS ?_
                  (focus (intro w' hw'; have hb1 := HCELL.out w' hw'; obtain ⟨hb1, hb2, hb3, hb4⟩ := hb1; first | (go_simp; done) | (go_simp; simp [qx0, qx1, qx2]; done)))
                  simp only [Act.put, List.setIfInBounds_toArray, List.set_cons_zero, List.set_cons_succ]
                  refine take_d (i := 7) 72 (.int .i64 (nd : Int)) rfl rfl (by kernel_rfl) (by kernel_rfl) (by kernel_rfl) (fun _ _ _ h => h) (Or.inl ⟨by rfl, ?_⟩) hSS ?_
                  (focus (intro w' hw'; have hb1 := HCELL.out w' hw'; obtain ⟨hb1, hb2, hb3, hb4⟩ := hb1; first | (go_simp; done) | (go_simp; simp [qx0, qx1, qx2]; done)))
                  simp only [Act.put, List.setIfInBounds_toArray, List.set_cons_zero, List.set_cons_succ]
                  refine take_d (i := 8) 73 (.agg #[.int .i64 (na : Int), .int .i64 (nb : Int), .string ⟨key.toArray⟩, .string ⟨#[]⟩, .int .i64 (fr : Int), .int .i64 (nd : Int)]) rfl rfl (by kernel_rfl) (by kernel_rfl) (by kernel_rfl) (fun _ _ _ h => h) (Or.inl ⟨by rfl, ?_⟩) hSS ?_
                  (focus (intro w' hw'; have hb1 := HCELL.out w' hw'; obtain ⟨hb1, hb2, hb3, hb4⟩ := hb1; first | (go_simp; done) | (go_simp; simp [qx0, qx1, qx2]; done)))
                  simp only [Act.put, List.setIfInBounds_toArray, List.set_cons_zero, List.set_cons_succ]
                  have hSg := (HSF.out.alloc' (.cells #[.int .i64 (na : Int), .int .i64 (nb : Int), .string ⟨key.toArray⟩, .string ⟨#[]⟩, .int .i64 (fr : Int), .int .i64 (nd : Int)] 68)).drew
                  have HSG2 := Lib.hid hSg
                  have HRG : Hid (Rd (wf.alloc (.cells #[.int .i64 (na : Int), .int .i64 (nb : Int), .string ⟨key.toArray⟩, .string ⟨#[]⟩, .int .i64 (fr : Int), .int .i64 (nd : Int)] 68)).drew 6 (.slice (some ⟨wf.heap.size, 0, none⟩) 1 1) 1 (plC ⟨na, nb, key, nd⟩ fr)) := Lib.hid (Rd.litsN 6 wf.drew #[.int .i64 (na : Int), .int .i64 (nb : Int), .string ⟨key.toArray⟩, .string ⟨#[]⟩, .int .i64 (fr : Int), .int .i64 (nd : Int)] 68 (by decide) rfl (by decide))
                  have k4 : wf.cell? ⟨w5.heap.size, 0, none⟩ = some (.slice aol es.length capl) := HSF.out.cell 1 rfl (List.mem_singleton.2 rfl) 0
                  have k5 : (wf.alloc (.cells #[.int .i64 (na : Int), .int .i64 (nb : Int), .string ⟨key.toArray⟩, .string ⟨#[]⟩, .int .i64 (fr : Int), .int .i64 (nd : Int)] 68)).cell? ⟨w5.heap.size, 0, none⟩ = some (.slice aol es.length capl) := hSg.cell 1 rfl (List.mem_singleton.2 rfl) 0
                  have HSg : Hid (RecS wc.heap.size ⟨(na : Int), (nb : Int), key, []⟩ (wf.alloc (.cells #[.int .i64 (na : Int), .int .i64 (nb : Int), .string ⟨key.toArray⟩, .string ⟨#[]⟩, .int .i64 (fr : Int), .int .i64 (nd : Int)] 68)).drew) := Lib.hid (by
                    have := recO_cells hSg 4 rfl
                    rw [HE.out] at this
                    exact this)
                  clear hSg
                  refine wpAnyH_ready (rs := [4, 9]) (by kernel_rfl) (by simp) (AllReadyH.cons rfl (fun K1 hK1 => ?_) (AllReadyH.cons rfl (fun K1 hK1 => ?_) AllReadyH.nil))
                  · rw [if_pos (by rfl)]
                    go_simp
                    refine hK1.out _ _ hSS (fun hSS => ?_)
                    try simp only [Act.put, List.setIfInBounds_toArray, List.set_cons_zero, List.set_cons_succ]
                    refine wpAnyH_ready (rs := [9]) (by kernel_rfl) (by simp) (AllReadyH.cons rfl (fun K2 hK2 => ?_) AllReadyH.nil)
                    rw [if_pos (by rfl)]
                    go_simp
                    refine hK2.out _ _ HSg.out (fun hSS => ?_)
                    try simp only [Act.put, List.setIfInBounds_toArray, List.set_cons_zero, List.set_cons_succ]
                    clear k4 k5
                    refine wpAnyH_ready (rs := [10]) (by kernel_rfl) (by simp) (AllReadyH.cons rfl (fun K3 hK3 => ?_) AllReadyH.nil)
                    refine step_app (sz := 6) (n := es.length) (m := 1) (xs := pls es) (news := plC ⟨na, nb, key, nd⟩ fr) 2 62 j0 (.agg #[.int .i64 0, .int .i64 0, .string ⟨#[]⟩, .string ⟨#[]⟩, .int .i64 0, .int .i64 0]) _ _ rfl rfl (by rfl) (by rfl) Try.underlying62 j0a j0b j0c j0d rfl (by decide) HSG2.out rfl HROW.out HRG.out (plC_one _ _) (by unfold maxLen; omega) (by omega) (fun v8 c8 w8 hr8 hS8 => ?_)
                    obtain ⟨ao8, cap8, rfl⟩ := hr8.shape
                    have HS8 : Hid (RecS wc.heap.size ⟨(na : Int), (nb : Int), key, []⟩ w8) := Lib.hid (by
                      have := recO_cells hS8 4 rfl
                      rw [HE.out] at this
                      exact this)
                    refine hK3.out _ _ HS8.out (fun hSS => ?_)
                    have s0 : w8.cell? ⟨w5.heap.size, 0, none⟩ = some (.slice aol es.length capl) := hS8.cell 1 rfl (List.mem_singleton.2 rfl) 0
                    have z0 : w8.frozen? ⟨w5.heap.size, 0, none⟩ = false := hS8.free 1 rfl (List.mem_singleton.2 rfl) 0
                    try simp only [Act.put, List.setIfInBounds_toArray, List.set_cons_zero, List.set_cons_succ]
                    refine take_d (i := 11) 76 (.pointer (some ⟨w5.heap.size, 0, none⟩)) rfl rfl (by kernel_rfl) (by kernel_rfl) (by kernel_rfl) (fun _ _ _ h => h) (Or.inl ⟨by rfl, ?_⟩) hSS ?_
                    (focus (intro w' hw'; have hb1 := HCELL.out w' hw'; obtain ⟨hb1, hb2, hb3, hb4⟩ := hb1; first | (go_simp; done) | (go_simp; simp [qx0, qx1, qx2]; done)))
                    simp only [Act.put, List.setIfInBounds_toArray, List.set_cons_zero, List.set_cons_succ]
                    refine take_d (i := 12) 77 (.pointer (some ⟨w5.heap.size, 0, none⟩)) rfl rfl (by kernel_rfl) (by kernel_rfl) (by kernel_rfl) (fun _ _ _ h => h) (Or.inl ⟨by rfl, ?_⟩) hSS ?_
                    (focus (intro w' hw'; have hb1 := HCELL.out w' hw'; obtain ⟨hb1, hb2, hb3, hb4⟩ := hb1; first | (go_simp; done) | (go_simp; simp [qx0, qx1, qx2]; done)))
                    simp only [Act.put, List.setIfInBounds_toArray, List.set_cons_zero, List.set_cons_succ]
                    refine wpAnyH_ready (rs := [13]) (by kernel_rfl) (by simp) (AllReadyH.cons rfl (fun K4 hK4 => ?_) AllReadyH.nil)
                    rw [if_pos (by rfl)]
                    go_simp
                    have hS9 := hS8.store 1 rfl 0 (.slice ao8 (es.length + 1) cap8)
                    have HS9 : Hid (St w1.heap.size w1 (w8.setCell ⟨w5.heap.size, 0, none⟩ (.slice ao8 (es.length + 1) cap8)) [rdrC w1.heap.size svd bd, [(w5.heap.size, .cells #[.slice ao8 (es.length + 1) cap8, .slice aop (b.length - n) capp] 64 (0, 0))], c8, c5]) := Lib.hid (hS9.pick [0, 1, 2, 3] (by decide) _ rfl)
                    refine hK4.out _ _ (by have := recO_cells hS9 4 rfl; rw [HE.out] at this; exact this) (fun _ => ?_)
                    have HR8 : Hid (RowC 68 6 (.slice ao8 (es ++ [(⟨na, nb, key, nd⟩ : Ent)]).length cap8) (es ++ [(⟨na, nb, key, nd⟩ : Ent)]).length (pls (es ++ [(⟨na, nb, key, nd⟩ : Ent)])) c8) := Lib.hid (by
                      rw [← pls_snoc, ← HFR.out, List.length_append, List.length_singleton]
                      exact hr8)
                    clear hr8 hS8 hS9 s0 z0
                    refine wpAnyH_done (by kernel_rfl) ?_ _
                    have hsz2 : IntKind.i64.wrap ((fr : Int) + (nd : Int)) = (fr : Int) + (nd : Int) := IntWalk.i64_in _ (by omega)
                    have hkw : IntKind.i64.wrap ((kk : Int) - 1) = (kk : Int) - 1 := IntWalk.i64_in _ (by omega)
                    go_wp2_with fail
                    go_roundg (rd.length)
                    case measure => omega
                    case rel =>
                      have hss : sizesP (es ++ [⟨na, nb, key, nd⟩]) = fr + nd := by rw [sizesP_snoc, HFR.out]
                      have hsl : (es ++ [(⟨na, nb, key, nd⟩ : Ent)]).length = es.length + 1 := by simp
                      refine ⟨rd, bd, kk - 1, es ++ [⟨na, nb, key, nd⟩], svd, .slice ao8 (es ++ [(⟨na, nb, key, nd⟩ : Ent)]).length cap8, c8, rfl, ?_, ?_, by omega, Lib.hid ?_, ?_, ?_, Lib.hid ⟨HA.out.1, HR8.out, ?_⟩, Lib.hid HA.out.2.2, Lib.hid fun e => ?_, Lib.hid fun Y e1 e2 e3 => ?_⟩
                      · rw [hss]; push_cast; rfl
                      · congr 1; omega
                      · rw [hsl]; have := HK.out; omega
                      · rw [hsl]; omega
                      · rw [hss, hsl]; omega
                      · rw [hsl]; exact HS9.out
                      · obtain ⟨e1, e2⟩ := HC1.out (by first | trivial | rfl)
                        refine ⟨e1, fun Y hY => ?_⟩
                        rw [List.append_assoc, List.singleton_append]
                        obtain ⟨k1, k2, k3, k4, g1, g2, g3, g4, g5⟩ := HR.out.1 e
                        refine e2 _ ⟨k1, k2, k3, k4, g1, g2, g3, g4, HOK.out, ?_⟩
                        rw [← g5]; exact hY
                      · obtain ⟨_, Z, e5, e6⟩ := HC2.out Y e1 e2 e3
                        cases Z with
                        | nil =>
                          have h1 := congrArg List.length e5
                          rw [List.length_append, e3] at h1
                          have h2 := HK.out
                          simp at h1
                          omega
                        | cons z Z =>
                          obtain ⟨e7, _, e8, e9⟩ := round_ent HNA.out HNB.out HNC.out HND.out e6
                          subst e7
                          exact ⟨e8, Z, by rw [e5, List.append_assoc, List.singleton_append], e9⟩
                  · rw [if_pos (by rfl)]
                    go_simp
                    refine hK1.out _ _ HSg.out (fun hSS => ?_)
                    try simp only [Act.put, List.setIfInBounds_toArray, List.set_cons_zero, List.set_cons_succ]
                    refine wpAnyH_ready (rs := [4]) (by kernel_rfl) (by simp) (AllReadyH.cons rfl (fun K2 hK2 => ?_) AllReadyH.nil)
                    rw [if_pos (by rfl)]
                    go_simp
                    refine hK2.out _ _ HSg.out (fun hSS => ?_)
                    try simp only [Act.put, List.setIfInBounds_toArray, List.set_cons_zero, List.set_cons_succ]
                    clear k4 k5
                    refine wpAnyH_ready (rs := [10]) (by kernel_rfl) (by simp) (AllReadyH.cons rfl (fun K3 hK3 => ?_) AllReadyH.nil)
                    refine step_app (sz := 6) (n := es.length) (m := 1) (xs := pls es) (news := plC ⟨na, nb, key, nd⟩ fr) 2 62 j0 (.agg #[.int .i64 0, .int .i64 0, .string ⟨#[]⟩, .string ⟨#[]⟩, .int .i64 0, .int .i64 0]) _ _ rfl rfl (by rfl) (by rfl) Try.underlying62 j0a j0b j0c j0d rfl (by decide) HSG2.out rfl HROW.out HRG.out (plC_one _ _) (by unfold maxLen; omega) (by omega) (fun v8 c8 w8 hr8 hS8 => ?_)
                    obtain ⟨ao8, cap8, rfl⟩ := hr8.shape
                    have HS8 : Hid (RecS wc.heap.size ⟨(na : Int), (nb : Int), key, []⟩ w8) := Lib.hid (by
                      have := recO_cells hS8 4 rfl
                      rw [HE.out] at this
                      exact this)
                    refine hK3.out _ _ HS8.out (fun hSS => ?_)
                    have s0 : w8.cell? ⟨w5.heap.size, 0, none⟩ = some (.slice aol es.length capl) := hS8.cell 1 rfl (List.mem_singleton.2 rfl) 0
                    have z0 : w8.frozen? ⟨w5.heap.size, 0, none⟩ = false := hS8.free 1 rfl (List.mem_singleton.2 rfl) 0
                    try simp only [Act.put, List.setIfInBounds_toArray, List.set_cons_zero, List.set_cons_succ]
                    refine take_d (i := 11) 76 (.pointer (some ⟨w5.heap.size, 0, none⟩)) rfl rfl (by kernel_rfl) (by kernel_rfl) (by kernel_rfl) (fun _ _ _ h => h) (Or.inl ⟨by rfl, ?_⟩) hSS ?_
                    (focus (intro w' hw'; have hb1 := HCELL.out w' hw'; obtain ⟨hb1, hb2, hb3, hb4⟩ := hb1; first | (go_simp; done) | (go_simp; simp [qx0, qx1, qx2]; done)))
                    simp only [Act.put, List.setIfInBounds_toArray, List.set_cons_zero, List.set_cons_succ]
                    refine take_d (i := 12) 77 (.pointer (some ⟨w5.heap.size, 0, none⟩)) rfl rfl (by kernel_rfl) (by kernel_rfl) (by kernel_rfl) (fun _ _ _ h => h) (Or.inl ⟨by rfl, ?_⟩) hSS ?_
                    (focus (intro w' hw'; have hb1 := HCELL.out w' hw'; obtain ⟨hb1, hb2, hb3, hb4⟩ := hb1; first | (go_simp; done) | (go_simp; simp [qx0, qx1, qx2]; done)))
                    simp only [Act.put, List.setIfInBounds_toArray, List.set_cons_zero, List.set_cons_succ]
                    refine wpAnyH_ready (rs := [13]) (by kernel_rfl) (by simp) (AllReadyH.cons rfl (fun K4 hK4 => ?_) AllReadyH.nil)
                    rw [if_pos (by rfl)]
                    go_simp
                    have hS9 := hS8.store 1 rfl 0 (.slice ao8 (es.length + 1) cap8)
                    have HS9 : Hid (St w1.heap.size w1 (w8.setCell ⟨w5.heap.size, 0, none⟩ (.slice ao8 (es.length + 1) cap8)) [rdrC w1.heap.size svd bd, [(w5.heap.size, .cells #[.slice ao8 (es.length + 1) cap8, .slice aop (b.length - n) capp] 64 (0, 0))], c8, c5]) := Lib.hid (hS9.pick [0, 1, 2, 3] (by decide) _ rfl)
                    refine hK4.out _ _ (by have := recO_cells hS9 4 rfl; rw [HE.out] at this; exact this) (fun _ => ?_)
                    have HR8 : Hid (RowC 68 6 (.slice ao8 (es ++ [(⟨na, nb, key, nd⟩ : Ent)]).length cap8) (es ++ [(⟨na, nb, key, nd⟩ : Ent)]).length (pls (es ++ [(⟨na, nb, key, nd⟩ : Ent)])) c8) := Lib.hid (by
                      rw [← pls_snoc, ← HFR.out, List.length_append, List.length_singleton]
                      exact hr8)
                    clear hr8 hS8 hS9 s0 z0
                    refine wpAnyH_done (by kernel_rfl) ?_ _
                    have hsz2 : IntKind.i64.wrap ((fr : Int) + (nd : Int)) = (fr : Int) + (nd : Int) := IntWalk.i64_in _ (by omega)
                    have hkw : IntKind.i64.wrap ((kk : Int) - 1) = (kk : Int) - 1 := IntWalk.i64_in _ (by omega)
                    go_wp2_with fail
                    go_roundg (rd.length)
                    case measure => omega
                    case rel =>
                      have hss : sizesP (es ++ [⟨na, nb, key, nd⟩]) = fr + nd := by rw [sizesP_snoc, HFR.out]
                      have hsl : (es ++ [(⟨na, nb, key, nd⟩ : Ent)]).length = es.length + 1 := by simp
                      refine ⟨rd, bd, kk - 1, es ++ [⟨na, nb, key, nd⟩], svd, .slice ao8 (es ++ [(⟨na, nb, key, nd⟩ : Ent)]).length cap8, c8, rfl, ?_, ?_, by omega, Lib.hid ?_, ?_, ?_, Lib.hid ⟨HA.out.1, HR8.out, ?_⟩, Lib.hid HA.out.2.2, Lib.hid fun e => ?_, Lib.hid fun Y e1 e2 e3 => ?_⟩
                      · rw [hss]; push_cast; rfl
                      · congr 1; omega
                      · rw [hsl]; have := HK.out; omega
                      · rw [hsl]; omega
                      · rw [hss, hsl]; omega
                      · rw [hsl]; exact HS9.out
                      · obtain ⟨e1, e2⟩ := HC1.out (by first | trivial | rfl)
                        refine ⟨e1, fun Y hY => ?_⟩
                        rw [List.append_assoc, List.singleton_append]
                        obtain ⟨k1, k2, k3, k4, g1, g2, g3, g4, g5⟩ := HR.out.1 e
                        refine e2 _ ⟨k1, k2, k3, k4, g1, g2, g3, g4, HOK.out, ?_⟩
                        rw [← g5]; exact hY
                      · obtain ⟨_, Z, e5, e6⟩ := HC2.out Y e1 e2 e3
                        cases Z with
                        | nil =>
                          have h1 := congrArg List.length e5
                          rw [List.length_append, e3] at h1
                          have h2 := HK.out
                          simp at h1
                          omega
                        | cons z Z =>
                          obtain ⟨e7, _, e8, e9⟩ := round_ent HNA.out HNB.out HNC.out HND.out e6
                          subst e7
                          exact ⟨e8, Z, by rw [e5, List.append_assoc, List.singleton_append], e9⟩
            · have qai : ((ck : Int) != 0) = true := by rw [bne_iff_ne]; omega
              have HQ := Lib.hid qa
              clear qa
              go_wp2_with fail
              go_ret2
              refine ⟨HB.out _ _ HSF.out, .inr ⟨?_, rfl⟩⟩
              rintro ⟨es', pk', hseg⟩
              obtain ⟨e1, e2, e3⟩ := HSG.out _ _ hseg
              obtain ⟨_, Z, e5, e6⟩ := HC2.out es' e1 e3 e2
              cases Z with
              | nil =>
                have h1 := congrArg List.length e5
                rw [List.length_append, e2] at h1
                have h2 := HK.out
                simp at h1
                omega
              | cons z Z =>
                obtain ⟨e7, e8, _⟩ := round_ent HNA.out HNB.out HNC.out HND.out e6
                subst e7
                obtain ⟨e8, e9⟩ := e8
                have h1 : ck = 0 := by rw [HCK.out]; exact e8
                first | exact absurd h1 HQ.out | (have h2 := e9 HQ.out.1; have h3 := HQ.out.2; simp only at h2; omega)
  · have HF := Lib.hid hf
    go_wp2_with fail
    go_ret2
    refine ⟨hS1.below, .inr ⟨?_, rfl⟩⟩
    rintro ⟨es, pk, x, k, h1, _⟩
    rw [HF.out] at h1
    cases h1
end Go.Proofs.Ythgbkncanoknkaa
/-
  Contracts of a segment's Len, Get.
-/
set_option linter.unusedVariables false
set_option linter.unusedSimpArgs false
namespace Go.Proofs.Ythgbkncanoknkaa
open Go.RowKit
set_option maxRecDepth 100000
set_option maxHeartbeats 800000 in
theorem slen_any (p : Nat) (es : List Ent) (pk : List UInt8) (w : World) (h : SegIn w p es pk) : Calls Try.prog 15 #[.pointer (some ⟨p, 0, none⟩)] w fun e w' => e = .returned (.int .i64 (es.length : Int)) ∧ w = w' := by
  obtain ⟨lv, pv, h1, h2, h3, h4⟩ := h
  obtain ⟨ao, cap, rfl⟩ := h3.shape
  clear h3 h4
  go_enter Try.func15, Try.ntmps15
  go_wp2_with fail
  go_ret
  exact ⟨rfl, rfl⟩
set_option maxHeartbeats 800000 in
theorem slen_nil (w : World) : Calls Try.prog 15 #[.pointer none] w fun e w' => e = .returned (.int .i64 0) ∧ w = w' := by
  go_enter Try.func15, Try.ntmps15
  go_wp2_with fail
  go_ret
  exact ⟨rfl, rfl⟩
/-- A value that is told. -/
def ValR (es : List Ent) (pk : List UInt8) (i : Nat) (E : Ent) (val : List UInt8) : Prop := (E.size = 0 ∧ val = []) ∨ (0 < E.size ∧ PartR pk (sizesP (es.take i)) E.size val)
def recE (E : Ent) (val : List UInt8) : Rec := ⟨E.kind, E.seq, E.key, val⟩
def rec0 : Rec := ⟨0, 0, [], []⟩
def GetR (es : List Ent) (pk : List UInt8) (at0 : Int) (e : Ending) : Prop :=
  ((at0 < 0 ∨ (es.length : Int) ≤ at0) ∧ e = .returned (.tuple #[recV rec0, .int .i64 7])) ∨
  ∃ (i : Nat) (E : Ent), at0 = (i : Int) ∧ es[i]? = some E ∧ ((∃ val, ValR es pk i E val ∧ e = .returned (.tuple #[recV (recE E val), .int .i64 0])) ∨ ((¬ ∃ val, ValR es pk i E val) ∧ e = .returned (.tuple #[recV rec0, .int .i64 6])))
def GetOut (es : List Ent) (pk : List UInt8) (at0 : Int) (w : World) (e : Ending) (w' : World) : Prop := Below w.heap.size w w' ∧ GetR es pk at0 e
theorem hrec4 : (Try.prog.info? 26).map (·.size) = some 4 := by kernel_rfl
/-- A record of one's own is written anew. -/
theorem St.rec4 {B : Nat} {w0 w : World} {L : List HL} {g : Nat} {x0 x1 x2 x3 : Value} (i : Nat) (hi : L[i]? = some [(g, .cells #[x0, x1, x2, x3] 26 (0, 0))]) (hS : St B w0 w L) (r : Rec) :
    St B w0 ((((w.setCell ⟨g, 0, none⟩ (.int .i64 r.kind)).setCell ⟨g, 1, none⟩ (.int .i64 r.seq)).setCell ⟨g, 2, none⟩ (.string ⟨r.key.toArray⟩)).setCell ⟨g, 3, none⟩ (.string ⟨r.val.toArray⟩)) (L.set i (recO g r)) := by
  have hl := (List.getElem?_eq_some_iff.1 hi).1
  have h1 := hS.store i hi 0 (.int .i64 r.kind)
  have h2 := h1.store i (by rw [List.getElem?_set_self hl]) 1 (.int .i64 r.seq)
  have h3 := h2.store i (by rw [List.getElem?_set_self (by simpa using hl)]) 2 (.string ⟨r.key.toArray⟩)
  have h4 := h3.store i (by rw [List.getElem?_set_self (by simpa using hl)]) 3 (.string ⟨r.val.toArray⟩)
  rw [List.set_set, List.set_set, List.set_set] at h4
  exact h4
set_option maxHeartbeats 4000000 in
theorem sget_any (p : Nat) (es : List Ent) (pk : List UInt8) (at0 : Int) (w : World) (h : SegIn w p es pk) (hel : es.length ≤ 1000000) (hpk : pk.length ≤ 1000000) (hes : ∀ E ∈ es, E.size ≤ 4000) (hsz : sizesP es ≤ 1099511627776) (hat : -9223372036854775808 ≤ at0 ∧ at0 ≤ 9223372036854775807) :
    Calls Try.prog 16 #[.pointer (some ⟨p, 0, none⟩), .int .i64 at0] w (GetOut es pk at0 w) := by
  obtain ⟨lv, pv, h1, h2, h3, h4⟩ := h
  obtain ⟨ao, cap, rfl⟩ := h3.shape
  obtain ⟨aop, capp, rfl⟩ := h4.shape
  have hS0 := (St.init w).alloc (.cells #[.int .i64 0, .int .i64 0, .string ⟨#[]⟩, .string ⟨#[]⟩] 26 (0, 0))
  have H0 := Lib.hid (And.intro h3 h4)
  have HS0 := Lib.hid hS0
  have z0 : (w.alloc (.cells #[.int .i64 0, .int .i64 0, .string ⟨#[]⟩, .string ⟨#[]⟩] 26 (0, 0))).cell? ⟨p, 0, none⟩ = some (.slice ao es.length cap) := by
    rw [hS0.below.cell (World.block_lt_of_cell? w _ h1)]; exact h1
  have z1 : (w.alloc (.cells #[.int .i64 0, .int .i64 0, .string ⟨#[]⟩, .string ⟨#[]⟩] 26 (0, 0))).cell? ⟨p, 1, none⟩ = some (.slice aop pk.length capp) := by
    rw [hS0.below.cell (World.block_lt_of_cell? w _ h2)]; exact h2
  have hmv : Value.oneCell' (.string ⟨#[]⟩) = true := rfl
  clear h3 h4 h1 h2 hS0
  by_cases q1 : at0 < 0
  · go_enter Try.func16, Try.ntmps16
    go_wp2_with fail
    (try simp only [Exit.inBlock, Exit.then]); refine bodyPost_ret (results_cell_two rfl _ _ _ _ _ 0 rfl HS0.out rfl Try.underlying26 rfl hrec4) rfl ?_
    exact ⟨HS0.out.below, .inl ⟨.inl q1, rfl⟩⟩
  by_cases q2 : (es.length : Int) ≤ at0
  · go_enter Try.func16, Try.ntmps16
    go_wp2_with fail
    (try simp only [Exit.inBlock, Exit.then]); refine bodyPost_ret (results_cell_two rfl _ _ _ _ _ 0 rfl HS0.out rfl Try.underlying26 rfl hrec4) rfl ?_
    exact ⟨HS0.out.below, .inl ⟨.inr q2, rfl⟩⟩
  obtain ⟨i, rfl⟩ : ∃ i : Nat, at0 = (i : Int) := ⟨at0.toNat, by omega⟩
  have hi : i < es.length := by omega
  have hii : (i : Int) < (es.length : Int) := by omega
  obtain ⟨E, hE⟩ : ∃ E, es[i]? = some E := ⟨_, List.getElem?_eq_getElem hi⟩
  obtain ⟨ad, rfl⟩ := H0.out.1.place_some hE
  obtain ⟨k0, k1, k2, k3, k4, k5⟩ := (H0.out.1.st HS0.out).place hE
  obtain ⟨kd, sq, key, sz⟩ := E
  simp only at k0 k1 k2 k3 k4 k5
  have HE := Lib.hid hE
  obtain ⟨fr, HFR⟩ : ∃ fr, Hid (fr = sizesP (es.take i)) := ⟨_, Lib.hid rfl⟩
  rw [← HFR.out] at k4
  have hS1 := HS0.out.alloc (.cells #[.int .i64 (kd : Int), .int .i64 (sq : Int), .string ⟨key.toArray⟩, .string ⟨#[]⟩, .int .i64 (fr : Int), .int .i64 (sz : Int)] 68)
  clear hE
  by_cases q3 : sz = 0
  · have q3i : ((sz : Int) == 0) = true := by rw [q3]; rfl
    have HQ := Lib.hid q3
    clear q3
    go_enter Try.func16, Try.ntmps16
    go_wp2_with fail
    have hT : St w.heap.size w _ (recO w.heap.size ⟨(kd : Int), (sq : Int), key, []⟩ :: []) := (((St.init w).alloc (.cells #[.int .i64 (kd : Int), .int .i64 (sq : Int), .string ⟨key.toArray⟩, .string ⟨#[]⟩] 26 (0, 0))).alloc' (.cells #[.int .i64 (kd : Int), .int .i64 (sq : Int), .string ⟨key.toArray⟩, .string ⟨#[]⟩, .int .i64 (fr : Int), .int .i64 (sz : Int)] 68 (0, 0)))
    (try simp only [Exit.inBlock, Exit.then]); refine bodyPost_ret (results_cell_two rfl _ _ _ _ _ 0 rfl hT rfl Try.underlying26 rfl hrec4) rfl ?_
    exact ⟨hT.below, .inr ⟨i, _, rfl, HE.out, .inl ⟨[], .inl ⟨HQ.out, rfl⟩, rfl⟩⟩⟩
  · have q3i : ((sz : Int) == 0) = false := by rw [beq_eq_false_iff_ne]; omega
    obtain ⟨w2, HW2⟩ : ∃ w2, Hid (w2 = (w.alloc (.cells #[.int .i64 0, .int .i64 0, .string ⟨#[]⟩, .string ⟨#[]⟩] 26 (0, 0))).alloc (.cells #[.int .i64 (kd : Int), .int .i64 (sq : Int), .string ⟨key.toArray⟩, .string ⟨#[]⟩, .int .i64 (fr : Int), .int .i64 (sz : Int)] 68 (0, 0))) := ⟨_, Lib.hid rfl⟩
    have HS2 : Hid (St w.heap.size w w2 [[(w.heap.size + 1, .cells #[.int .i64 (kd : Int), .int .i64 (sq : Int), .string ⟨key.toArray⟩, .string ⟨#[]⟩, .int .i64 (fr : Int), .int .i64 (sz : Int)] 68 (0, 0))], [(w.heap.size, .cells #[.int .i64 0, .int .i64 0, .string ⟨#[]⟩, .string ⟨#[]⟩] 26 (0, 0))]]) := Lib.hid (by
      rw [HW2.out]
      rwa [show (w.alloc (.cells #[.int .i64 0, .int .i64 0, .string ⟨#[]⟩, .string ⟨#[]⟩] 26 (0, 0))).heap.size = w.heap.size + 1 from by simp] at hS1)
    have hz1 := Lib.hid z1
    have HCELL : Hid (∀ w' : World, Below w2.heap.size w2 w' → w'.cell? ⟨p, 1, none⟩ = some (.slice aop pk.length capp) ∧ w'.cell? ⟨w.heap.size + 1, 4, none⟩ = some (.int .i64 (fr : Int)) ∧ w'.cell? ⟨w.heap.size + 1, 5, none⟩ = some (.int .i64 (sz : Int)) ∧ w'.cell? ⟨w.heap.size + 1, 0, none⟩ = some (.int .i64 (kd : Int))) := Lib.hid (fun w' hw' => by
      have hT := HS2.out.mono hw'
      have h1 : w2.cell? ⟨p, 1, none⟩ = some (.slice aop pk.length capp) := by
        rw [HW2.out, World.cell?_alloc_some _ _ _ (by rw [hz1.out]; rfl)]
        exact hz1.out
      refine ⟨?_, hT.cell 0 rfl (List.mem_singleton.2 rfl) 4, hT.cell 0 rfl (List.mem_singleton.2 rfl) 5, hT.cell 0 rfl (List.mem_singleton.2 rfl) 0⟩
      rw [hw'.cell (World.block_lt_of_cell? w2 _ h1)]
      exact h1)
    have hfr : fr ≤ 1099511627776 := by
      have h1 : sizesP (es.take i) ≤ sizesP es := by
        have h3 : sizesP es = sizesP (es.take i) + sizesP (es.drop i) := by
          unfold sizesP
          rw [← List.sum_append, ← List.map_append, List.take_append_drop]
        omega
      rw [HFR.out]
      omega
    have hszl : sz ≤ 4000 := hes _ (List.mem_of_getElem? HE.out)
    have HQ := Lib.hid (show 0 < sz by omega)
    clear q3 hS1
    go_enter Try.func16, Try.ntmps16
    go_wp2_with fail
    rw [← HW2.out]
    clear z0 z1 k0 k1 k2 k3 k4 k5
    refine wp_region_held_drew (S := fun w' => Below w2.heap.size w2 w') mixed (Below.refl _ _).drew (fun hSS => ?_)
    refine take_d (i := 0) 40 (.pointer (some ⟨p, 0, none⟩)) rfl rfl (by kernel_rfl) (by kernel_rfl) (by kernel_rfl) (fun _ _ _ h => h) (Or.inl ⟨by rfl, ?_⟩) hSS ?_
    (focus (intro w' hw'; have hb1 := HCELL.out w' hw'; obtain ⟨hb1, hb2, hb3, hb4⟩ := hb1; first | (go_simp; done) | (go_simp; simp [qx0, qx1, qx2]; done)))
    simp only [Act.put, List.setIfInBounds_toArray, List.set_cons_zero, List.set_cons_succ]
    refine take_d (i := 1) 41 (.pointer (some ⟨p, 0, none⟩)) rfl rfl (by kernel_rfl) (by kernel_rfl) (by kernel_rfl) (fun _ _ _ h => h) (Or.inl ⟨by rfl, ?_⟩) hSS ?_
    (focus (intro w' hw'; have hb1 := HCELL.out w' hw'; obtain ⟨hb1, hb2, hb3, hb4⟩ := hb1; first | (go_simp; done) | (go_simp; simp [qx0, qx1, qx2]; done)))
    simp only [Act.put, List.setIfInBounds_toArray, List.set_cons_zero, List.set_cons_succ]
    refine take_d (i := 2) 42 (.pointer (some ⟨p, 1, none⟩)) rfl rfl (by kernel_rfl) (by kernel_rfl) (by kernel_rfl) (fun _ _ _ h => h) (Or.inl ⟨by rfl, ?_⟩) hSS ?_
    (focus (intro w' hw'; have hb1 := HCELL.out w' hw'; obtain ⟨hb1, hb2, hb3, hb4⟩ := hb1; first | (go_simp; done) | (go_simp; simp [qx0, qx1, qx2]; done)))
    simp only [Act.put, List.setIfInBounds_toArray, List.set_cons_zero, List.set_cons_succ]
    refine take_d (i := 3) 43 (.slice aop pk.length capp) rfl rfl (by kernel_rfl) (by kernel_rfl) (by kernel_rfl) (fun _ _ _ h => h) (Or.inl ⟨by rfl, ?_⟩) hSS ?_
    (focus (intro w' hw'; have hb1 := HCELL.out w' hw'; obtain ⟨hb1, hb2, hb3, hb4⟩ := hb1; first | (go_simp; done) | (go_simp; simp [qx0, qx1, qx2]; done)))
    simp only [Act.put, List.setIfInBounds_toArray, List.set_cons_zero, List.set_cons_succ]
    refine take_d (i := 4) 44 (.pointer (some ⟨w.heap.size + 1, 4, none⟩)) rfl rfl (by kernel_rfl) (by kernel_rfl) (by kernel_rfl) (fun _ _ _ h => h) (Or.inl ⟨by rfl, ?_⟩) hSS ?_
    (focus (intro w' hw'; have hb1 := HCELL.out w' hw'; obtain ⟨hb1, hb2, hb3, hb4⟩ := hb1; first | (go_simp; done) | (go_simp; simp [qx0, qx1, qx2]; done)))
    simp only [Act.put, List.setIfInBounds_toArray, List.set_cons_zero, List.set_cons_succ]
    refine take_d (i := 5) 45 (.int .i64 (fr : Int)) rfl rfl (by kernel_rfl) (by kernel_rfl) (by kernel_rfl) (fun _ _ _ h => h) (Or.inl ⟨by rfl, ?_⟩) hSS ?_
    (focus (intro w' hw'; have hb1 := HCELL.out w' hw'; obtain ⟨hb1, hb2, hb3, hb4⟩ := hb1; first | (go_simp; done) | (go_simp; simp [qx0, qx1, qx2]; done)))
    simp only [Act.put, List.setIfInBounds_toArray, List.set_cons_zero, List.set_cons_succ]
    refine take_d (i := 6) 46 (.pointer (some ⟨w.heap.size + 1, 5, none⟩)) rfl rfl (by kernel_rfl) (by kernel_rfl) (by kernel_rfl) (fun _ _ _ h => h) (Or.inl ⟨by rfl, ?_⟩) hSS ?_
    (focus (intro w' hw'; have hb1 := HCELL.out w' hw'; obtain ⟨hb1, hb2, hb3, hb4⟩ := hb1; first | (go_simp; done) | (go_simp; simp [qx0, qx1, qx2]; done)))
    simp only [Act.put, List.setIfInBounds_toArray, List.set_cons_zero, List.set_cons_succ]
    refine take_d (i := 7) 47 (.int .i64 (sz : Int)) rfl rfl (by kernel_rfl) (by kernel_rfl) (by kernel_rfl) (fun _ _ _ h => h) (Or.inl ⟨by rfl, ?_⟩) hSS ?_
    (focus (intro w' hw'; have hb1 := HCELL.out w' hw'; obtain ⟨hb1, hb2, hb3, hb4⟩ := hb1; first | (go_simp; done) | (go_simp; simp [qx0, qx1, qx2]; done)))
    simp only [Act.put, List.setIfInBounds_toArray, List.set_cons_zero, List.set_cons_succ]
    refine wpAnyH_ready (rs := [8]) (by kernel_rfl) (by simp) (AllReadyH.cons rfl (fun K1 hK1 => ?_) AllReadyH.nil)
    rw [if_pos (by rfl)]
    go_simp
    refine (ctpart_any _ pk (fr : Int) (sz : Int) w2.drew ((H0.out.2.keep (HS2.out.below)).drewN 1) hpk (by omega) (by omega)).mono ?_
    rintro e w3 (⟨y, v3, hf0, hn0, hpr, rfl, hr3, hS3⟩ | ⟨er, her, rfl, hS3, hno⟩)
    · have hb3 := hSS.trans (hS3.below.mono hSS.size)
      obtain ⟨ao3, cap3, rfl⟩ := hr3.shape
      have HR3 := Lib.hid (And.intro hr3 (And.intro hpr hb3))
      refine hK1.out _ _ hb3 (fun hSS => ?_)
      clear hr3 hpr hb3 hS3
      try simp only [Act.put, List.setIfInBounds_toArray, List.set_cons_zero, List.set_cons_succ]
      refine take_d (i := 9) 39 (.tuple #[.slice ao3 y.length cap3, .int .i64 0]) rfl rfl (by kernel_rfl) (by kernel_rfl) (by kernel_rfl) (fun _ _ _ h => h) (Or.inl ⟨by rfl, ?_⟩) hSS ?_
      (focus (intro w' hw'; have hb1 := HCELL.out w' hw'; obtain ⟨hb1, hb2, hb3, hb4⟩ := hb1; first | (go_simp; done) | (go_simp; simp [qx0, qx1, qx2]; done)))
      simp only [Act.put, List.setIfInBounds_toArray, List.set_cons_zero, List.set_cons_succ]
      refine take_d (i := 10) 49 (.slice ao3 y.length cap3) rfl rfl (by kernel_rfl) (by kernel_rfl) (by kernel_rfl) (fun _ _ _ h => h) (Or.inl ⟨by rfl, ?_⟩) hSS ?_
      (focus (intro w' hw'; have hb1 := HCELL.out w' hw'; obtain ⟨hb1, hb2, hb3, hb4⟩ := hb1; first | (go_simp; done) | (go_simp; simp [qx0, qx1, qx2]; done)))
      simp only [Act.put, List.setIfInBounds_toArray, List.set_cons_zero, List.set_cons_succ]
      refine take_d (i := 11) 50 (.int .i64 0) rfl rfl (by kernel_rfl) (by kernel_rfl) (by kernel_rfl) (fun _ _ _ h => h) (Or.inl ⟨by rfl, ?_⟩) hSS ?_
      (focus (intro w' hw'; have hb1 := HCELL.out w' hw'; obtain ⟨hb1, hb2, hb3, hb4⟩ := hb1; first | (go_simp; done) | (go_simp; simp [qx0, qx1, qx2]; done)))
      simp only [Act.put, List.setIfInBounds_toArray, List.set_cons_zero, List.set_cons_succ]
      refine wpAnyH_ready (rs := [12]) (by kernel_rfl) (by simp) (AllReadyH.cons rfl (fun K2 hK2 => ?_) AllReadyH.nil)
      rw [if_pos (by rfl)]
      go_simp
      refine hK2.out _ _ hSS (fun _ => ?_)
      try simp only [Act.put, List.setIfInBounds_toArray, List.set_cons_zero, List.set_cons_succ]
      refine wpAnyH_ready (rs := [13]) (by kernel_rfl) (by simp) (AllReadyH.cons rfl (fun K3 hK3 => ?_) AllReadyH.nil)
      rw [if_pos (by rfl)]
      go_simp
      refine hK3.out _ _ hSS (fun _ => ?_)
      refine wpAnyH_done (by kernel_rfl) ?_ _
      have hS4 := HS2.out.mono HR3.out.2.2
      have k0 : w3.cell? ⟨w.heap.size + 1, 0, none⟩ = some (.int .i64 (kd : Int)) := hS4.cell 0 rfl (List.mem_singleton.2 rfl) 0
      have k1 : w3.cell? ⟨w.heap.size + 1, 1, none⟩ = some (.int .i64 (sq : Int)) := hS4.cell 0 rfl (List.mem_singleton.2 rfl) 1
      have k2 : w3.cell? ⟨w.heap.size + 1, 2, none⟩ = some (.string ⟨key.toArray⟩) := hS4.cell 0 rfl (List.mem_singleton.2 rfl) 2
      have k3 : w3.cell? ⟨w.heap.size + 1, 3, none⟩ = some (.string ⟨#[]⟩) := hS4.cell 0 rfl (List.mem_singleton.2 rfl) 3
      have hS5 := hS4.alloc' (.cells #[.int .i64 (kd : Int), .int .i64 (sq : Int), .string ⟨key.toArray⟩, .string ⟨y.toArray⟩] 26 (0, 0))
      have g0 : (w3.alloc (.cells #[.int .i64 (kd : Int), .int .i64 (sq : Int), .string ⟨key.toArray⟩, .string ⟨y.toArray⟩] 26 (0, 0))).cell? ⟨w.heap.size, 0, none⟩ = some (.int .i64 0) := hS5.cell 1 rfl (List.mem_singleton.2 rfl) 0
      have g1 : (w3.alloc (.cells #[.int .i64 (kd : Int), .int .i64 (sq : Int), .string ⟨key.toArray⟩, .string ⟨y.toArray⟩] 26 (0, 0))).cell? ⟨w.heap.size, 1, none⟩ = some (.int .i64 0) := hS5.cell 1 rfl (List.mem_singleton.2 rfl) 1
      have g2 : (w3.alloc (.cells #[.int .i64 (kd : Int), .int .i64 (sq : Int), .string ⟨key.toArray⟩, .string ⟨y.toArray⟩] 26 (0, 0))).cell? ⟨w.heap.size, 2, none⟩ = some (.string ⟨#[]⟩) := hS5.cell 1 rfl (List.mem_singleton.2 rfl) 2
      have g3 : (w3.alloc (.cells #[.int .i64 (kd : Int), .int .i64 (sq : Int), .string ⟨key.toArray⟩, .string ⟨y.toArray⟩] 26 (0, 0))).cell? ⟨w.heap.size, 3, none⟩ = some (.string ⟨#[]⟩) := hS5.cell 1 rfl (List.mem_singleton.2 rfl) 3
      have f0 : (w3.alloc (.cells #[.int .i64 (kd : Int), .int .i64 (sq : Int), .string ⟨key.toArray⟩, .string ⟨y.toArray⟩] 26 (0, 0))).frozen? ⟨w.heap.size, 0, none⟩ = false := hS5.free 1 rfl (List.mem_singleton.2 rfl) 0
      have f1 : (w3.alloc (.cells #[.int .i64 (kd : Int), .int .i64 (sq : Int), .string ⟨key.toArray⟩, .string ⟨y.toArray⟩] 26 (0, 0))).frozen? ⟨w.heap.size, 1, none⟩ = false := hS5.free 1 rfl (List.mem_singleton.2 rfl) 1
      have f2 : (w3.alloc (.cells #[.int .i64 (kd : Int), .int .i64 (sq : Int), .string ⟨key.toArray⟩, .string ⟨y.toArray⟩] 26 (0, 0))).frozen? ⟨w.heap.size, 2, none⟩ = false := hS5.free 1 rfl (List.mem_singleton.2 rfl) 2
      have f3 : (w3.alloc (.cells #[.int .i64 (kd : Int), .int .i64 (sq : Int), .string ⟨key.toArray⟩, .string ⟨y.toArray⟩] 26 (0, 0))).frozen? ⟨w.heap.size, 3, none⟩ = false := hS5.free 1 rfl (List.mem_singleton.2 rfl) 3
      have hcv := conv_str (HR3.out.1.keep ((Below.refl _ w3).alloc (Nat.le_refl _) (.cells #[.int .i64 (kd : Int), .int .i64 (sq : Int), .string ⟨key.toArray⟩, .string ⟨#[]⟩] 26 (0, 0))))
      have hT := St.rec4 1 rfl hS5 ⟨(kd : Int), (sq : Int), key, y⟩
      have HT := Lib.hid hT
      clear hT hS4 hS5
      go_wp2_with fail
      (try simp only [Exit.inBlock, Exit.then]); refine bodyPost_ret (results_cell_two rfl _ _ _ _ _ 1 rfl HT.out rfl Try.underlying26 rfl hrec4) rfl ?_
      refine ⟨HT.out.below, .inr ⟨i, _, rfl, HE.out, .inl ⟨y, .inr ⟨HQ.out, ?_⟩, rfl⟩⟩⟩
      have h1 := HR3.out.2.1
      rw [← HFR.out]
      exact h1
    · have hb3 := hSS.trans (hS3.below.mono hSS.size)
      have hern : ((er : Int) != 0) = true := by
        rw [bne_iff_ne]
        rcases her with ⟨e, _⟩ | ⟨e, _⟩ <;> omega
      have HN := Lib.hid hno
      have HB3 := Lib.hid hb3
      refine hK1.out _ _ hb3 (fun hSS => ?_)
      clear hb3 hS3 hno her
      try simp only [Act.put, List.setIfInBounds_toArray, List.set_cons_zero, List.set_cons_succ]
      refine take_d (i := 9) 39 (.tuple #[.slice none 0 0, .int .i64 (er : Int)]) rfl rfl (by kernel_rfl) (by kernel_rfl) (by kernel_rfl) (fun _ _ _ h => h) (Or.inl ⟨by rfl, ?_⟩) hSS ?_
      (focus (intro w' hw'; have hb1 := HCELL.out w' hw'; obtain ⟨hb1, hb2, hb3, hb4⟩ := hb1; first | (go_simp; done) | (go_simp; simp [qx0, qx1, qx2]; done)))
      simp only [Act.put, List.setIfInBounds_toArray, List.set_cons_zero, List.set_cons_succ]
      refine take_d (i := 10) 49 (.slice none 0 0) rfl rfl (by kernel_rfl) (by kernel_rfl) (by kernel_rfl) (fun _ _ _ h => h) (Or.inl ⟨by rfl, ?_⟩) hSS ?_
      (focus (intro w' hw'; have hb1 := HCELL.out w' hw'; obtain ⟨hb1, hb2, hb3, hb4⟩ := hb1; first | (go_simp; done) | (go_simp; simp [qx0, qx1, qx2]; done)))
      simp only [Act.put, List.setIfInBounds_toArray, List.set_cons_zero, List.set_cons_succ]
      refine take_d (i := 11) 50 (.int .i64 (er : Int)) rfl rfl (by kernel_rfl) (by kernel_rfl) (by kernel_rfl) (fun _ _ _ h => h) (Or.inl ⟨by rfl, ?_⟩) hSS ?_
      (focus (intro w' hw'; have hb1 := HCELL.out w' hw'; obtain ⟨hb1, hb2, hb3, hb4⟩ := hb1; first | (go_simp; done) | (go_simp; simp [qx0, qx1, qx2]; done)))
      simp only [Act.put, List.setIfInBounds_toArray, List.set_cons_zero, List.set_cons_succ]
      refine wpAnyH_ready (rs := [12]) (by kernel_rfl) (by simp) (AllReadyH.cons rfl (fun K2 hK2 => ?_) AllReadyH.nil)
      rw [if_pos (by rfl)]
      go_simp
      refine hK2.out _ _ hSS (fun _ => ?_)
      try simp only [Act.put, List.setIfInBounds_toArray, List.set_cons_zero, List.set_cons_succ]
      refine wpAnyH_ready (rs := [13]) (by kernel_rfl) (by simp) (AllReadyH.cons rfl (fun K3 hK3 => ?_) AllReadyH.nil)
      rw [if_pos (by rfl)]
      go_simp
      refine hK3.out _ _ hSS (fun _ => ?_)
      refine wpAnyH_done (by kernel_rfl) ?_ _
      have hS5 := HS2.out.mono HB3.out
      have g0 : w3.cell? ⟨w.heap.size, 0, none⟩ = some (.int .i64 0) := hS5.cell 1 rfl (List.mem_singleton.2 rfl) 0
      have g1 : w3.cell? ⟨w.heap.size, 1, none⟩ = some (.int .i64 0) := hS5.cell 1 rfl (List.mem_singleton.2 rfl) 1
      have g2 : w3.cell? ⟨w.heap.size, 2, none⟩ = some (.string ⟨#[]⟩) := hS5.cell 1 rfl (List.mem_singleton.2 rfl) 2
      have g3 : w3.cell? ⟨w.heap.size, 3, none⟩ = some (.string ⟨#[]⟩) := hS5.cell 1 rfl (List.mem_singleton.2 rfl) 3
      have f0 : w3.frozen? ⟨w.heap.size, 0, none⟩ = false := hS5.free 1 rfl (List.mem_singleton.2 rfl) 0
      have f1 : w3.frozen? ⟨w.heap.size, 1, none⟩ = false := hS5.free 1 rfl (List.mem_singleton.2 rfl) 1
      have f2 : w3.frozen? ⟨w.heap.size, 2, none⟩ = false := hS5.free 1 rfl (List.mem_singleton.2 rfl) 2
      have f3 : w3.frozen? ⟨w.heap.size, 3, none⟩ = false := hS5.free 1 rfl (List.mem_singleton.2 rfl) 3
      have hT := St.rec4 1 rfl hS5 ⟨0, 0, [], []⟩
      have HT := Lib.hid hT
      clear hT hS5
      go_wp2_with fail
      (try simp only [Exit.inBlock, Exit.then]); refine bodyPost_ret (results_cell_two rfl _ _ _ _ _ 1 rfl HT.out rfl Try.underlying26 rfl hrec4) rfl ?_
      refine ⟨HT.out.below, .inr ⟨i, _, rfl, HE.out, .inr ⟨?_, rfl⟩⟩⟩
      rintro ⟨val, ⟨e1, _⟩ | ⟨_, e1⟩⟩
      · have h1 := HQ.out
        simp only at e1
        omega
      · refine HN.out ⟨val, by omega, by omega, ?_⟩
        rw [← HFR.out] at e1
        exact e1
end Go.Proofs.Ythgbkncanoknkaa
/-
  Contracts of a segment's Find, All; of no segment.
-/
set_option linter.unusedVariables false
set_option linter.unusedSimpArgs false
namespace Go.Proofs.Ythgbkncanoknkaa
open Go.RowKit
set_option maxRecDepth 100000
/-- The place of a key's last record of the first n. -/
def lastN (es : List Ent) (key : List UInt8) : Nat → Option Nat
  | 0 => none
  | n + 1 => match es[n]? with
    | some E => if E.key = key then some n else lastN es key n
    | none => lastN es key n
def FindR (es : List Ent) (key : List UInt8) (e : Ending) : Prop :=
  (lastN es key es.length = none ∧ e = .returned (.tuple #[.int .i64 0, .bool false])) ∨ ∃ i, lastN es key es.length = some i ∧ e = .returned (.tuple #[.int .i64 (i : Int), .bool true])
set_option maxHeartbeats 2000000 in
theorem sfind_any (p : Nat) (es : List Ent) (pk key : List UInt8) (w : World) (h : SegIn w p es pk) (hel : es.length ≤ 1000000) :
    Calls Try.prog 17 #[.pointer (some ⟨p, 0, none⟩), .string ⟨key.toArray⟩] w fun e w' => FindR es key e ∧ w = w' := by
  have HL := Lib.hid (slen_any p es pk w h)
  obtain ⟨lv, pv, h1, h2, h3, h4⟩ := h
  obtain ⟨ao, cap, rfl⟩ := h3.shape
  have H0 := Lib.hid h3
  clear h3 h4 h2
  go_enter Try.func17, Try.ntmps17
  go_wp2_with fail
  refine HL.out.mono ?_
  rintro e w1 ⟨rfl, rfl⟩
  have hw0 : IntKind.i64.wrap ((es.length : Int) - 1) = (es.length : Int) - 1 := IntWalk.i64_in _ (by omega)
  go_wp2_with fail
  go_loopg [6] es.length (fun m s6 wr => s6 = .int .i64 ((m : Int) - 1) ∧ m ≤ es.length ∧ w = wr ∧ Hid (lastN es key es.length = lastN es key m))
  case atStart => exact ⟨rfl, Nat.le_refl _, rfl, Lib.hid rfl⟩
  case round =>
    obtain ⟨rfl, hm, rfl, HK⟩ := hrel
    cases gk with
    | zero =>
      have HN : Hid (lastN es key es.length = none) := Lib.hid HK.out
      go_wp2_with fail
      go_ret2
      exact ⟨.inl ⟨HN.out, rfl⟩, rfl⟩
    | succ m =>
      obtain ⟨E, hE⟩ : ∃ E, es[m]? = some E := ⟨_, List.getElem?_eq_getElem (by omega)⟩
      obtain ⟨ad, rfl⟩ := H0.out.place_some hE
      obtain ⟨k0, k1, k2, k3, k4, k5⟩ := H0.out.place hE
      have hmi : ((m + 1 : Nat) : Int) - 1 = (m : Int) := by omega
      have hme : (m : Int) < (es.length : Int) := by omega
      rw [hmi]
      by_cases q : E.key = key
      · have HN : Hid (lastN es key es.length = some m) := Lib.hid (by rw [HK.out, lastN, hE]; simp [q])
        rw [q] at k2
        clear hE q
        go_wp2_with fail
        go_ret2
        exact ⟨.inr ⟨m, HN.out, rfl⟩, rfl⟩
      · have HN : Hid (lastN es key es.length = lastN es key m) := Lib.hid (by rw [HK.out, lastN, hE]; simp [q])
        obtain ⟨ek, HEK⟩ : ∃ ek, Hid (ek = E.key) := ⟨_, Lib.hid rfl⟩
        rw [← HEK.out] at k2 q
        have qs : (ek == key) = false := beq_eq_false_iff_ne.2 q
        have hmw : IntKind.i64.wrap ((m : Int) - 1) = (m : Int) - 1 := IntWalk.i64_in _ (by omega)
        clear hE hmi
        go_wp2_with fail
        go_roundg m
        case measure => omega
        case rel => exact ⟨by go_num, by omega, rfl, HN⟩
set_option maxHeartbeats 2000000 in
theorem sfind_nil (key : List UInt8) (w : World) : Calls Try.prog 17 #[.pointer none, .string ⟨key.toArray⟩] w fun e w' => e = .returned (.tuple #[.int .i64 0, .bool false]) ∧ w = w' := by
  go_enter Try.func17, Try.ntmps17
  go_wp2_with fail
  refine (slen_nil w).mono ?_
  rintro e w1 ⟨rfl, rfl⟩
  go_wp2_with fail
  go_loopg [6] 1 (fun m s6 wr => s6 = .int .i64 (-1) ∧ w = wr)
  case atStart => exact ⟨rfl, rfl⟩
  case round =>
    obtain ⟨rfl, rfl⟩ := hrel
    go_wp2_with fail
    go_ret2
    exact ⟨rfl, rfl⟩
set_option maxHeartbeats 2000000 in
theorem sget_nil (at0 : Int) (w : World) : Calls Try.prog 16 #[.pointer none, .int .i64 at0] w fun e w' => e = .returned (.tuple #[recV rec0, .int .i64 9]) ∧ Below w.heap.size w w' := by
  have HS0 := Lib.hid ((St.init w).alloc (.cells #[.int .i64 0, .int .i64 0, .string ⟨#[]⟩, .string ⟨#[]⟩] 26 (0, 0)))
  go_enter Try.func16, Try.ntmps16
  go_wp2_with fail
  (try simp only [Exit.inBlock, Exit.then]); refine bodyPost_ret (results_cell_two rfl _ _ _ _ _ 0 rfl HS0.out rfl Try.underlying26 rfl hrec4) rfl ?_
  exact ⟨rfl, HS0.out.below⟩
set_option maxHeartbeats 2000000 in
theorem sall_nil (w : World) : Calls Try.prog 23 #[.pointer none] w fun e w' => e = .returned (.tuple #[.slice none 0 0, .int .i64 9]) ∧ w = w' := by
  go_enter Try.func23, Try.ntmps23
  go_wp2_with fail
  go_ret2
  exact ⟨rfl, rfl⟩
/-- The first i records, told. -/
def GotR (es : List Ent) (pk : List UInt8) (i : Nat) (rs : List Rec) : Prop := rs.length = i ∧ ∀ j E, j < i → es[j]? = some E → ∃ val, ValR es pk j E val ∧ rs[j]? = some (recE E val)
theorem infoRC : (Try.prog.info? 26).map (fun i => (i.zero, i.size, i.bytes)) = some (some (.agg #[.int .i64 0, .int .i64 0, .string ⟨#[]⟩, .string ⟨#[]⟩]), 4, 48) := by kernel_rfl
def AllOut (es : List Ent) (pk : List UInt8) (w : World) (e : Ending) (w' : World) : Prop :=
  (∃ rs v c, GotR es pk es.length rs ∧ e = .returned (.tuple #[v, .int .i64 0]) ∧ RowC 26 4 v rs.length (rcs rs) c ∧ St w.heap.size w w' [c]) ∨
  ((∃ i E, es[i]? = some E ∧ ¬ ∃ val, ValR es pk i E val) ∧ e = .returned (.tuple #[.slice none 0 0, .int .i64 6]) ∧ St w.heap.size w w' [])
theorem GotR.snoc {es : List Ent} {pk : List UInt8} {i : Nat} {rs : List Rec} {E : Ent} {val : List UInt8} (h : GotR es pk i rs) (hE : es[i]? = some E) (hv : ValR es pk i E val) : GotR es pk (i + 1) (rs ++ [recE E val]) := by
  obtain ⟨h1, h2⟩ := h
  refine ⟨by simp [h1], fun j E' hj hE' => ?_⟩
  by_cases e : j < i
  · obtain ⟨v, h3, h4⟩ := h2 j E' e hE'
    exact ⟨v, h3, by rw [List.getElem?_append_left (by omega)]; exact h4⟩
  · obtain rfl : j = i := by omega
    rw [hE] at hE'
    cases hE'
    exact ⟨val, hv, by rw [List.getElem?_append_right (by omega), h1, Nat.sub_self]; rfl⟩
set_option maxHeartbeats 4000000 in
theorem sall_any (p : Nat) (es : List Ent) (pk : List UInt8) (w : World) (h : SegIn w p es pk) (hel : es.length ≤ 1000000) (hpk : pk.length ≤ 1000000) (hes : ∀ E ∈ es, E.size ≤ 4000) (hsz : sizesP es ≤ 1099511627776) :
    Calls Try.prog 23 #[.pointer (some ⟨p, 0, none⟩)] w (AllOut es pk w) := by
  obtain ⟨i0, i0a, i0b, i0c, i0d⟩ := info_parts infoRC
  have HSI := Lib.hid (And.intro h (And.intro hes hsz))
  obtain ⟨lv, pv, h1, h2, h3, h4⟩ := h
  obtain ⟨ao, cap, rfl⟩ := h3.shape
  clear h3 h4 h2 hes hsz
  have HS0 := Lib.hid ((St.init w).one_nil)
  go_enter Try.func23, Try.ntmps23
  go_wp2_with fail
  go_loopg [4, 15] es.length (fun m s4 s15 wr => ∃ i : Nat, i + m = es.length ∧ s15 = .int .i64 (i : Int) ∧ ∃ (rs : List Rec) (c : List (Nat × Obj)), Hid (GotR es pk i rs) ∧ rs.length = i ∧ RowC 26 4 s4 rs.length (rcs rs) c ∧ St w.heap.size w wr [c])
  case atStart => exact ⟨0, by omega, rfl, [], [], Lib.hid ⟨rfl, fun j E hj => by omega⟩, rfl, RowC.nil _ _, HS0.out⟩
  case round =>
    obtain ⟨i, hi, rfl, rs, c, HG, hrl, hr, hS⟩ := hrel
    obtain ⟨ao4, cap4, rfl⟩ := hr.shape
    cases gk with
    | zero =>
      obtain rfl : i = es.length := by omega
      have hz : ¬ (es.length : Int) < (es.length : Int) := by omega
      have HR := Lib.hid (And.intro hr hS)
      clear hr hS hi hrl
      go_wp2_with fail
      go_ret2
      exact .inl ⟨rs, _, c, HG.out, rfl, HR.out.1, HR.out.2⟩
    | succ m =>
      have hif : (i : Int) < (es.length : Int) := by omega
      obtain ⟨E, hE⟩ : ∃ E, es[i]? = some E := ⟨_, List.getElem?_eq_getElem (by omega)⟩
      have HE := Lib.hid hE
      have HR := Lib.hid (And.intro hr hS)
      have hwi : IntKind.i64.wrap ((i : Int) + 1) = (i : Int) + 1 := IntWalk.i64_in _ (by omega)
      have HRL := Lib.hid hrl
      have hrln : rs.length ≤ 1000000 := by omega
      clear hr hS hE hrl
      go_wp2_with fail
      refine (sget_any p es pk (i : Int) wr (HSI.out.1.keep HR.out.2.below) hel hpk HSI.out.2.1 HSI.out.2.2 (by omega)).mono ?_
      rintro e w2 ⟨hb, ⟨hbad, _⟩ | ⟨j, E', hj, hE', ⟨val, hval, rfl⟩ | ⟨hno, rfl⟩⟩⟩
      · exfalso; omega
      · obtain rfl : i = j := by omega
        obtain rfl : E = E' := by have := HE.out; rw [this] at hE'; injection hE'
        have HV : Hid (GotR es pk (i + 1) (rs ++ [recE E val])) := Lib.hid (HG.out.snoc hE' hval)
        obtain ⟨r, HRR⟩ : ∃ r, Hid (r = recE E val) := ⟨_, Lib.hid rfl⟩
        rw [← HRR.out] at HV ⊢
        unfold recV
        have hS2 := HR.out.2.mono hb
        have hS3 := (hS2.alloc' (.cells #[.int .i64 r.kind, .int .i64 r.seq, .string ⟨r.key.toArray⟩, .string ⟨r.val.toArray⟩] 26)).alloc' (.cells #[.int .i64 r.kind, .int .i64 r.seq, .string ⟨r.key.toArray⟩, .string ⟨r.val.toArray⟩] 26)
        have hr3 := HR.out.1
        have hn3 : Rd ((w2.alloc (.cells #[.int .i64 r.kind, .int .i64 r.seq, .string ⟨r.key.toArray⟩, .string ⟨r.val.toArray⟩] 26)).alloc (.cells #[.int .i64 r.kind, .int .i64 r.seq, .string ⟨r.key.toArray⟩, .string ⟨r.val.toArray⟩] 26)) 4 (.slice (some ⟨w2.heap.size + 1, 0, none⟩) 1 1) 1 (recC r) := by
          have := Rd.litsN 4 (w2.alloc (.cells #[.int .i64 r.kind, .int .i64 r.seq, .string ⟨r.key.toArray⟩, .string ⟨r.val.toArray⟩] 26)) #[.int .i64 r.kind, .int .i64 r.seq, .string ⟨r.key.toArray⟩, .string ⟨r.val.toArray⟩] 26 (by decide) rfl (by decide)
          rwa [show (w2.alloc (.cells #[.int .i64 r.kind, .int .i64 r.seq, .string ⟨r.key.toArray⟩, .string ⟨r.val.toArray⟩] 26)).heap.size = w2.heap.size + 1 from by simp] at this
        clear hE' hval hb hS2 hj
        go_wp2_with ((at_builtin; (refine wpList_app 0 22 i0 (.agg #[.int .i64 0, .int .i64 0, .string ⟨#[]⟩, .string ⟨#[]⟩]) _ _ rfl rfl rfl rfl Try.underlying22 i0a i0b i0c i0d rfl (by decide) hS3 rfl hr3 hn3 (recC_one r) ?_ ?_ ?_); (unfold maxLen; omega); omega; intro v5 c5 w5 hr5 hS5))
        go_roundg m
        case measure => omega
        case rel =>
          rw [rcs_snoc] at hr5
          refine ⟨i + 1, by omega, by go_num, rs ++ [r], c5, HV, by rw [List.length_append, HRL.out]; rfl, by rw [List.length_append]; exact hr5, hS5⟩
      · have HN : Hid (∃ i E, es[i]? = some E ∧ ¬ ∃ val, ValR es pk i E val) := Lib.hid ⟨j, E', hE', hno⟩
        have hS2 := (HR.out.2.mono hb).pick [] (by decide) [] rfl
        have HS2 := Lib.hid hS2
        unfold recV rec0
        clear hE' hno hb hS2 hj
        go_wp2_with fail
        go_ret2
        exact .inr ⟨HN.out, rfl, HS2.out.alloc' _⟩
end Go.Proofs.Ythgbkncanoknkaa
/-
  What was sealed is told again.
-/
set_option linter.unusedVariables false
set_option linter.unusedSimpArgs false
namespace Go.Proofs.Ythgbkncanoknkaa
open Go.RowKit
theorem getT_textP (s r : List UInt8) (h : s.length < 18446744073709551616) : getT (textP s ++ r) = some (s, (textP s).length) := by
  have h1 : textP s ++ r = putN s.length ++ (s ++ r) := by unfold textP; rw [List.append_assoc]
  have h2 := getN_putN s.length (s ++ r) h
  have h3 := putN_pos s.length
  unfold getT
  rw [h1, h2]
  simp only
  rw [if_neg (by simp only [List.length_append]; omega), List.drop_left, List.take_left]
  unfold textP
  rw [List.length_append]
def entOf (r : Rec) : Ent := ⟨r.kind.toNat, r.seq.toNat, r.key, r.val.length⟩
theorem entOf_ok {r : Rec} (h : OkR r) : OkE (entOf r) := by
  obtain ⟨h1, h2, h3, h4, h5, h6, h7⟩ := h
  refine ⟨ck_ok.2 ⟨h1, h2, by simp [xR], ?_, fun _ => rfl, ?_, ?_⟩, fun e => ?_⟩
  · show ((r.kind.toNat : Nat) : Int) = 1 ∨ ((r.kind.toNat : Nat) : Int) = 0
    omega
  · show 1 ≤ ((r.seq.toNat : Nat) : Int)
    omega
  · show ((r.seq.toNat : Nat) : Int) ≤ 1125899906842624
    omega
  · have h8 : r.kind.toNat = 0 := e
    have h9 : r.kind = 0 := by omega
    show r.val.length = 0
    rw [h5 h9]; rfl
theorem ents_ok : ∀ {l : List Rec}, (∀ r ∈ l, OkR r) → EntsR (l.flatMap entP) (l.map entOf)
  | [], _ => rfl
  | r :: l, h => by
    have hr := h r (by simp)
    have ih := ents_ok fun x hx => h x (List.mem_cons_of_mem _ hx)
    have hok := entOf_ok hr
    obtain ⟨h1, h2, h3, h4, h5, h6, h7⟩ := hr
    have hk : [UInt8.ofNat r.kind.toNat] = putN r.kind.toNat := by
      rcases h4 with e | e <;> rw [e] <;> rfl
    have e0 : (r :: l).flatMap entP = putN r.kind.toNat ++ (putN r.seq.toNat ++ (textP r.key ++ (putN r.val.length ++ l.flatMap entP))) := by
      rw [List.flatMap_cons, entP, hk]
      simp only [List.append_assoc]
    have g1 := rdN_putN r.kind.toNat 1 (putN r.seq.toNat ++ (textP r.key ++ (putN r.val.length ++ l.flatMap entP))) (by omega) (by omega)
    have g2 := rdN_putN r.seq.toNat 1125899906842624 (textP r.key ++ (putN r.val.length ++ l.flatMap entP)) (by omega) (by omega)
    have g3 := getT_textP r.key (putN r.val.length ++ l.flatMap entP) (by omega)
    have g4 := rdN_putN r.val.length 4000 (l.flatMap entP) (by omega) (by omega)
    rw [e0]
    refine ⟨(putN r.kind.toNat).length, (putN r.seq.toNat).length, (textP r.key).length, (putN r.val.length).length, g1, ?_, ?_, ?_, hok, ?_⟩
    · rw [List.drop_left]; exact g2
    · rw [List.drop_left, List.drop_left]; exact g3
    · rw [List.drop_left, List.drop_left, List.drop_left]; exact g4
    · rw [List.drop_left, List.drop_left, List.drop_left, List.drop_left]; exact ih
theorem SealR.seg {l : List Rec} {y : List UInt8} (h : SealR l y) (hok : ∀ r ∈ l, OkR r) (hl : l.length ≤ 100) : ∃ pk, PackR (valsP l) pk ∧ SegR y (l.map entOf) pk := by
  obtain ⟨pk, hp, rfl⟩ := h
  have hd := dirI_le l.length hok
  refine ⟨pk, hp, dirI l.length l, (putN l.length).length, first_seal _ _ (by omega), ?_, ?_, ?_⟩
  rotate_left 2
  · rw [← sealP_length, List.drop_left]
  · rw [List.length_map]
    exact rdN_putN l.length 1073741824 (l.flatMap entP) (by omega) (by omega)
  · unfold dirI
    rw [List.drop_left]
    exact ents_ok hok
theorem sizes_vals (l : List Rec) : sizesP (l.map entOf) = (valsP l).length := by
  induction l with
  | nil => rfl
  | cons r l ih =>
    have : sizesP ((r :: l).map entOf) = r.val.length + sizesP (l.map entOf) := by simp [sizesP, entOf]
    rw [this, ih]
    simp [valsP]
theorem vals_at {l : List Rec} {i : Nat} {r : Rec} (hr : l[i]? = some r) : ((valsP l).drop (valsP (l.take i)).length).take r.val.length = r.val ∧ (valsP (l.take i)).length + r.val.length ≤ (valsP l).length := by
  have hi := (List.getElem?_eq_some_iff.1 hr).1
  have h1 : l = l.take i ++ r :: l.drop (i + 1) := by
    have h2 := List.drop_eq_getElem_cons hi
    have h3 : l[i] = r := by rw [List.getElem?_eq_getElem hi] at hr; injection hr
    rw [h3] at h2
    rw [← h2, List.take_append_drop]
  have h2 : valsP l = valsP (l.take i) ++ (r.val ++ valsP (l.drop (i + 1))) := by
    conv => lhs; rw [h1]
    simp [valsP]
  constructor
  · rw [h2, List.drop_left, List.take_left]
  · rw [h2, List.length_append, List.length_append]; omega
theorem val_of {l : List Rec} {pk : List UInt8} (hp : PackR (valsP l) pk) (hv : (valsP l).length ≤ 100000) {i : Nat} {r : Rec} (hr : l[i]? = some r) {val : List UInt8} : ValR (l.map entOf) pk i (entOf r) val ↔ val = r.val := by
  obtain ⟨h1, h2⟩ := vals_at hr
  have h3 : sizesP ((l.map entOf).take i) = (valsP (l.take i)).length := by rw [← List.map_take, sizes_vals]
  have h4 := hp.part hv h2
  rw [h1] at h4
  constructor
  · rintro (⟨e1, e2⟩ | ⟨e1, e2⟩)
    · have e3 : r.val.length = 0 := e1
      rw [e2, List.eq_nil_of_length_eq_zero e3]
    · rw [h3] at e2
      exact e2.one h4
  · rintro rfl
    by_cases e : r.val.length = 0
    · exact .inl ⟨e, List.eq_nil_of_length_eq_zero e⟩
    · refine .inr ⟨by show 0 < r.val.length; omega, ?_⟩
      rw [h3]
      exact h4
theorem recE_of {r : Rec} (h : OkR r) : recE (entOf r) r.val = r := by
  obtain ⟨_, _, _, h4, _, h6, _⟩ := h
  obtain ⟨k, s, key, v⟩ := r
  simp only at h4 h6
  simp only [recE, entOf]
  congr 1 <;> omega
end Go.Proofs.Ythgbkncanoknkaa
/-
  Shared by the laws of sealed segments: what was sealed and opened; begun.
-/
set_option linter.unusedVariables false
set_option linter.unusedSimpArgs false
namespace Go.Proofs.Ythgbkncanoknkaa
open Go.RowKit
set_option maxRecDepth 100000
theorem SealR.len_le {l : List Rec} {y : List UInt8} (h : SealR l y) (hok : ∀ r ∈ l, OkR r) (hl : l.length ≤ 100) (hv : (valsP l).length ≤ 100000) : y.length ≤ 200000 := by
  obtain ⟨pk, hp, rfl⟩ := h
  have h1 := dirI_le l.length hok
  have h2 := hp.size
  rw [List.length_append, sealP_length]
  omega
theorem sopen_seal (v : Value) (l : List Rec) (y : List UInt8) (w : World) (h : Rd w 1 v y.length (bv y)) (hs : SealR l y) (hok : ∀ r ∈ l, OkR r) (hl : l.length ≤ 100) (hv : (valsP l).length ≤ 100000) :
    Calls Try.prog 14 #[v] w fun e w' => ∃ p pk, e = .returned (.tuple #[.pointer (some ⟨p, 0, none⟩), .int .i64 0]) ∧ PackR (valsP l) pk ∧ SegIn w' p (l.map entOf) pk ∧ Below w.heap.size w w' := by
  have hy := hs.len_le hok hl hv
  obtain ⟨pk, hp, hseg⟩ := hs.seg hok hl
  refine (sopen_any v y w h (by omega)).mono ?_
  rintro e w' ⟨hb, ⟨es, pk', p, h1, rfl, h3⟩ | ⟨hno, _⟩⟩
  · obtain ⟨rfl, rfl⟩ := hseg.one h1
    exact ⟨p, pk, rfl, hp, h3, hb⟩
  · exact absurd ⟨_, _, hseg⟩ hno
theorem sealed_sizes {l : List Rec} (hok : ∀ r ∈ l, OkR r) (hv : (valsP l).length ≤ 100000) : (∀ E ∈ l.map entOf, E.size ≤ 4000) ∧ sizesP (l.map entOf) ≤ 1099511627776 := by
  refine ⟨fun E hE => ?_, by rw [sizes_vals]; omega⟩
  obtain ⟨r, hr, rfl⟩ := List.mem_map.1 hE
  exact (hok r hr).2.2.1
theorem GetR.sealed {l : List Rec} {pk : List UInt8} (hp : PackR (valsP l) pk) (hok : ∀ r ∈ l, OkR r) (hv : (valsP l).length ≤ 100000) {i : Nat} {r : Rec} (hr : l[i]? = some r) {e : Ending} (h : GetR (l.map entOf) pk (i : Int) e) : e = .returned (.tuple #[recV r, .int .i64 0]) := by
  have hi := (List.getElem?_eq_some_iff.1 hr).1
  rcases h with ⟨h1, _⟩ | ⟨j, E, hj, hE, h1⟩
  · rw [List.length_map] at h1; omega
  · obtain rfl : i = j := by omega
    rw [List.getElem?_map, hr] at hE
    obtain rfl : entOf r = E := by simpa using hE
    rcases h1 with ⟨val, h2, rfl⟩ | ⟨h2, _⟩
    · rw [(val_of hp hv hr).1 h2, recE_of (hok r (List.mem_of_getElem? hr))]
    · exact absurd ⟨_, (val_of hp hv hr).2 rfl⟩ h2
theorem sget_seal (p i : Nat) (l : List Rec) (pk : List UInt8) (r : Rec) (w : World) (h : SegIn w p (l.map entOf) pk) (hp : PackR (valsP l) pk) (hok : ∀ r ∈ l, OkR r) (hl : l.length ≤ 100) (hv : (valsP l).length ≤ 100000) (hr : l[i]? = some r) :
    Calls Try.prog 16 #[.pointer (some ⟨p, 0, none⟩), .int .i64 (i : Int)] w fun e w' => e = .returned (.tuple #[recV r, .int .i64 0]) ∧ Below w.heap.size w w' := by
  have h1 := hp.size
  obtain ⟨h2, h3⟩ := sealed_sizes hok hv
  have hi := (List.getElem?_eq_some_iff.1 hr).1
  refine (sget_any p _ pk (i : Int) w h (by rw [List.length_map]; omega) (by omega) h2 h3 (by omega)).mono ?_
  rintro e w' ⟨hb, hg⟩
  exact ⟨hg.sealed hp hok hv hr, hb⟩
theorem sget_out (p : Nat) (i : Int) (l : List Rec) (pk : List UInt8) (w : World) (h : SegIn w p (l.map entOf) pk) (hp : PackR (valsP l) pk) (hok : ∀ r ∈ l, OkR r) (hl : l.length ≤ 100) (hv : (valsP l).length ≤ 100000) (hr : i < 0 ∨ (l.length : Int) ≤ i) (hi : -9223372036854775808 ≤ i ∧ i ≤ 9223372036854775807) :
    Calls Try.prog 16 #[.pointer (some ⟨p, 0, none⟩), .int .i64 i] w fun e w' => e = .returned (.tuple #[recV rec0, .int .i64 7]) ∧ Below w.heap.size w w' := by
  have h1 := hp.size
  obtain ⟨h2, h3⟩ := sealed_sizes hok hv
  refine (sget_any p _ pk i w h (by rw [List.length_map]; omega) (by omega) h2 h3 hi).mono ?_
  rintro e w' ⟨hb, ⟨_, rfl⟩ | ⟨j, E, hj, hE, _⟩⟩
  · exact ⟨rfl, hb⟩
  · have := (List.getElem?_eq_some_iff.1 hE).1
    rw [List.length_map] at this
    omega
theorem slen_seal (p : Nat) (l : List Rec) (pk : List UInt8) (w : World) (h : SegIn w p (l.map entOf) pk) : Calls Try.prog 15 #[.pointer (some ⟨p, 0, none⟩)] w fun e w' => e = .returned (.int .i64 (l.length : Int)) ∧ w = w' := by
  refine (slen_any p _ pk w h).mono ?_
  rintro e w' ⟨rfl, hw⟩
  exact ⟨by rw [List.length_map], hw⟩
/-- The place of a key's last record, of records. -/
def lastR (l : List Rec) (key : List UInt8) : Nat → Option Nat
  | 0 => none
  | n + 1 => match l[n]? with
    | some r => if r.key = key then some n else lastR l key n
    | none => lastR l key n
theorem lastN_of (l : List Rec) (key : List UInt8) : ∀ n, lastN (l.map entOf) key n = lastR l key n
  | 0 => rfl
  | n + 1 => by
    rw [lastN, lastR, List.getElem?_map, lastN_of l key n]
    cases l[n]? <;> rfl
theorem sfind_seal (p : Nat) (l : List Rec) (pk key : List UInt8) (w : World) (h : SegIn w p (l.map entOf) pk) (hl : l.length ≤ 100) :
    Calls Try.prog 17 #[.pointer (some ⟨p, 0, none⟩), .string ⟨key.toArray⟩] w fun e w' => ((lastR l key l.length = none ∧ e = .returned (.tuple #[.int .i64 0, .bool false])) ∨ ∃ i, lastR l key l.length = some i ∧ e = .returned (.tuple #[.int .i64 (i : Int), .bool true])) ∧ w = w' := by
  refine (sfind_any p _ pk key w h (by rw [List.length_map]; omega)).mono ?_
  rintro e w' ⟨hf, hw⟩
  unfold FindR at hf
  rw [lastN_of, List.length_map] at hf
  exact ⟨hf, hw⟩
theorem lastR_lt {l : List Rec} {key : List UInt8} : ∀ {n i : Nat}, lastR l key n = some i → i < n ∧ ∃ r, l[i]? = some r ∧ r.key = key
  | 0, i, h => by cases h
  | n + 1, i, h => by
    rw [lastR] at h
    cases hr : l[n]? with
    | none =>
      rw [hr] at h
      obtain ⟨h1, h2⟩ := lastR_lt h
      exact ⟨by omega, h2⟩
    | some r =>
      rw [hr] at h
      simp only at h
      split at h
      · rename_i hk
        injection h with h
        subst h
        exact ⟨by omega, r, hr, hk⟩
      · obtain ⟨h1, h2⟩ := lastR_lt h
        exact ⟨by omega, h2⟩
/-- A sealed list's bytes lie, what was opened of it. -/
theorem build_ok (v : Value) (l : List Rec) (w : World) (h : Rd w 4 v l.length (rcs l)) (hl : l.length ≤ 100) (hv : (valsP l).length ≤ 100000) (hok : ∀ r ∈ l, OkR r) :
    Calls Try.prog 12 #[v] w fun e w' => ∃ y v c, e = .returned (.tuple #[v, .int .i64 0]) ∧ RowC 5 1 v y.length (bv y) c ∧ SealR l y ∧ St w.heap.size w w' [c] := by
  refine (build_any v l w h hl hv).mono ?_
  rintro e w' (⟨hf, _⟩ | ⟨_, h⟩)
  · exact absurd (faultR_zero.2 hok) hf
  · exact h
def recK : Rec := ⟨1, 1, [107], [118]⟩
theorem recK_ok : ∀ r ∈ [recK], OkR r := by
  intro r hr
  rw [List.mem_singleton] at hr
  subst hr
  exact ⟨by decide, by decide, by decide, .inl rfl, by decide, by decide, by decide⟩
set_option maxHeartbeats 4000000 in
theorem begun16_any (w : World) : Calls Try.prog 9 #[] w fun e w' => e = .returned (.bool true) ∧ Below w.heap.size w w' := by
  have hS0 := (St.init w).alloc (.cells #[.int .i64 1, .int .i64 1, .string ⟨#[107]⟩, .string ⟨#[118]⟩] 26 (0, 0))
  have hr0 : Rd (w.alloc (.cells #[.int .i64 1, .int .i64 1, .string ⟨#[107]⟩, .string ⟨#[118]⟩] 26)) 4 (.slice (some ⟨w.heap.size, 0, none⟩) 1 1) [recK].length (rcs [recK]) := Rd.litsN 4 w #[.int .i64 1, .int .i64 1, .string ⟨#[107]⟩, .string ⟨#[118]⟩] 26 (by decide) rfl (by decide)
  have HB0 := Lib.hid (build_ok _ [recK] _ hr0 (by decide) (by decide) recK_ok)
  have HS0 := Lib.hid hS0
  clear hS0 hr0
  go_enter Try.func9, Try.ntmps9
  go_wp2_with fail
  refine HB0.out.mono ?_
  rintro e w1 ⟨y, v1, c1, rfl, hr1, hseal, hS1⟩
  have HR1 := Lib.hid (And.intro (hr1.rd hS1 0 rfl) (And.intro hseal (HS0.out.mono hS1.below)))
  obtain ⟨ao1, cap1, rfl⟩ := hr1.shape
  clear hr1 hseal hS1
  go_wp2_with fail
  refine (sopen_seal _ [recK] y w1 HR1.out.1 HR1.out.2.1 recK_ok (by decide) (by decide)).mono ?_
  rintro e w2 ⟨p, pk, rfl, hp, hin, hb⟩
  have H2 := Lib.hid (And.intro hin (And.intro hp (HR1.out.2.2.mono hb)))
  clear hp hin hb
  go_wp2_with fail
  refine (sget_seal p 0 [recK] pk recK w2 H2.out.1 H2.out.2.1 recK_ok (by decide) (by decide) rfl).mono ?_
  rintro e w3 ⟨rfl, hb⟩
  unfold recV recK
  dsimp only
  have hS3 := (H2.out.2.2.mono hb).alloc (.cells #[.int .i64 1, .int .i64 1, .string ⟨#[107]⟩, .string ⟨#[118]⟩] 26 (0, 0))
  obtain ⟨w4, HW4⟩ : ∃ w4, Hid (w4 = w3.alloc (.cells #[.int .i64 1, .int .i64 1, .string ⟨#[107]⟩, .string ⟨#[118]⟩] 26 (0, 0))) := ⟨_, Lib.hid rfl⟩
  have HS4 : Hid (St w.heap.size w w4 _) := Lib.hid (by rw [HW4.out]; exact hS3)
  have HI4 : Hid (SegIn w4 p ([recK].map entOf) pk) := Lib.hid (by rw [HW4.out]; exact H2.out.1.keep (hb.trans ((Below.refl _ w3).alloc hb.size _)))
  clear hS3 hb
  go_wp2_with fail
  rw [← HW4.out]
  refine (sfind_seal p [recK] pk [107] w4 HI4.out (by decide)).mono ?_
  rintro e w5 ⟨⟨hn, _⟩ | ⟨i, hi, rfl⟩, rfl⟩
  · cases hn
  obtain rfl : i = 0 := by
    have h1 : lastR [recK] [107] 1 = some 0 := rfl
    have h2 : lastR [recK] [107] 1 = some i := hi
    rw [h1] at h2
    injection h2 with h2
    exact h2.symm
  clear hi
  go_wp2_with fail
  refine (sget_out p 1 [recK] pk w4 HI4.out H2.out.2.1 recK_ok (by decide) (by decide) (.inr (by decide)) (by decide)).mono ?_
  rintro e w6 ⟨rfl, hb6⟩
  unfold recV rec0
  dsimp only
  have hS6 := HS4.out.mono hb6
  have hS7 := hS6.alloc' (.cells #[.int .i64 0, .int .i64 0, .string ⟨#[]⟩, .string ⟨#[]⟩] 26 (0, 0))
  have HI7 := Lib.hid (HI4.out.keep (hb6.trans ((Below.refl _ w6).alloc hb6.size (.cells #[.int .i64 0, .int .i64 0, .string ⟨#[]⟩, .string ⟨#[]⟩] 26 (0, 0)))))
  have HB7 := Lib.hid hS7.below
  have k3 : (w6.alloc (.cells #[.int .i64 0, .int .i64 0, .string ⟨#[]⟩, .string ⟨#[]⟩] 26 (0, 0))).cell? ⟨w3.heap.size, 3, none⟩ = some (.string ⟨#[118]⟩) := hS7.cell 0 rfl (List.mem_singleton.2 rfl) 3
  clear hS6 hS7 hb6
  go_wp2_with fail
  refine (slen_seal p [recK] pk _ HI7.out).mono ?_
  rintro e w8 ⟨rfl, rfl⟩
  go_wp2_with fail
  go_ret
  exact ⟨rfl, HB7.out⟩
end Go.Proofs.Ythgbkncanoknkaa
/-
  foliolaw1.Short, foliolaw1.Ints.
-/
set_option linter.unusedVariables false
set_option linter.unusedSimpArgs false
namespace Go.Proofs.Ythgbkncanoknkaa
open Go.RowKit
set_option maxRecDepth 100000
theorem short_any (v : Value) (bs : List UInt8) (k : Nat) (w : World) (h : Rd w 1 v bs.length (bv bs)) (hk : k ≤ 1000000) :
    Calls Try.prog 13 #[v, .int .i64 (k : Int)] w fun e w' => ∃ v', e = .returned v' ∧ Rd w 1 v' (bs.take k).length (bv (bs.take k)) ∧ w = w' := by
  obtain ⟨ao, cap, rfl⟩ := h.shape
  have hsm := h.small
  have hcp := h.cap.1
  have hcp2 := h.cap.2
  by_cases hlt : k < bs.length
  · have hlt' : (k : Int) < bs.length := by omega
    have hcap : ao ≠ none := by
      rintro rfl
      have := h.none_iff
      omega
    obtain ⟨ad, rfl⟩ : ∃ ad, ao = some ad := by cases ao with | none => exact absurd rfl hcap | some ad => exact ⟨ad, rfl⟩
    clear hcap
    go_enter Try.func13, Try.ntmps13
    go_wp2
    go_ret
    have := h.take k (by omega)
    rw [Nat.mul_one] at this
    refine ⟨_, rfl, ?_, rfl⟩
    rw [show (bs.take k).length = k from by simp; omega]
    simpa [bv] using this
  · have hge : ¬ (k : Int) < bs.length := by omega
    go_enter Try.func13, Try.ntmps13
    go_wp2
    go_ret
    refine ⟨_, rfl, ?_, rfl⟩
    rw [List.take_of_length_le (by omega)]
    simpa [Nat.min_eq_right (show bs.length ≤ k by omega)] using h
theorem short_gen (v : Value) (bs : List UInt8) (k : Nat) (w : World) (h : Rd w 1 v bs.length (bv bs)) (hk : k ≤ 1000000) :
    Calls Try.prog 13 #[v, .int .i64 (k : Int)] w fun e w' => ∃ v', e = .returned v' ∧ (∀ wx, Rd wx 1 v bs.length (bv bs) → Rd wx 1 v' (bs.take k).length (bv (bs.take k))) ∧ w = w' := by
  obtain ⟨ao, cap, rfl⟩ := h.shape
  have hsm := h.small
  have hcp := h.cap.1
  have hcp2 := h.cap.2
  by_cases hlt : k < bs.length
  · have hlt' : (k : Int) < bs.length := by omega
    have hcap : ao ≠ none := by
      rintro rfl
      have := h.none_iff
      omega
    obtain ⟨ad, rfl⟩ : ∃ ad, ao = some ad := by cases ao with | none => exact absurd rfl hcap | some ad => exact ⟨ad, rfl⟩
    clear hcap h
    go_enter Try.func13, Try.ntmps13
    go_wp2
    go_ret
    refine ⟨_, rfl, fun wx hx => ?_, rfl⟩
    have := hx.take k (by omega)
    rw [Nat.mul_one] at this
    rw [show (bs.take k).length = k from by simp; omega]
    simpa [bv] using this
  · have hge : ¬ (k : Int) < bs.length := by omega
    clear h
    go_enter Try.func13, Try.ntmps13
    go_wp2
    go_ret
    refine ⟨_, rfl, fun wx hx => ?_, rfl⟩
    rw [List.take_of_length_le (by omega)]
    simpa [Nat.min_eq_right (show bs.length ≤ k by omega)] using hx
end Go.Proofs.Ythgbkncanoknkaa
/-
  Arguments that are slices: opened into the words of Base.
-/
set_option linter.unusedVariables false
set_option linter.unusedSimpArgs false
namespace Go.Proofs.Ythgbkncanoknkaa
set_option maxRecDepth 100000
open Go.ChangeShapes Go.WideShapes Go.ChangeAt Go.RowKit

theorem bytes_of_ints (zs : List Int) (h : ∀ z ∈ zs, (Lit.int .u8 z).wf = true) : ∃ bs : List UInt8, bv bs = zs.map (Value.int .u8) ∧ bs.length = zs.length := by
  induction zs with
  | nil => exact ⟨[], rfl, rfl⟩
  | cons z zs ih =>
    obtain ⟨bs, h1, h2⟩ := ih fun y hy => h y (by simp [hy])
    have hz := bounds_u8 (h z (by simp))
    refine ⟨UInt8.ofNat z.toNat :: bs, ?_, by simp [h2]⟩
    simp only [bv, List.map_cons] at h1 ⊢
    rw [h1]
    congr 2
    simp only [UInt8.toNat_ofNat']
    omega
theorem open_bytes {H : Type} {enc : TypeId × Value → H} {W : World} {spare : Nat → Bool} {held : Bool} {v : Value} {d : DataW H} {ps : List MemPlace} {ts : List TypeId} {ds : List (DataW H)} {j : Nat} {base : Nat}
    (hsz : (DataW.weightsEach Try.prog ts ds).all (· ≤ reachBytes) = true) (ht : ts[j]? = some 29) (hd : ds[j]? = some d)
    (hv : Value.okWide Try.prog W .any base 29 v) (h : DataW.Trod enc Try.prog W 0 spare held 29 v d ps) :
    ∃ bs : List UInt8, Rd W 1 v bs.length (bv bs) ∧ bs.length ≤ 140737488351232 := by
  obtain ⟨n, zs, h1, h2, h3⟩ := open_nums hsz ht hd Try.underlying29 Try.underlying5 (by kernel_rfl) (B := 1) (by kernel_rfl) hv h
  obtain ⟨bs, e1, e2⟩ := bytes_of_ints zs h2
  have hl := h1.len
  simp at hl
  rw [← e1] at h1
  have : bs.length = n := by omega
  subst this
  exact ⟨bs, h1, by omega⟩
end Go.Proofs.Ythgbkncanoknkaa
/-
  An argument []api.Record opened.
-/
set_option linter.unusedVariables false
set_option linter.unusedSimpArgs false
namespace Go.Proofs.Ythgbkncanoknkaa
open Go.ChangeShapes Go.WideShapes Go.ChangeAt Go.RowKit
/-- What any record is. -/
def WfR (r : Rec) : Prop := r.key.length ≤ maxLen ∧ r.val.length ≤ maxLen ∧ (Lit.int .i64 r.kind).wf = true ∧ (Lit.int .i64 r.seq).wf = true
set_option maxRecDepth 100000 in
theorem open_api_Record {H : Type} {enc : TypeId × Value → H} {W : World} {spare : Nat → Bool} {held : Bool} {v : Value} {d : DataW H} {ps : List MemPlace} {ts : List TypeId} {ds : List (DataW H)} {j : Nat} {base : Nat}
    (hsz : (DataW.weightsEach Try.prog ts ds).all (· ≤ reachBytes) = true) (ht : ts[j]? = some 22) (hd : ds[j]? = some d)
    (hv : Value.okWide Try.prog W .any base 22 v) (h : DataW.Trod enc Try.prog W 0 spare held 22 v d ps) :
    ∃ (n : Nat) (os : List Rec), (Rd W 4 v n (rcs os) ∧ os.length = n ∧ ∀ o ∈ os, WfR o) ∧ n * 48 ≤ 140737488351232 := by
  obtain ⟨n, rows, h1, h2, h3, h4⟩ := open_structs (sz := 4) (B := 48) (fun r => ∃ o : Rec, r = recC o ∧ WfR o) hsz ht hd Try.underlying22 (by kernel_rfl) (by omega) (by kernel_rfl) (by
    intro k cs x hx
    obtain ⟨y0, y1, y2, y3, m, _, hl, g0, g1, g2, g3⟩ := Go.Joins.trod_struct4 Try.underlying26 hx
    obtain ⟨a, e0, _, w0⟩ := DataW.trod_int Try.underlying3 g0
    obtain ⟨b, e1, _, w1⟩ := DataW.trod_int Try.underlying2 g1
    obtain ⟨c, e2, _, w2⟩ := DataW.trod_string Try.underlying9 g2
    obtain ⟨z, e3, _, w3⟩ := DataW.trod_string Try.underlying9 g3
    refine ⟨⟨a, b, c.data.toList, z.data.toList⟩, ?_, (by show c.data.toList.length ≤ maxLen; rw [Array.length_toList]; exact w2), (by show z.data.toList.length ≤ maxLen; rw [Array.length_toList]; exact w3), w0, w1⟩
    have hl2 : cs.length = 4 := hl.trans (by kernel_rfl)
    match cs, hl2 with
    | [c0, c1, c2, c3], _ =>
      have e0' : [c0] = [.int .i64 a] := e0
      have e1' : [c1] = [.int .i64 b] := e1
      have e2' : [c2] = [.string c] := e2
      have e3' : [c3] = [.string z] := e3
      simp only [List.cons.injEq, and_true] at e0' e1' e2' e3'
      rw [e0', e1', e2', e3']
      unfold recC
      rw [Array.toArray_toList, Array.toArray_toList]) hv h
  obtain ⟨os, e, hw⟩ := rows_of recC _ rows fun r hr => (h2 r hr).1
  refine ⟨n, os, ⟨?_, ?_, hw⟩, h4⟩
  · rw [e] at h3
    exact h3
  · rw [e, List.length_map] at h1
    exact h1
end Go.Proofs.Ythgbkncanoknkaa
/-
  Helpers of the laws on records: Cut, Check, Eq, last.
-/
set_option linter.unusedVariables false
set_option linter.unusedSimpArgs false
namespace Go.Proofs.Ythgbkncanoknkaa
open Go.RowKit
set_option maxRecDepth 100000
theorem extract_take (s : List UInt8) (n : Nat) : (⟨s.toArray⟩ : ByteArray).extract 0 n = ⟨(s.take n).toArray⟩ := by
  apply ByteArray.ext
  simp
set_option maxHeartbeats 1000000 in
theorem cuts_any (s : List UInt8) (n : Nat) (w : World) (hs : s.length ≤ maxLen) (hn : n ≤ 1000) : Calls Try.prog 25 #[.string ⟨s.toArray⟩, .int .i64 (n : Int)] w fun e w' => e = .returned (.string ⟨(s.take n).toArray⟩) ∧ w = w' := by
  have hsl := strLen s
  by_cases q : n < s.length
  · have qi : (n : Int) < (s.length : Int) := by omega
    go_enter Try.func25, Try.ntmps25
    go_wp2_with fail
    go_ret
    exact ⟨congrArg (fun z : ByteArray => Ending.returned (.string z)) (extract_take s n), rfl⟩
  · have qi : ¬ (n : Int) < (s.length : Int) := by omega
    go_enter Try.func25, Try.ntmps25
    go_wp2_with fail
    go_ret
    exact ⟨by rw [List.take_of_length_le (by omega)]; rfl, rfl⟩
set_option maxHeartbeats 2000000 in
theorem refcheck14_any (r : Rec) (w : World) : Calls Try.prog 11 #[recV r] w fun e w' => e = .returned (.int .i64 (ckR r : Int)) ∧ ∃ o, w' = w.alloc o := by
  obtain ⟨kind, seq, key, val⟩ := r
  have hk : (⟨key.toArray⟩ : ByteArray).size = key.length := by simp [ByteArray.size]
  have hv : (⟨val.toArray⟩ : ByteArray).size = val.length := by simp [ByteArray.size]
  unfold recV
  dsimp only
  go_enter Try.func11, Try.ntmps11
  go_wp2_with fail
  all_goals
    go_ret
    refine ⟨?_, _, rfl⟩
    clear hk hv
    simp only [ckR]
    first
    | rfl
    | ((repeat' split) <;> first | rfl | (exfalso; simp_all; done) | (exfalso; omega) | (exfalso; simp_all; omega))
/-- A record that is not too long. -/
def cutR (r : Rec) : Rec := ⟨r.kind, r.seq, r.key.take 110, r.val.take 300⟩
set_option maxHeartbeats 2000000 in
theorem cut14_any (r : Rec) (w : World) (hk : r.key.length ≤ maxLen) (hv : r.val.length ≤ maxLen) : Calls Try.prog 10 #[recV r] w fun e w' => e = .returned (recV (cutR r)) ∧ Below w.heap.size w w' := by
  obtain ⟨kind, seq, key, val⟩ := r
  unfold cutR recV
  dsimp only at hk hv ⊢
  have HK := Lib.hid hk
  have HV := Lib.hid hv
  obtain ⟨w2, HW2⟩ : ∃ w2, Hid (w2 = (w.alloc (.cells #[.int .i64 kind, .int .i64 seq, .string ⟨key.toArray⟩, .string ⟨val.toArray⟩] 26 (0, 0))).alloc (.cells #[.int .i64 0, .int .i64 0, .string ⟨#[]⟩, .string ⟨#[]⟩] 26 (0, 0))) := ⟨_, Lib.hid rfl⟩
  have HS2 : Hid (St w.heap.size w w2 [[(w.heap.size + 1, .cells #[.int .i64 0, .int .i64 0, .string ⟨#[]⟩, .string ⟨#[]⟩] 26 (0, 0))], [(w.heap.size, .cells #[.int .i64 kind, .int .i64 seq, .string ⟨key.toArray⟩, .string ⟨val.toArray⟩] 26 (0, 0))]]) := Lib.hid (by
    rw [HW2.out]
    have := ((St.init w).alloc (.cells #[.int .i64 kind, .int .i64 seq, .string ⟨key.toArray⟩, .string ⟨val.toArray⟩] 26 (0, 0))).alloc (.cells #[.int .i64 0, .int .i64 0, .string ⟨#[]⟩, .string ⟨#[]⟩] 26 (0, 0))
    rw [show (w.alloc (.cells #[.int .i64 kind, .int .i64 seq, .string ⟨key.toArray⟩, .string ⟨val.toArray⟩] 26 (0, 0))).heap.size = w.heap.size + 1 from by simp] at this
    exact this)
  have k2 : w2.cell? ⟨w.heap.size, 2, none⟩ = some (.string ⟨key.toArray⟩) := HS2.out.cell 1 rfl (List.mem_singleton.2 rfl) 2
  have k3 : w2.cell? ⟨w.heap.size, 3, none⟩ = some (.string ⟨val.toArray⟩) := HS2.out.cell 1 rfl (List.mem_singleton.2 rfl) 3
  have f2 : w2.frozen? ⟨w.heap.size, 2, none⟩ = false := HS2.out.free 1 rfl (List.mem_singleton.2 rfl) 2
  have f3 : w2.frozen? ⟨w.heap.size, 3, none⟩ = false := HS2.out.free 1 rfl (List.mem_singleton.2 rfl) 3
  have HCELL : Hid (∀ w' : World, True → True ∧ True ∧ True ∧ True) := Lib.hid (fun _ _ => ⟨trivial, trivial, trivial, trivial⟩)
  clear hk hv
  go_enter Try.func10, Try.ntmps10
  go_wp2_with fail
  rw [← HW2.out]
  refine wp_region_held_drew (S := fun _ => True) mixed trivial (fun hSS => ?_)
  refine take_d (i := 0) 3 (.pointer (some ⟨w.heap.size, 2, none⟩)) rfl rfl (by kernel_rfl) (by kernel_rfl) (by kernel_rfl) (fun _ _ _ h => h) (Or.inl ⟨by rfl, ?_⟩) hSS ?_
  (focus (intro w' hw'; have hb1 := HCELL.out w' hw'; obtain ⟨hb1, hb2, hb3, hb4⟩ := hb1; first | (go_simp; done) | (go_simp; simp [qx0, qx1, qx2]; done)))
  simp only [Act.put, List.setIfInBounds_toArray, List.set_cons_zero, List.set_cons_succ]
  refine take_d (i := 3) 6 (.pointer (some ⟨w.heap.size, 3, none⟩)) rfl rfl (by kernel_rfl) (by kernel_rfl) (by kernel_rfl) (fun _ _ _ h => h) (Or.inl ⟨by rfl, ?_⟩) hSS ?_
  (focus (intro w' hw'; have hb1 := HCELL.out w' hw'; obtain ⟨hb1, hb2, hb3, hb4⟩ := hb1; first | (go_simp; done) | (go_simp; simp [qx0, qx1, qx2]; done)))
  simp only [Act.put, List.setIfInBounds_toArray, List.set_cons_zero, List.set_cons_succ]
  refine wpAnyH_ready (rs := [1, 4]) (by kernel_rfl) (by simp) (AllReadyH.cons rfl (fun K hK => ?_) (AllReadyH.cons rfl (fun K hK => ?_) AllReadyH.nil))
  · rw [if_pos (by rfl)]
    go_simp
    refine hK.out _ _ trivial (fun hSS => ?_)
    try simp only [Act.put, List.setIfInBounds_toArray, List.set_cons_zero, List.set_cons_succ]
    refine wpAnyH_ready (rs := [2, 4]) (by kernel_rfl) (by simp) (AllReadyH.cons rfl (fun K hK => ?_) (AllReadyH.cons rfl (fun K hK => ?_) AllReadyH.nil))
    · rw [if_pos (by rfl)]
      go_simp
      refine (cuts_any key 110 _ HK.out (by omega)).mono ?_
      rintro e wc ⟨rfl, rfl⟩
      refine hK.out _ _ trivial (fun hSS => ?_)
      try simp only [Act.put, List.setIfInBounds_toArray, List.set_cons_zero, List.set_cons_succ]
      refine wpAnyH_ready (rs := [4]) (by kernel_rfl) (by simp) (AllReadyH.cons rfl (fun K hK => ?_) AllReadyH.nil)
      rw [if_pos (by rfl)]
      go_simp
      refine hK.out _ _ trivial (fun hSS => ?_)
      try simp only [Act.put, List.setIfInBounds_toArray, List.set_cons_zero, List.set_cons_succ]
      skip
      refine take_d (i := 6) 9 (.pointer (some ⟨w.heap.size, 2, none⟩)) rfl rfl (by kernel_rfl) (by kernel_rfl) (by kernel_rfl) (fun _ _ _ h => h) (Or.inl ⟨by rfl, ?_⟩) hSS ?_
      (focus (intro w' hw'; have hb1 := HCELL.out w' hw'; obtain ⟨hb1, hb2, hb3, hb4⟩ := hb1; first | (go_simp; done) | (go_simp; simp [qx0, qx1, qx2]; done)))
      simp only [Act.put, List.setIfInBounds_toArray, List.set_cons_zero, List.set_cons_succ]
      refine wpAnyH_ready (rs := [5]) (by kernel_rfl) (by simp) (AllReadyH.cons rfl (fun K hK => ?_) AllReadyH.nil)
      rw [if_pos (by rfl)]
      go_simp
      refine (cuts_any val 300 _ HV.out (by omega)).mono ?_
      rintro e wc ⟨rfl, rfl⟩
      refine hK.out _ _ trivial (fun hSS => ?_)
      try simp only [Act.put, List.setIfInBounds_toArray, List.set_cons_zero, List.set_cons_succ]
      refine wpAnyH_ready (rs := [7]) (by kernel_rfl) (by simp) (AllReadyH.cons rfl (fun K hK => ?_) AllReadyH.nil)
      rw [if_pos (by rfl)]
      go_simp
      refine hK.out _ _ trivial (fun hSS => ?_)
      try simp only [Act.put, List.setIfInBounds_toArray, List.set_cons_zero, List.set_cons_succ]
      refine take_d (i := 8) 10 (.pointer (some ⟨w.heap.size, 3, none⟩)) rfl rfl (by kernel_rfl) (by kernel_rfl) (by kernel_rfl) (fun _ _ _ h => h) (Or.inl ⟨by rfl, ?_⟩) hSS ?_
      (focus (intro w' hw'; have hb1 := HCELL.out w' hw'; obtain ⟨hb1, hb2, hb3, hb4⟩ := hb1; first | (go_simp; done) | (go_simp; simp [qx0, qx1, qx2]; done)))
      simp only [Act.put, List.setIfInBounds_toArray, List.set_cons_zero, List.set_cons_succ]
      refine wpAnyH_ready (rs := [9]) (by kernel_rfl) (by simp) (AllReadyH.cons rfl (fun K hK => ?_) AllReadyH.nil)
      rw [if_pos (by rfl)]
      go_simp
      refine hK.out _ _ trivial (fun hSS => ?_)
      try simp only [Act.put, List.setIfInBounds_toArray, List.set_cons_zero, List.set_cons_succ]
      refine wpAnyH_done (by kernel_rfl) ?_ _
      obtain ⟨w5, HW5⟩ : ∃ w5, Hid (w5 = ((w2.setCell ⟨w.heap.size, 2, none⟩ (.string ⟨(key.take 110).toArray⟩)).setCell ⟨w.heap.size, 3, none⟩ (.string ⟨(val.take 300).toArray⟩)).drew) := ⟨_, Lib.hid rfl⟩
      have hS5 : St w.heap.size w w5 [[(w.heap.size + 1, .cells #[.int .i64 0, .int .i64 0, .string ⟨#[]⟩, .string ⟨#[]⟩] 26 (0, 0))], [(w.heap.size, .cells #[.int .i64 kind, .int .i64 seq, .string ⟨(key.take 110).toArray⟩, .string ⟨(val.take 300).toArray⟩] 26 (0, 0))]] := by
        rw [HW5.out]
        exact ((HS2.out.store 1 rfl 2 (.string ⟨(key.take 110).toArray⟩)).store 1 rfl 3 (.string ⟨(val.take 300).toArray⟩)).drew
      rw [← HW5.out]
      clear k2 k3 f2 f3
      have k0 : w5.cell? ⟨w.heap.size, 0, none⟩ = some (.int .i64 kind) := hS5.cell 1 rfl (List.mem_singleton.2 rfl) 0
      have k1 : w5.cell? ⟨w.heap.size, 1, none⟩ = some (.int .i64 seq) := hS5.cell 1 rfl (List.mem_singleton.2 rfl) 1
      have k2 : w5.cell? ⟨w.heap.size, 2, none⟩ = some (.string ⟨(key.take 110).toArray⟩) := hS5.cell 1 rfl (List.mem_singleton.2 rfl) 2
      have k3 : w5.cell? ⟨w.heap.size, 3, none⟩ = some (.string ⟨(val.take 300).toArray⟩) := hS5.cell 1 rfl (List.mem_singleton.2 rfl) 3
      have g0 : w5.cell? ⟨w.heap.size + 1, 0, none⟩ = some (.int .i64 0) := hS5.cell 0 rfl (List.mem_singleton.2 rfl) 0
      have g1 : w5.cell? ⟨w.heap.size + 1, 1, none⟩ = some (.int .i64 0) := hS5.cell 0 rfl (List.mem_singleton.2 rfl) 1
      have g2 : w5.cell? ⟨w.heap.size + 1, 2, none⟩ = some (.string ⟨#[]⟩) := hS5.cell 0 rfl (List.mem_singleton.2 rfl) 2
      have g3 : w5.cell? ⟨w.heap.size + 1, 3, none⟩ = some (.string ⟨#[]⟩) := hS5.cell 0 rfl (List.mem_singleton.2 rfl) 3
      have f0 : w5.frozen? ⟨w.heap.size + 1, 0, none⟩ = false := hS5.free 0 rfl (List.mem_singleton.2 rfl) 0
      have f1 : w5.frozen? ⟨w.heap.size + 1, 1, none⟩ = false := hS5.free 0 rfl (List.mem_singleton.2 rfl) 1
      have f2 : w5.frozen? ⟨w.heap.size + 1, 2, none⟩ = false := hS5.free 0 rfl (List.mem_singleton.2 rfl) 2
      have f3 : w5.frozen? ⟨w.heap.size + 1, 3, none⟩ = false := hS5.free 0 rfl (List.mem_singleton.2 rfl) 3
      have HT := Lib.hid (St.rec4 0 rfl hS5 ⟨kind, seq, key.take 110, val.take 300⟩)
      clear hS5 HS2 HCELL
      go_wp2_with fail
      (try simp only [Exit.inBlock, Exit.then]); refine bodyPost_ret (results_cell_one rfl _ _ _ _ _ 0 rfl HT.out rfl Try.underlying26 rfl hrec4) rfl ?_
      exact ⟨rfl, HT.out.below⟩
    · rw [if_pos (by rfl)]
      go_simp
      refine hK.out _ _ trivial (fun hSS => ?_)
      try simp only [Act.put, List.setIfInBounds_toArray, List.set_cons_zero, List.set_cons_succ]
      refine wpAnyH_ready (rs := [2]) (by kernel_rfl) (by simp) (AllReadyH.cons rfl (fun K hK => ?_) AllReadyH.nil)
      rw [if_pos (by rfl)]
      go_simp
      refine (cuts_any key 110 _ HK.out (by omega)).mono ?_
      rintro e wc ⟨rfl, rfl⟩
      refine hK.out _ _ trivial (fun hSS => ?_)
      try simp only [Act.put, List.setIfInBounds_toArray, List.set_cons_zero, List.set_cons_succ]
      skip
      refine take_d (i := 6) 9 (.pointer (some ⟨w.heap.size, 2, none⟩)) rfl rfl (by kernel_rfl) (by kernel_rfl) (by kernel_rfl) (fun _ _ _ h => h) (Or.inl ⟨by rfl, ?_⟩) hSS ?_
      (focus (intro w' hw'; have hb1 := HCELL.out w' hw'; obtain ⟨hb1, hb2, hb3, hb4⟩ := hb1; first | (go_simp; done) | (go_simp; simp [qx0, qx1, qx2]; done)))
      simp only [Act.put, List.setIfInBounds_toArray, List.set_cons_zero, List.set_cons_succ]
      refine wpAnyH_ready (rs := [5]) (by kernel_rfl) (by simp) (AllReadyH.cons rfl (fun K hK => ?_) AllReadyH.nil)
      rw [if_pos (by rfl)]
      go_simp
      refine (cuts_any val 300 _ HV.out (by omega)).mono ?_
      rintro e wc ⟨rfl, rfl⟩
      refine hK.out _ _ trivial (fun hSS => ?_)
      try simp only [Act.put, List.setIfInBounds_toArray, List.set_cons_zero, List.set_cons_succ]
      refine wpAnyH_ready (rs := [7]) (by kernel_rfl) (by simp) (AllReadyH.cons rfl (fun K hK => ?_) AllReadyH.nil)
      rw [if_pos (by rfl)]
      go_simp
      refine hK.out _ _ trivial (fun hSS => ?_)
      try simp only [Act.put, List.setIfInBounds_toArray, List.set_cons_zero, List.set_cons_succ]
      refine take_d (i := 8) 10 (.pointer (some ⟨w.heap.size, 3, none⟩)) rfl rfl (by kernel_rfl) (by kernel_rfl) (by kernel_rfl) (fun _ _ _ h => h) (Or.inl ⟨by rfl, ?_⟩) hSS ?_
      (focus (intro w' hw'; have hb1 := HCELL.out w' hw'; obtain ⟨hb1, hb2, hb3, hb4⟩ := hb1; first | (go_simp; done) | (go_simp; simp [qx0, qx1, qx2]; done)))
      simp only [Act.put, List.setIfInBounds_toArray, List.set_cons_zero, List.set_cons_succ]
      refine wpAnyH_ready (rs := [9]) (by kernel_rfl) (by simp) (AllReadyH.cons rfl (fun K hK => ?_) AllReadyH.nil)
      rw [if_pos (by rfl)]
      go_simp
      refine hK.out _ _ trivial (fun hSS => ?_)
      try simp only [Act.put, List.setIfInBounds_toArray, List.set_cons_zero, List.set_cons_succ]
      refine wpAnyH_done (by kernel_rfl) ?_ _
      obtain ⟨w5, HW5⟩ : ∃ w5, Hid (w5 = ((w2.setCell ⟨w.heap.size, 2, none⟩ (.string ⟨(key.take 110).toArray⟩)).setCell ⟨w.heap.size, 3, none⟩ (.string ⟨(val.take 300).toArray⟩)).drew) := ⟨_, Lib.hid rfl⟩
      have hS5 : St w.heap.size w w5 [[(w.heap.size + 1, .cells #[.int .i64 0, .int .i64 0, .string ⟨#[]⟩, .string ⟨#[]⟩] 26 (0, 0))], [(w.heap.size, .cells #[.int .i64 kind, .int .i64 seq, .string ⟨(key.take 110).toArray⟩, .string ⟨(val.take 300).toArray⟩] 26 (0, 0))]] := by
        rw [HW5.out]
        exact ((HS2.out.store 1 rfl 2 (.string ⟨(key.take 110).toArray⟩)).store 1 rfl 3 (.string ⟨(val.take 300).toArray⟩)).drew
      rw [← HW5.out]
      clear k2 k3 f2 f3
      have k0 : w5.cell? ⟨w.heap.size, 0, none⟩ = some (.int .i64 kind) := hS5.cell 1 rfl (List.mem_singleton.2 rfl) 0
      have k1 : w5.cell? ⟨w.heap.size, 1, none⟩ = some (.int .i64 seq) := hS5.cell 1 rfl (List.mem_singleton.2 rfl) 1
      have k2 : w5.cell? ⟨w.heap.size, 2, none⟩ = some (.string ⟨(key.take 110).toArray⟩) := hS5.cell 1 rfl (List.mem_singleton.2 rfl) 2
      have k3 : w5.cell? ⟨w.heap.size, 3, none⟩ = some (.string ⟨(val.take 300).toArray⟩) := hS5.cell 1 rfl (List.mem_singleton.2 rfl) 3
      have g0 : w5.cell? ⟨w.heap.size + 1, 0, none⟩ = some (.int .i64 0) := hS5.cell 0 rfl (List.mem_singleton.2 rfl) 0
      have g1 : w5.cell? ⟨w.heap.size + 1, 1, none⟩ = some (.int .i64 0) := hS5.cell 0 rfl (List.mem_singleton.2 rfl) 1
      have g2 : w5.cell? ⟨w.heap.size + 1, 2, none⟩ = some (.string ⟨#[]⟩) := hS5.cell 0 rfl (List.mem_singleton.2 rfl) 2
      have g3 : w5.cell? ⟨w.heap.size + 1, 3, none⟩ = some (.string ⟨#[]⟩) := hS5.cell 0 rfl (List.mem_singleton.2 rfl) 3
      have f0 : w5.frozen? ⟨w.heap.size + 1, 0, none⟩ = false := hS5.free 0 rfl (List.mem_singleton.2 rfl) 0
      have f1 : w5.frozen? ⟨w.heap.size + 1, 1, none⟩ = false := hS5.free 0 rfl (List.mem_singleton.2 rfl) 1
      have f2 : w5.frozen? ⟨w.heap.size + 1, 2, none⟩ = false := hS5.free 0 rfl (List.mem_singleton.2 rfl) 2
      have f3 : w5.frozen? ⟨w.heap.size + 1, 3, none⟩ = false := hS5.free 0 rfl (List.mem_singleton.2 rfl) 3
      have HT := Lib.hid (St.rec4 0 rfl hS5 ⟨kind, seq, key.take 110, val.take 300⟩)
      clear hS5 HS2 HCELL
      go_wp2_with fail
      (try simp only [Exit.inBlock, Exit.then]); refine bodyPost_ret (results_cell_one rfl _ _ _ _ _ 0 rfl HT.out rfl Try.underlying26 rfl hrec4) rfl ?_
      exact ⟨rfl, HT.out.below⟩
  · rw [if_pos (by rfl)]
    go_simp
    refine hK.out _ _ trivial (fun hSS => ?_)
    try simp only [Act.put, List.setIfInBounds_toArray, List.set_cons_zero, List.set_cons_succ]
    refine wpAnyH_ready (rs := [1]) (by kernel_rfl) (by simp) (AllReadyH.cons rfl (fun K hK => ?_) AllReadyH.nil)
    rw [if_pos (by rfl)]
    go_simp
    refine hK.out _ _ trivial (fun hSS => ?_)
    try simp only [Act.put, List.setIfInBounds_toArray, List.set_cons_zero, List.set_cons_succ]
    refine wpAnyH_ready (rs := [2]) (by kernel_rfl) (by simp) (AllReadyH.cons rfl (fun K hK => ?_) AllReadyH.nil)
    rw [if_pos (by rfl)]
    go_simp
    refine (cuts_any key 110 _ HK.out (by omega)).mono ?_
    rintro e wc ⟨rfl, rfl⟩
    refine hK.out _ _ trivial (fun hSS => ?_)
    try simp only [Act.put, List.setIfInBounds_toArray, List.set_cons_zero, List.set_cons_succ]
    skip
    refine take_d (i := 6) 9 (.pointer (some ⟨w.heap.size, 2, none⟩)) rfl rfl (by kernel_rfl) (by kernel_rfl) (by kernel_rfl) (fun _ _ _ h => h) (Or.inl ⟨by rfl, ?_⟩) hSS ?_
    (focus (intro w' hw'; have hb1 := HCELL.out w' hw'; obtain ⟨hb1, hb2, hb3, hb4⟩ := hb1; first | (go_simp; done) | (go_simp; simp [qx0, qx1, qx2]; done)))
    simp only [Act.put, List.setIfInBounds_toArray, List.set_cons_zero, List.set_cons_succ]
    refine wpAnyH_ready (rs := [5]) (by kernel_rfl) (by simp) (AllReadyH.cons rfl (fun K hK => ?_) AllReadyH.nil)
    rw [if_pos (by rfl)]
    go_simp
    refine (cuts_any val 300 _ HV.out (by omega)).mono ?_
    rintro e wc ⟨rfl, rfl⟩
    refine hK.out _ _ trivial (fun hSS => ?_)
    try simp only [Act.put, List.setIfInBounds_toArray, List.set_cons_zero, List.set_cons_succ]
    refine wpAnyH_ready (rs := [7]) (by kernel_rfl) (by simp) (AllReadyH.cons rfl (fun K hK => ?_) AllReadyH.nil)
    rw [if_pos (by rfl)]
    go_simp
    refine hK.out _ _ trivial (fun hSS => ?_)
    try simp only [Act.put, List.setIfInBounds_toArray, List.set_cons_zero, List.set_cons_succ]
    refine take_d (i := 8) 10 (.pointer (some ⟨w.heap.size, 3, none⟩)) rfl rfl (by kernel_rfl) (by kernel_rfl) (by kernel_rfl) (fun _ _ _ h => h) (Or.inl ⟨by rfl, ?_⟩) hSS ?_
    (focus (intro w' hw'; have hb1 := HCELL.out w' hw'; obtain ⟨hb1, hb2, hb3, hb4⟩ := hb1; first | (go_simp; done) | (go_simp; simp [qx0, qx1, qx2]; done)))
    simp only [Act.put, List.setIfInBounds_toArray, List.set_cons_zero, List.set_cons_succ]
    refine wpAnyH_ready (rs := [9]) (by kernel_rfl) (by simp) (AllReadyH.cons rfl (fun K hK => ?_) AllReadyH.nil)
    rw [if_pos (by rfl)]
    go_simp
    refine hK.out _ _ trivial (fun hSS => ?_)
    try simp only [Act.put, List.setIfInBounds_toArray, List.set_cons_zero, List.set_cons_succ]
    refine wpAnyH_done (by kernel_rfl) ?_ _
    obtain ⟨w5, HW5⟩ : ∃ w5, Hid (w5 = ((w2.setCell ⟨w.heap.size, 2, none⟩ (.string ⟨(key.take 110).toArray⟩)).setCell ⟨w.heap.size, 3, none⟩ (.string ⟨(val.take 300).toArray⟩)).drew) := ⟨_, Lib.hid rfl⟩
    have hS5 : St w.heap.size w w5 [[(w.heap.size + 1, .cells #[.int .i64 0, .int .i64 0, .string ⟨#[]⟩, .string ⟨#[]⟩] 26 (0, 0))], [(w.heap.size, .cells #[.int .i64 kind, .int .i64 seq, .string ⟨(key.take 110).toArray⟩, .string ⟨(val.take 300).toArray⟩] 26 (0, 0))]] := by
      rw [HW5.out]
      exact ((HS2.out.store 1 rfl 2 (.string ⟨(key.take 110).toArray⟩)).store 1 rfl 3 (.string ⟨(val.take 300).toArray⟩)).drew
    rw [← HW5.out]
    clear k2 k3 f2 f3
    have k0 : w5.cell? ⟨w.heap.size, 0, none⟩ = some (.int .i64 kind) := hS5.cell 1 rfl (List.mem_singleton.2 rfl) 0
    have k1 : w5.cell? ⟨w.heap.size, 1, none⟩ = some (.int .i64 seq) := hS5.cell 1 rfl (List.mem_singleton.2 rfl) 1
    have k2 : w5.cell? ⟨w.heap.size, 2, none⟩ = some (.string ⟨(key.take 110).toArray⟩) := hS5.cell 1 rfl (List.mem_singleton.2 rfl) 2
    have k3 : w5.cell? ⟨w.heap.size, 3, none⟩ = some (.string ⟨(val.take 300).toArray⟩) := hS5.cell 1 rfl (List.mem_singleton.2 rfl) 3
    have g0 : w5.cell? ⟨w.heap.size + 1, 0, none⟩ = some (.int .i64 0) := hS5.cell 0 rfl (List.mem_singleton.2 rfl) 0
    have g1 : w5.cell? ⟨w.heap.size + 1, 1, none⟩ = some (.int .i64 0) := hS5.cell 0 rfl (List.mem_singleton.2 rfl) 1
    have g2 : w5.cell? ⟨w.heap.size + 1, 2, none⟩ = some (.string ⟨#[]⟩) := hS5.cell 0 rfl (List.mem_singleton.2 rfl) 2
    have g3 : w5.cell? ⟨w.heap.size + 1, 3, none⟩ = some (.string ⟨#[]⟩) := hS5.cell 0 rfl (List.mem_singleton.2 rfl) 3
    have f0 : w5.frozen? ⟨w.heap.size + 1, 0, none⟩ = false := hS5.free 0 rfl (List.mem_singleton.2 rfl) 0
    have f1 : w5.frozen? ⟨w.heap.size + 1, 1, none⟩ = false := hS5.free 0 rfl (List.mem_singleton.2 rfl) 1
    have f2 : w5.frozen? ⟨w.heap.size + 1, 2, none⟩ = false := hS5.free 0 rfl (List.mem_singleton.2 rfl) 2
    have f3 : w5.frozen? ⟨w.heap.size + 1, 3, none⟩ = false := hS5.free 0 rfl (List.mem_singleton.2 rfl) 3
    have HT := Lib.hid (St.rec4 0 rfl hS5 ⟨kind, seq, key.take 110, val.take 300⟩)
    clear hS5 HS2 HCELL
    go_wp2_with fail
    (try simp only [Exit.inBlock, Exit.then]); refine bodyPost_ret (results_cell_one rfl _ _ _ _ _ 0 rfl HT.out rfl Try.underlying26 rfl hrec4) rfl ?_
    exact ⟨rfl, HT.out.below⟩
end Go.Proofs.Ythgbkncanoknkaa

/-
  Contract of the reference's Read.
-/
import Derived.Test.YtdgpbgdpdmikaaaCodesRef
import Derived.Test.YtdgpbgdpdmikaaaRefBits
set_option linter.unusedVariables false
set_option linter.unusedSimpArgs false
namespace Go.Proofs.Ytdgpbgdpdmikaaa
open Go.RowKit
set_option maxRecDepth 100000
/-- The symbol found among the first ones; -1. -/
def lookI (l : List Int) (K v i : Nat) : Int := match lookP l K v with | some s => if s < i then (s : Int) else -1 | none => -1
theorem lookI_zero (l : List Int) (K v : Nat) : lookI l K v 0 = -1 := by unfold lookI; split <;> simp
theorem lookI_hit (l : List Int) (K v i : Nat) (h : l[i]? = some (K : Int)) (e : codeP l i = v) : lookI l K v (i + 1) = (i : Int) := by
  unfold lookI
  rw [lookP_of l K v i h e]
  simp
theorem lookI_miss (l : List Int) (K v i : Nat) (h : ¬ (l[i]? = some (K : Int) ∧ codeP l i = v)) : lookI l K v (i + 1) = lookI l K v i := by
  unfold lookI
  cases hl : lookP l K v with
  | none => rfl
  | some s =>
    have h1 := lookP_some l K v s hl
    have hne : s ≠ i := by rintro rfl; exact h h1
    simp only
    by_cases h2 : s < i
    · rw [if_pos h2, if_pos (by omega)]
    · rw [if_neg h2, if_neg (by omega)]
theorem lookI_all (l : List Int) (K v : Nat) : lookI l K v l.length = match lookP l K v with | some s => (s : Int) | none => -1 := by
  unfold lookI
  cases hl : lookP l K v with
  | none => rfl
  | some s =>
    have h1 := lookP_some l K v s hl
    simp only
    rw [if_pos (List.getElem?_eq_some_iff.1 h1.1).1]
theorem lookI_ge (l : List Int) (K v i : Nat) : -1 ≤ lookI l K v i ∧ lookI l K v i ≤ l.length := by
  unfold lookI
  cases hl : lookP l K v with
  | none => simp
  | some s =>
    have h1 := (List.getElem?_eq_some_iff.1 (lookP_some l K v s hl).1).1
    simp only
    split <;> omega
def RefReadOut (w : World) (r : Int × List Int × Nat) (x : Ending) (w' : World) : Prop :=
  ∃ u c, x = .returned (.tuple #[u, .int .i64 (r.2.2 : Int), .int .i64 r.1]) ∧ RowC 3 1 u r.2.1.length (iv r.2.1) c ∧ St w.heap.size w w' [c]
theorem refread_bad (v vl : Value) (l : List Int) (e most : Int) (w : World) (h : Rd w 1 v l.length (iv l)) (hn : l.length ≤ 1000000) (hb : okLens l = false) :
    Calls Try.prog 30 #[vl, v, .int .i64 e, .int .i64 most] w (RefReadOut w (10, [], 0)) := by
  go_enter Try.func30, Try.ntmps30
  go_wp2_with fail
  refine (refcodes_bad v l w h hn hb).mono ?_
  rintro e w1 ⟨rfl, rfl⟩
  go_wp2_with fail
  go_ret3
  exact ⟨_, [], rfl, RowC.nil _ _, (St.init _).one_nil⟩
set_option maxHeartbeats 4000000 in
theorem refread_any (v vl : Value) (l : List Int) (L : List Bool) (e most : Int) (w : World) (h : Rd w 1 v l.length (iv l)) (hL : Rd w 1 vl L.length (bl L)) (hn : l.length ≤ 300) (hLn : L.length ≤ 1000000) (hok : okLens l = true) :
    Calls Try.prog 30 #[vl, v, .int .i64 e, .int .i64 most] w (RefReadOut w (readP l e most (L.length + 1) [] 0 L)) := by
  obtain ⟨i0, i0a, i0b, i0c, i0d⟩ := info_parts infoInt
  have hok2 := (okLens_iff l).1 hok
  have hkr := hok2.2.1
  have HALL := Lib.hid hok2.2.2
  obtain ⟨ao, cap, rfl⟩ := h.shape
  obtain ⟨aoL, capL, rfl⟩ := hL.shape
  have hnl : (l.length : Int) ≤ 300 := by omega
  have hLnl : (L.length : Int) ≤ 1000000 := by omega
  go_enter Try.func30, Try.ntmps30
  go_wp2_with fail
  refine (refcodes_ok _ l w h hn hok).mono ?_
  rintro e w1 ⟨u, c1, rfl, hr1, hS1⟩
  obtain ⟨aou, capu, rfl⟩ := hr1.shape
  clear hok hok2
  replace hS1 := hS1.one_nil
  go_wp2_with fail
  go_loopg [13, 14] (L.length + 1) (fun m s13 s14 wr => ∃ (out : List Int) (at_ : Nat) (cu : HL), s14 = .int .i64 (at_ : Int) ∧ Hid (RowC 3 1 s13 out.length (iv out) cu ∧ St w.heap.size w wr [cu, c1] ∧ readP l e most m out at_ (L.drop at_) = readP l e most (L.length + 1) [] 0 L) ∧ L.length < m + at_ ∧ out.length ≤ at_ ∧ at_ ≤ L.length)
  case atStart => exact ⟨[], 0, [], rfl, Lib.hid ⟨RowC.nil _ _, hS1, by simp⟩, by omega, by simp, by omega⟩
  case round =>
    clear hS1
    obtain ⟨out, at_, cu, rfl, HQ, hm, hon, hle⟩ := hrel
    have hol : (out.length : Int) ≤ 1000000 := by omega
    have hr := HQ.out.1
    obtain ⟨ao5, cap5, rfl⟩ := hr.shape
    cases gk with
    | zero => omega
    | succ m =>
      by_cases q1 : most ≤ (out.length : Int)
      · have he := HQ.out.2.2
        rw [readP, if_pos q1] at he
        have HE := Lib.hid he
        clear he
        go_wp2_with fail
        go_ret3
        rw [← HE.out]
        exact ⟨_, [], rfl, RowC.nil _ _, (HQ.out.2.1.pick [] (by simp) [] rfl).one_nil⟩
      · have he := HQ.out.2.2
        rw [readP, if_neg q1] at he
        have HE := Lib.hid he
        clear he
        have hS := HQ.out.2.1
        go_wp2_with fail
        obtain ⟨wo, hwo⟩ : ∃ wo : World, wo = wr := ⟨_, rfl⟩
        subst hwo
        go_loopg [14, 15, 16, 17] 15 (fun j s14 s15 s16 s17 wr => ∃ k v : Nat, k + j = 15 ∧ s14 = .int .i64 ((at_ + k : Nat) : Int) ∧ s17 = .int .i64 (k : Int) ∧ s16 = .int .u32 (v : Int) ∧ v < 2 ^ k ∧ at_ + k ≤ L.length ∧ wo = wr ∧
          (∃ z : Int, s15 = .int .i64 z ∧ ((z = -1 ∧ Hid (symP l j k v (L.drop (at_ + k)) = symP l 15 0 0 (L.drop at_))) ∨ (∃ sy : Nat, z = (sy : Int) ∧ Hid (symP l 15 0 0 (L.drop at_) = some (sy, k))))))
        case atStart => exact ⟨0, 0, by omega, rfl, rfl, rfl, by simp, by omega, rfl, -1, rfl, .inl ⟨rfl, Lib.hid (by simp)⟩⟩
        case round =>
          obtain ⟨k, v, hkj, rfl, rfl, rfl, hv, hak, rfl, z, rfl, hcase⟩ := hrel
          rcases hcase with ⟨rfl, HS⟩ | ⟨sy, rfl, HS⟩
          · -- none yet
            have stop : (15 ≤ k ∨ L.length ≤ at_ + k) → symP l 15 0 0 (L.drop at_) = none := by
              intro hs
              rw [← HS.out]
              rcases hs with hs | hs
              · obtain rfl : gk = 0 := by omega
                rfl
              · rw [List.drop_of_length_le hs]
                cases gk <;> rfl
            by_cases q2 : 15 ≤ k
            · have hn := stop (.inl q2)
              have he := HE.out
              rw [hn] at he
              have HE2 := Lib.hid he
              have q2' : ¬ (k : Int) < 15 := by omega
              clear he hn stop
              go_wp2_with fail
              go_ret3
              rw [← HE2.out]
              exact ⟨_, [], rfl, RowC.nil _ _, (hS.pick [] (by simp) [] rfl).one_nil⟩
            by_cases q3 : L.length ≤ at_ + k
            · have hn := stop (.inr q3)
              have he := HE.out
              rw [hn] at he
              have HE2 := Lib.hid he
              have q3' : ¬ ((at_ + k : Nat) : Int) < L.length := by omega
              clear he hn stop
              go_wp2_with fail
              go_ret3
              rw [← HE2.out]
              exact ⟨_, [], rfl, RowC.nil _ _, (hS.pick [] (by simp) [] rfl).one_nil⟩
            clear stop
            obtain ⟨j, rfl⟩ : ∃ j, gk = j + 1 := ⟨gk - 1, by omega⟩
            obtain ⟨b, hb⟩ : ∃ b, L[at_ + k]? = some b := ⟨_, List.getElem?_eq_getElem (by omega)⟩
            obtain ⟨hbl, hb2⟩ := List.getElem?_eq_some_iff.1 hb
            have hd : L.drop (at_ + k) = b :: L.drop (at_ + k + 1) := by rw [List.drop_eq_getElem_cons hbl, hb2]
            have hs := HS.out
            rw [hd, symP] at hs
            have HS2 := Lib.hid hs
            obtain ⟨ad, rfl, hcell⟩ := (hL.st hS).at (bl_get L (at_ + k) b hb)
            have hvb : v < 2 ^ 15 := Nat.lt_of_lt_of_le hv (Nat.pow_le_pow_right (by omega) (by omega))
            have hv2 : 2 * v + b.toNat < 2 ^ (k + 1) := by rw [Nat.pow_succ]; cases b <;> simp <;> omega
            have hvb2 : 2 * v + b.toNat < 65536 := by cases b <;> simp <;> omega
            have HV := Lib.hid hv2
            obtain ⟨N, hN⟩ : ∃ N, 2 * v + b.toNat = N := ⟨_, rfl⟩
            have HN := Lib.hid hN
            rw [hN] at hvb2
            have hNi : (N : Int) ≤ 65535 := by omega
            have hk15 : (k : Int) < 15 := by omega
            have hvi : (v : Int) ≤ 32767 := by omega
            have hai : ((at_ + k : Nat) : Int) < L.length := by omega
            clear hb hb2 hd hs HS hv2 hN
            go_upto_if 47 with (fail)
            go_cut [16] (fun s16 wc => s16 = .int .u32 (N : Int) ∧ wo = wc)
            case first =>
              have hN := HN.out
              cases b with
              | false =>
                go_wp2_with fail
                go_meet
                case rel => exact ⟨by rw [← hN]; simp; omega, rfl⟩
              | true =>
                go_wp2_with fail
                go_meet
                case rel => exact ⟨by rw [← hN]; simp; omega, rfl⟩
            case rest =>
              obtain ⟨rfl, rfl⟩ := hcut
              go_wp2_with fail
              go_loopg [15, 18] l.length (fun j3 s15 s18 wr => ∃ i : Nat, i + j3 = l.length ∧ s18 = .int .i64 (i : Int) ∧ s15 = .int .i64 (lookI l (k + 1) N i) ∧ wo = wr)
              case atStart => exact ⟨0, by omega, rfl, by rw [lookI_zero], rfl⟩
              case round =>
                obtain ⟨i, hi, rfl, rfl, rfl⟩ := hrel
                cases gk with
                | zero =>
                  obtain rfl : i = l.length := by omega
                  have hla := lookI_all l (k + 1) N
                  have HLA := Lib.hid hla
                  clear hla hi
                  go_wp2_with fail
                  go_roundg j
                  case measure => omega
                  case rel =>
                    refine ⟨k + 1, N, by omega, by go_num, by go_num, rfl, by rw [← HN.out]; exact HV.out, by omega, rfl, _, rfl, ?_⟩
                    have hs := HS2.out
                    rw [HN.out] at hs
                    rw [HLA.out]
                    cases hlk : lookP l (k + 1) N with
                    | none =>
                      rw [hlk] at hs
                      exact .inl ⟨rfl, Lib.hid hs⟩
                    | some s =>
                      rw [hlk] at hs
                      exact .inr ⟨s, rfl, Lib.hid hs.symm⟩
                | succ j3 =>
                  have hlt : i < l.length := by omega
                  obtain ⟨x, hx⟩ : ∃ x, l[i]? = some x := ⟨_, List.getElem?_eq_getElem hlt⟩
                  obtain ⟨ad1, rfl, hcell1⟩ := (h.st hS).at (iv_get l i x hx)
                  obtain ⟨ad2, rfl, hcell2⟩ := (hr1.rd hS 1 rfl).at (uv_get (codeU l) l.length i hlt)
                  have HX := Lib.hid hx
                  have hhit := lookI_hit l (k + 1) N i
                  have hmiss := lookI_miss l (k + 1) N i
                  have HHM := Lib.hid (And.intro hhit hmiss)
                  clear hx hhit hmiss
                  by_cases q : x = ((k + 1 : Nat) : Int)
                  · subst q
                    have hcu : codeU l i = codeP l i := by
                      unfold codeU
                      rw [List.getD_eq_getElem?_getD, HX.out]
                      rw [if_pos (by simp <;> omega)]
                    by_cases q5 : codeU l i = N
                    · have HQ5 := Lib.hid q5
                      have q6 : ((codeU l i : Int) == (N : Int)) = true := by rw [q5]; simp
                      have HCU := Lib.hid hcu
                      clear hcu q5
                      go_wp2_with fail
                      go_roundg j3
                      case measure => omega
                      case rel => exact ⟨i + 1, by omega, by go_num, by rw [HHM.out.1 HX.out (by rw [← HCU.out]; exact HQ5.out)], rfl⟩
                    · have q6 : ((codeU l i : Int) == (N : Int)) = false := by rw [beq_eq_false_iff_ne]; omega
                      have HCU := Lib.hid hcu
                      have HQ5 := Lib.hid q5
                      clear hcu q5
                      go_wp2_with fail
                      go_roundg j3
                      case measure => omega
                      case rel => exact ⟨i + 1, by omega, by go_num, by rw [HHM.out.2 (fun h => HQ5.out (by rw [HCU.out]; exact h.2))], rfl⟩
                  · have q1 : (x == ((k + 1 : Nat) : Int)) = false := by simpa using q
                    have q2 : (x == (k : Int) + 1) = false := by simpa using q
                    have HQ := Lib.hid q
                    clear q
                    go_wp2_with fail
                    go_roundg j3
                    case measure => omega
                    case rel => exact ⟨i + 1, by omega, by go_num, by rw [HHM.out.2 (fun h => HQ.out (by have := h.1; rw [HX.out] at this; simpa using this))], rfl⟩
          · -- found
            have he := HE.out
            rw [HS.out] at he
            have hsl := symP_len l 15 0 0 (L.drop at_) sy k HS.out
            have HE2 := Lib.hid he
            have hs0 : (0 : Int) ≤ (sy : Int) := by omega
            clear he
            by_cases q2 : (sy : Int) = e
            · subst q2
              have he := HE2.out
              simp only [if_true] at he
              have HE3 := Lib.hid he
              clear he HE2 HE
              go_wp2_with (at_builtin; (refine wpList_app1 0 22 i0 (.int .i64 0) _ _ _ rfl rfl rfl rfl Try.underlying22 i0a i0b i0c i0d rfl hS rfl hr rfl ?_ ?_ ?_); (unfold maxLen; omega); omega; intro v1 c2 w7 hr2 hS4)
              go_ret3
              rw [← HE3.out]
              refine ⟨_, c2, rfl, ?_, hS4.pick [0] (by decide) _ rfl⟩
              simpa [iv] using hr2
            · have he := HE2.out
              simp only [if_neg q2] at he
              have HE3 := Lib.hid he
              clear he HE2 HE
              go_wp2_with (at_builtin; (refine wpList_app1 0 22 i0 (.int .i64 0) _ _ _ rfl rfl rfl rfl Try.underlying22 i0a i0b i0c i0d rfl hS rfl hr rfl ?_ ?_ ?_); (unfold maxLen; omega); omega; intro v1 c2 w7 hr2 hS4)
              go_roundg m
              case measure => omega
              case rel =>
                refine ⟨out ++ [(sy : Int)], at_ + k, c2, rfl, Lib.hid ⟨?_, hS4, ?_⟩, by omega, by simp; omega, by omega⟩
                · simpa [iv] using hr2
                · rw [← HE3.out, List.drop_drop]
end Go.Proofs.Ytdgpbgdpdmikaaa

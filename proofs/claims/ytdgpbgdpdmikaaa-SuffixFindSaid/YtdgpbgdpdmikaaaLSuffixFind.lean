/-
  The walk of SuffixFind.
-/
import Derived.Test.YtdgpbgdpdmikaaaLSuffixRabbits
import Derived.Test.YtdgpbgdpdmikaaaPureFind
set_option linter.unusedVariables false
set_option linter.unusedSimpArgs false
namespace Go.Proofs.Ytdgpbgdpdmikaaa
open Go.RowKit
set_option maxRecDepth 100000
/-- Does the word stand at a place? -/
def atP (b u : List UInt8) (p : Nat) : Bool := decide (p < b.length) && ((b.drop p).take u.length == u)
set_option maxHeartbeats 4000000 in
theorem SuffixFind_walk (w : World) (v : Value) (bs0 : List UInt8) (h : Rd w 1 v bs0.length (bv bs0)) (sz : bs0.length ≤ 140737488351232) (vu : Value) (us0 : List UInt8) (hu : Rd w 1 vu us0.length (bv us0)) (szu : us0.length ≤ 140737488351232) :
    Calls Try.prog 11 #[v, vu] w fun e w' => e = .returned (.bool true) ∧ Below w.heap.size w w' := by
  go_enter Try.func11, Try.ntmps11
  go_wp2_with fail
  refine (begun8 _).mono ?_
  rintro e w1 ⟨rfl, hb⟩
  have hS := (St.init w).mono hb
  have hr := h.keep hb
  have hru := hu.keep hb
  clear h hu hb
  go_wp2_with fail
  refine (short_any v bs0 300 w1 hr (by omega)).mono ?_
  rintro e w2 ⟨v', rfl, hr', rfl⟩
  clear hr
  go_wp2_with fail
  refine (short_any vu us0 4 w1 hru (by omega)).mono ?_
  rintro e w2 ⟨vu', rfl, hru', rfl⟩
  clear hru
  have hnb : (bs0.take 300).length ≤ 300 := by simp; omega
  have hnu : (us0.take 4).length ≤ 4 := by simp; omega
  generalize bs0.take 300 = b at *
  generalize us0.take 4 = u at *
  clear sz szu
  obtain ⟨aob, capb, rfl⟩ := hr'.shape
  obtain ⟨aou, capu, rfl⟩ := hru'.shape
  have HRD := Lib.hid (And.intro hr' hru')
  have HS := Lib.hid hS
  clear hr' hru' hS
  go_wp2_with fail
  refine (sort_any b _ w1 (by omega) HRD.out.1).mono ?_
  rintro e w5 ⟨v5, T, c5, rfl, hrT, hTl, hS5, hsa⟩
  obtain ⟨ao5, cap5, rfl⟩ := hrT.shape
  have hS6 : St w.heap.size w w5 [c5] := HS.out.join hS5
  have HT := Lib.hid (And.intro hrT (And.intro hTl (And.intro hsa (And.intro hS6 hS5.below))))
  clear hrT hTl hS5 hsa hS6
  have hbi : (b.length : Int) ≤ 300 := by omega
  have hui : (u.length : Int) ≤ 4 := by omega
  go_wp2_with fail
  go_loopg [7, 8] (b.length + 1 - u.length) (fun m s7 s8 wr => ∃ i : Nat, i + m = b.length + 1 - u.length ∧ s8 = .int .i64 (i : Int) ∧ s7 = .int .i64 (((List.range i).filter (atP b u)).length : Int) ∧ Drew w5 wr)
  case atStart => exact ⟨0, by omega, rfl, rfl, Drew.refl _⟩
  case round =>
    obtain ⟨i, hi, rfl, rfl, hd⟩ := hrel
    obtain ⟨nd, rfl⟩ := hd.out
    cases gk with
    | succ m =>
      have him : i + u.length ≤ b.length := by omega
      have himi : (i : Int) + (u.length : Int) ≤ (b.length : Int) := by omega
      have hb5 := (HRD.out.1.keep HT.out.2.2.2.2).drewN (nd + 1)
      have hu5 := conv_str ((HRD.out.2.keep HT.out.2.2.2.2).drewN (nd + 1))
      have hcb := HRD.out.1.cap
      have hnew : ∀ ao', (¬ capb = i → ao' = aob.map fun a => a.add i) → (capb = i → ao' = aob) → (convert 37 9 (.slice ao' u.length (capb - i))).run Try.prog (w5.drewN (nd + 1)) = .ok (.string ⟨((b.drop i).take u.length).toArray⟩) (w5.drewN (nd + 1)) := by
        intro ao' h1 h2
        have := (hb5.drop i (by omega) (by simpa using h1) h2).take u.length (by omega)
        rw [Nat.mul_one, Nat.mul_one] at this
        exact conv_str (bs := (b.drop i).take u.length) (by simpa [bv, List.map_take, List.map_drop] using this)
      have hcnt : ((List.range (i + 1)).filter (atP b u)).length = ((List.range i).filter (atP b u)).length + (if atP b u i then 1 else 0) := by
        rw [List.range_succ, List.filter_append, List.length_append]
        cases h : atP b u i <;> simp [h]
      have hle : ((List.range i).filter (atP b u)).length ≤ 300 := by have := List.length_filter_le (atP b u) (List.range i); rw [List.length_range] at this; omega
      have HC := Lib.hid hcnt
      clear hb5 hcnt hd
      by_cases hci : capb = i
      · subst hci
        have hv := hnew aob (fun h => absurd rfl h) (fun _ => rfl)
        clear hnew
        rw [Nat.sub_self] at hv
        cases hq : ((b.drop capb).take u.length == u) with
        | false =>
          have hat : atP b u capb = false := by unfold atP; rw [hq, Bool.and_false]
          have HAT := Lib.hid hat
          clear hat
          go_wp2_with (first | ((with_reducible refine wpStill_plain ?_ ?_ (fun _ _ => ?_)); rfl; rfl) | (with_reducible refine wpStill_nil ?_) | ((with_reducible refine wpStill_skipg 11 true ?_ ?_ (fun _ _ => ?_)); rfl; kernel_rfl) | ((with_reducible refine wp_draw_all (id := 12) mixed ?_ (fun _ _ => ?_)); kernel_rfl))
          go_roundg m
          case measure => omega
          case rel => exact ⟨capb + 1, by omega, by go_num, by rw [HC.out, HAT.out]; rfl, Drew.then _ _⟩
        | true =>
          by_cases hin : capb < b.length
          · have hat : atP b u capb = true := by unfold atP; rw [hq]; simp [hin]
            have hini : (capb : Int) < (b.length : Int) := by omega
            have HAT := Lib.hid hat
            clear hat
            go_wp2_with (first | ((with_reducible refine wpStill_plain ?_ ?_ (fun _ _ => ?_)); rfl; rfl) | (with_reducible refine wpStill_nil ?_) | ((with_reducible refine wpStill_wantg 11 true ?_ ?_ ?_ (fun _ _ => ?_)); rfl; kernel_rfl; rfl) | ((with_reducible refine wp_draw_all (id := 12) mixed ?_ (fun _ _ => ?_)); kernel_rfl))
            go_roundg m
            case measure => omega
            case rel => exact ⟨capb + 1, by omega, by go_num, by rw [HC.out, HAT.out]; simp, Drew.then _ _⟩
          · have hat : atP b u capb = false := by unfold atP; simp [hin]
            have hini : ¬ (capb : Int) < (b.length : Int) := by omega
            have HAT := Lib.hid hat
            clear hat
            go_wp2_with (first | ((with_reducible refine wpStill_plain ?_ ?_ (fun _ _ => ?_)); rfl; rfl) | (with_reducible refine wpStill_nil ?_) | ((with_reducible refine wpStill_wantg 11 true ?_ ?_ ?_ (fun _ _ => ?_)); rfl; kernel_rfl; rfl) | ((with_reducible refine wp_draw_all (id := 12) mixed ?_ (fun _ _ => ?_)); kernel_rfl))
            go_roundg m
            case measure => omega
            case rel => exact ⟨capb + 1, by omega, by go_num, by rw [HC.out, HAT.out]; rfl, Drew.then _ _⟩
      · obtain ⟨ad, rfl⟩ : ∃ ad, aob = some ad := by
          cases aob with
          | none => exact absurd HRD.out.1.none_iff (by omega)
          | some ad => exact ⟨ad, rfl⟩
        have hv := hnew (some (ad.add i)) (fun _ => rfl) (fun h => absurd h hci)
        clear hnew
        cases hq : ((b.drop i).take u.length == u) with
        | false =>
          have hat : atP b u i = false := by unfold atP; rw [hq, Bool.and_false]
          have HAT := Lib.hid hat
          clear hat
          go_wp2_with (first | ((with_reducible refine wpStill_plain ?_ ?_ (fun _ _ => ?_)); rfl; rfl) | (with_reducible refine wpStill_nil ?_) | ((with_reducible refine wpStill_skipg 11 true ?_ ?_ (fun _ _ => ?_)); rfl; kernel_rfl) | ((with_reducible refine wp_draw_all (id := 12) mixed ?_ (fun _ _ => ?_)); kernel_rfl))
          go_roundg m
          case measure => omega
          case rel => exact ⟨i + 1, by omega, by go_num, by rw [HC.out, HAT.out]; rfl, Drew.then _ _⟩
        | true =>
          by_cases hin : i < b.length
          · have hat : atP b u i = true := by unfold atP; rw [hq]; simp [hin]
            have hini : (i : Int) < (b.length : Int) := by omega
            have HAT := Lib.hid hat
            clear hat
            go_wp2_with (first | ((with_reducible refine wpStill_plain ?_ ?_ (fun _ _ => ?_)); rfl; rfl) | (with_reducible refine wpStill_nil ?_) | ((with_reducible refine wpStill_wantg 11 true ?_ ?_ ?_ (fun _ _ => ?_)); rfl; kernel_rfl; rfl) | ((with_reducible refine wp_draw_all (id := 12) mixed ?_ (fun _ _ => ?_)); kernel_rfl))
            go_roundg m
            case measure => omega
            case rel => exact ⟨i + 1, by omega, by go_num, by rw [HC.out, HAT.out]; simp, Drew.then _ _⟩
          · have hat : atP b u i = false := by unfold atP; simp [hin]
            have hini : ¬ (i : Int) < (b.length : Int) := by omega
            have HAT := Lib.hid hat
            clear hat
            go_wp2_with (first | ((with_reducible refine wpStill_plain ?_ ?_ (fun _ _ => ?_)); rfl; rfl) | (with_reducible refine wpStill_nil ?_) | ((with_reducible refine wpStill_wantg 11 true ?_ ?_ ?_ (fun _ _ => ?_)); rfl; kernel_rfl; rfl) | ((with_reducible refine wp_draw_all (id := 12) mixed ?_ (fun _ _ => ?_)); kernel_rfl))
            go_roundg m
            case measure => omega
            case rel => exact ⟨i + 1, by omega, by go_num, by rw [HC.out, HAT.out]; rfl, Drew.then _ _⟩
    | zero =>
      have hgt : ¬ (i : Int) + (u.length : Int) ≤ (b.length : Int) := by omega
      have hwl : ((List.range i).filter (atP b u)).length = ((List.range b.length).filter (atP b u)).length := by
        have far : ∀ p, i ≤ p → atP b u p = false := by
          intro p hp
          unfold atP
          by_cases h1 : p < b.length
          · have : ((b.drop p).take u.length == u) = false := by
              rw [beq_eq_false_iff_ne]
              intro e
              have := congrArg List.length e
              rw [List.length_take, List.length_drop] at this
              omega
            rw [this, Bool.and_false]
          · simp [h1]
        have add : ∀ d, ((List.range (i + d)).filter (atP b u)).length = ((List.range i).filter (atP b u)).length := by
          intro d
          induction d with
          | zero => rfl
          | succ d ih => rw [← Nat.add_assoc, List.range_succ, List.filter_append, List.length_append, ih]; simp [far (i + d) (by omega)]
        rcases Nat.lt_or_ge b.length i with h1 | h1
        · have h2 : i = b.length + 1 := by omega
          rw [h2, List.range_succ, List.filter_append, List.length_append]
          have : atP b u b.length = false := by unfold atP; simp
          simp [this]
        · have := add (b.length - i)
          rw [show i + (b.length - i) = b.length from by omega] at this
          exact this.symm
      have hle : ((List.range b.length).filter (atP b u)).length ≤ 300 := by have := List.length_filter_le (atP b u) (List.range b.length); rw [List.length_range] at this; omega
      rw [hwl]
      clear hwl hd
      generalize hW : ((List.range b.length).filter (atP b u)).length = W at *
      have HW := Lib.hid hW
      clear hW
      go_wp2_with fail
      go_ways
      go_loopg [9, 10, 11, 12] b.length (fun m s9 s10 s11 s12 wr => ∃ (k c : Nat) (f l : Int), k + m = b.length ∧ s12 = .int .i64 (k : Int) ∧ s9 = .int .i64 f ∧ s10 = .int .i64 l ∧ s11 = .int .i64 (c : Int) ∧ c ≤ k ∧ Hid (FInv (fun j => atP b u (ch T j)) k f l c ∧ c = ((T.take k).filter (atP b u)).length) ∧ Drew w5 wr)
      case atStart => exact ⟨0, 0, -1, -1, by omega, rfl, rfl, rfl, rfl, Nat.le_refl _, Lib.hid ⟨.inl ⟨rfl, rfl, rfl, fun j hj => by omega⟩, by simp⟩, Drew.mk _ _⟩
      case round =>
        obtain ⟨k, c, f, l, hk, rfl, rfl, rfl, rfl, hck, HF, hd⟩ := hrel
        obtain ⟨ne, rfl⟩ := hd.out
        cases gk with
        | succ m =>
          have hkl : k < b.length := by omega
          have hki : (k : Int) < (b.length : Int) := by omega
          have hTk := ch_some T k (by rw [HT.out.2.1]; exact hkl)
          have hpl : ch T k < b.length := by have := HT.out.2.2.1.lt hTk; rwa [nb_length] at this
          obtain ⟨g5, rfl⟩ := HT.out.1.head (by omega)
          have hc1 := HT.out.1.cellAt HT.out.2.2.2.1 0 rfl (iv_get _ k _ (tI_get T k (by rw [HT.out.2.1]; exact hkl)))
          have hcnt : ((T.take (k + 1)).filter (atP b u)).length = ((T.take k).filter (atP b u)).length + (if atP b u (ch T k) then 1 else 0) := by
            rw [List.take_add_one, hTk, List.filter_append, List.length_append]
            cases h : atP b u (ch T k) <;> simp [h]
          have HC := Lib.hid hcnt
          have hconv : ∀ i j, i < j → j < k → atP b u (ch T i) = true → atP b u (ch T k) = true → atP b u (ch T j) = true := by
            intro i j hij hjk h1 h2
            unfold atP at h1 h2 ⊢
            simp only [Bool.and_eq_true, decide_eq_true_eq, beq_iff_eq] at h1 h2 ⊢
            have hTi := ch_some T i (by rw [HT.out.2.1]; omega)
            have hTj := ch_some T j (by rw [HT.out.2.1]; omega)
            have l1 := HT.out.2.2.1.less hTi hTj hij
            have l2 := HT.out.2.2.1.less hTj (ch_some T k (by rw [HT.out.2.1]; exact hkl)) hjk
            have key := pre_mid u.length _ _ _ (nb u) l1 l2 (by unfold nb; rw [← List.map_drop, ← List.map_take, h1.2]) (by unfold nb; rw [← List.map_drop, ← List.map_take, h2.2]) (nb_length u)
            refine ⟨by have := HT.out.2.2.1.lt hTj; rwa [nb_length] at this, ?_⟩
            unfold nb at key
            rw [← List.map_drop, ← List.map_take] at key
            exact (List.map_inj_right (fun a b h => UInt8.toNat_inj.1 h)).1 key
          have HCV := Lib.hid hconv
          clear hconv hcnt hTk hd
          by_cases hpm : ch T k + u.length ≤ b.length
          · have hpi : (ch T k : Int) + (u.length : Int) ≤ (b.length : Int) := by omega
            have hcb := HRD.out.1.cap
            have hb5 := (HRD.out.1.keep HT.out.2.2.2.2).drewN (ne + 1)
            have hu5 := conv_str ((HRD.out.2.keep HT.out.2.2.2.2).drewN (ne + 1))
            obtain ⟨ad, rfl⟩ : ∃ ad, aob = some ad := by
              cases aob with
              | none => exact absurd HRD.out.1.none_iff (by omega)
              | some ad => exact ⟨ad, rfl⟩
            have hv := conv_str (bs := (b.drop (ch T k)).take u.length) (by
              have := (hb5.drop (ch T k) (by omega) (ao' := some (ad.add (ch T k))) (fun _ => by simp) (fun e => by omega)).take u.length (by omega)
              rw [Nat.mul_one, Nat.mul_one] at this
              simpa [bv, List.map_take, List.map_drop] using this)
            clear hb5
            have hf2 : f < 0 ∨ 0 ≤ f := by omega
            cases hq : ((b.drop (ch T k)).take u.length == u) with
            | false =>
              have HQ : Hid (atP b u (ch T k) = false) := Lib.hid (by unfold atP; rw [hq, Bool.and_false])
              go_wp2_with (first | ((with_reducible refine wpStill_plain ?_ ?_ (fun _ _ => ?_)); rfl; rfl) | (with_reducible refine wpStill_nil ?_) | ((with_reducible refine wpStill_wantg 10 true ?_ ?_ ?_ (fun _ _ => ?_)); rfl; kernel_rfl; rfl) | ((with_reducible refine wp_draw_all (id := 18) mixed ?_ (fun _ _ => ?_)); kernel_rfl))
              go_roundg m
              case measure => omega
              case rel => exact ⟨k + 1, c, f, l, by omega, by go_num, rfl, rfl, rfl, by omega, Lib.hid ⟨HF.out.1.skip HQ.out, by rw [HC.out, HQ.out]; exact HF.out.2⟩, Drew.then _ _⟩
            | true =>
              have HQ : Hid (atP b u (ch T k) = true) := Lib.hid (by unfold atP; rw [hq]; simp [hpl])
              have HH := Lib.hid (HF.out.1.hit HQ.out (fun i j h1 h2 h3 => HCV.out i j h1 h2 h3 HQ.out))
              by_cases hf : f < 0
              · go_wp2_with (first | ((with_reducible refine wpStill_plain ?_ ?_ (fun _ _ => ?_)); rfl; rfl) | (with_reducible refine wpStill_nil ?_) | ((with_reducible refine wpStill_wantg 10 true ?_ ?_ ?_ (fun _ _ => ?_)); rfl; kernel_rfl; rfl) | ((with_reducible refine wp_draw_all (id := 18) mixed ?_ (fun _ _ => ?_)); kernel_rfl))
                go_roundg m
                case measure => omega
                case rel => exact ⟨k + 1, c + 1, (k : Int), (k : Int), by omega, by go_num, rfl, rfl, by go_num, by omega, Lib.hid ⟨by have := HH.out; rwa [if_pos hf] at this, by rw [HC.out, HQ.out, HF.out.2]; rfl⟩, Drew.then _ _⟩
              · go_wp2_with (first | ((with_reducible refine wpStill_plain ?_ ?_ (fun _ _ => ?_)); rfl; rfl) | (with_reducible refine wpStill_nil ?_) | ((with_reducible refine wpStill_wantg 10 true ?_ ?_ ?_ (fun _ _ => ?_)); rfl; kernel_rfl; rfl) | ((with_reducible refine wp_draw_all (id := 18) mixed ?_ (fun _ _ => ?_)); kernel_rfl))
                go_roundg m
                case measure => omega
                case rel => exact ⟨k + 1, c + 1, f, (k : Int), by omega, by go_num, rfl, rfl, by go_num, by omega, Lib.hid ⟨by have := HH.out; rwa [if_neg (by omega)] at this, by rw [HC.out, HQ.out, HF.out.2]; rfl⟩, Drew.then _ _⟩
          · have hpi : ¬ (ch T k : Int) + (u.length : Int) ≤ (b.length : Int) := by omega
            have hq : atP b u (ch T k) = false := by
              unfold atP
              rw [Bool.and_eq_false_iff]
              refine .inr ?_
              rw [beq_eq_false_iff_ne]
              intro e
              have := congrArg List.length e
              rw [List.length_take, List.length_drop] at this
              omega
            have HQ := Lib.hid hq
            clear hq
            go_wp2_with (first | ((with_reducible refine wpStill_plain ?_ ?_ (fun _ _ => ?_)); rfl; rfl) | (with_reducible refine wpStill_nil ?_) | ((with_reducible refine wpStill_skipg 10 true ?_ ?_ (fun _ _ => ?_)); rfl; kernel_rfl) | ((with_reducible refine wp_draw_all (id := 18) mixed ?_ (fun _ _ => ?_)); kernel_rfl))
            go_roundg m
            case measure => omega
            case rel => exact ⟨k + 1, c, f, l, by omega, by go_num, rfl, rfl, rfl, by omega, Lib.hid ⟨HF.out.1.skip HQ.out, by rw [HC.out, HQ.out]; exact HF.out.2⟩, Drew.then _ _⟩
        | zero =>
          obtain rfl : k = b.length := by omega
          have hcW : c = W := by
            have h1 := HF.out.2
            rw [← HT.out.2.1, List.take_length] at h1
            have h2 := (HT.out.2.2.1.perm.filter (atP b u)).length_eq
            rw [nb_length] at h2
            rw [h1, h2]
            exact HW.out
          have hdn := HF.out.1.done
          have HB := Lib.hid (HT.out.2.2.2.1.drewN ne).below
          subst hcW
          clear hd hk
          by_cases hc0 : c = 0
          · subst hc0
            clear hdn
            go_wp2_with fail
            go_ret
            exact ⟨by simp, HB.out⟩
          · have hdn2 : l - f + 1 = (c : Int) := by
              rcases hdn with h | h
              · exact absurd h hc0
              · exact h
            have hfl : 0 ≤ f ∧ f ≤ 300 ∧ 0 ≤ l ∧ l ≤ 300 := by
              rcases HF.out.1 with ⟨h, _⟩ | ⟨f', l', h1, h2, h3, h4, _, _⟩
              · exact absurd h hc0
              · omega
            obtain ⟨hf1, hf2, hl1, hl2⟩ := hfl
            have hcz : ((c : Int) == 0) = false := by simp; omega
            have heq : (l - f + 1 == (c : Int)) = true := by rw [hdn2]; simp
            clear hdn hdn2 hc0
            go_wp2_with fail
            go_ret
            exact ⟨by simp, HB.out⟩
end Go.Proofs.Ytdgpbgdpdmikaaa

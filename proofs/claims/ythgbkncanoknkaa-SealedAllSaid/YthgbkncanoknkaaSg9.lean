/-
  Texts joined: CtPack, Recs, CtPlan.
-/
import Derived.Test.YthgbkncanoknkaaSg8
import Derived.Test.YthgbkncanoknkaaSg1
/-
  Contract of container.Pack.
-/
set_option linter.unusedVariables false
set_option linter.unusedSimpArgs false
namespace Go.Proofs.Ythgbkncanoknkaa
open Go.RowKit
set_option maxRecDepth 100000
/-- A text's blocks, packed. -/
def BlksR : List UInt8 → List (List UInt8) → Prop
  | b, [] => b = []
  | b, x :: X => b ≠ [] ∧ BlkR (b.take 1000) x ∧ BlksR (b.drop 1000) X
def headP (n : Nat) (X : List (List UInt8)) : List UInt8 := putN n ++ X.flatMap fun x => putN x.length
def PackR (b c : List UInt8) : Prop := ∃ X, BlksR b X ∧ c = sealP (headP b.length X) ++ X.flatten
def PackOut (b : List UInt8) (w : World) (e : Ending) (w' : World) : Prop := ∃ y v c, e = .returned v ∧ RowC 5 1 v y.length (bv y) c ∧ PackR b y ∧ St w.heap.size w w' [c]
theorem BlkR.size {b y : List UInt8} (h : BlkR b y) : 5 ≤ y.length ∧ y.length ≤ b.length + 5 := by
  obtain ⟨e, _, rfl⟩ := h
  rw [List.length_append, fourB_length]
  unfold blkX
  split
  · rw [List.length_cons]; omega
  · rw [List.length_cons]; omega
theorem headP_snoc (n : Nat) (X : List (List UInt8)) (x : List UInt8) : headP n (X ++ [x]) = headP n X ++ putN x.length := by unfold headP; simp
section
attribute [local go_sem] min2_ints min_of_two
set_option maxHeartbeats 2000000 in
theorem pack_any (v : Value) (b : List UInt8) (w : World) (h : Rd w 1 v b.length (bv b)) (hn : b.length ≤ 100000) :
    Calls Try.prog 30 #[v] w (PackOut b w) := by
  obtain ⟨i0, i0a, i0b, i0c, i0d⟩ := info_parts infoU8
  have H0 := Lib.hid h
  obtain ⟨ao, cap, rfl⟩ := h.shape
  have hw64 : IntKind.u64.wrap (b.length : Int) = (b.length : Int) := by rw [wrap_u64']; omega
  clear h
  go_enter Try.func30, Try.ntmps30
  go_wp2_with fail
  refine (numput_any b.length w (by omega)).mono ?_
  rintro e w1 ⟨v1, c1, rfl, hr1, hS1⟩
  have HR1 := Lib.hid (And.intro hr1 hS1)
  clear hr1 hS1 hw64
  go_wp2_with fail
  go_loopg [0, 3, 4] ((b.length + 999) / 1000) (fun gf s0 s3 s4 wr => ∃ (rest : List UInt8) (X : List (List UInt8)) (ch co : List (Nat × Obj)), (rest.length + 999) / 1000 = gf ∧ rest.length ≤ b.length ∧ X.length + gf = (b.length + 999) / 1000 ∧ Rd w 1 s0 rest.length (bv rest) ∧
    RowC 5 1 s3 (headP b.length X).length (bv (headP b.length X)) ch ∧ RowC 5 1 s4 X.flatten.length (bv X.flatten) co ∧ (headP b.length X).length ≤ 10 * (X.length + 1) ∧ X.flatten.length ≤ 1005 * X.length ∧ Hid (∀ Y, BlksR rest Y → BlksR b (X ++ Y)) ∧ St w.heap.size w wr [ch, co])
  case atStart =>
    refine ⟨b, [], c1, [], rfl, Nat.le_refl _, by simp, H0.out, ?_, RowC.nil _ _, ?_, by simp, Lib.hid fun Y h => h, ?_⟩
    · have e : headP b.length [] = putN b.length := by unfold headP; simp
      rw [e]; exact HR1.out.1
    · have e : headP b.length [] = putN b.length := by unfold headP; simp
      have := putN_le b.length
      rw [e]; simpa using this
    · exact HR1.out.2.one_nil.swap
  case round =>
    clear HR1 c1
    obtain ⟨rest, X, ch, co, hgf, hrl, hXl, hrd, hrh, hro, hhl, hol, HB, hS⟩ := hrel
    obtain ⟨ao0, cap0, rfl⟩ := hrd.shape
    obtain ⟨ao3, cap3, rfl⟩ := hrh.shape
    obtain ⟨ao4, cap4, rfl⟩ := hro.shape
    have hcp := hrd.cap
    cases gk with
    | zero =>
      have hr0 : rest.length = 0 := by omega
      have hre : rest = [] := List.eq_nil_of_length_eq_zero hr0
      have HBX : Hid (BlksR b X) := Lib.hid (by have := HB.out [] (by rw [hre]; rfl); rwa [List.append_nil] at this)
      have HR := Lib.hid (And.intro hrh (And.intro hro hS))
      subst hre
      clear hrd hrh hro hS HB hr0 hgf
      have hhl2 : (headP b.length X).length ≤ 1000000 := by omega
      go_wp2_with fail
      refine (crcseal_any _ (headP b.length X) wr (HR.out.1.rd HR.out.2.2 0 rfl) hhl2).mono ?_
      rintro e w2 ⟨v2, c2, rfl, hr2, hS2⟩
      have hsl := sealP_length (headP b.length X)
      have hS2' := HR.out.2.2.join hS2
      have hrd2 := HR.out.2.1.rd hS2' 2 rfl
      have hro2 := HR.out.2.1
      obtain ⟨ao2, cap2, rfl⟩ := hr2.shape
      have HSL := Lib.hid hsl
      have hbnd : (sealP (headP b.length X)).length ≤ 2000000 := by omega
      generalize hsp : sealP (headP b.length X) = sp at *
      have HSP := Lib.hid hsp
      have hol2 : X.flatten.length ≤ 2000000 := by omega
      generalize hfl : X.flatten = fl at *
      have HFL := Lib.hid hfl
      clear hS2 hsl hsp hfl
      go_wp2_with ((at_builtin; (refine wpList_app 0 29 i0 (.int .u8 0) _ _ rfl rfl rfl rfl Try.underlying29 i0a i0b i0c i0d rfl (by decide) hS2' rfl hr2 hrd2 (bv_one _) ?_ ?_ ?_); (unfold maxLen; omega); omega; intro v3 c3 w3 hr3 hS3))
      go_ret
      rw [← bv_append] at hr3
      exact ⟨sp ++ fl, _, c3, rfl, by rw [List.length_append]; exact hr3, ⟨X, HBX.out, by rw [HSP.out, HFL.out]⟩, hS3.pick [0] (by decide) _ rfl⟩
    | succ m =>
      have hr0 : 0 < rest.length := by omega
      have hr0i : (0 : Int) < (rest.length : Int) := by omega
      have hhl2 : (headP b.length X).length ≤ 1000000 := by omega
      have hfl2 : X.flatten.length ≤ 2000000 := by omega
      obtain ⟨hd, HHD⟩ : ∃ hd, Hid (hd = headP b.length X) := ⟨_, Lib.hid rfl⟩
      obtain ⟨fl, HFL⟩ : ∃ fl, Hid (fl = X.flatten) := ⟨_, Lib.hid rfl⟩
      rw [← HHD.out] at hhl hrh hhl2 ⊢
      rw [← HFL.out] at hol hfl2 hro ⊢
      obtain ⟨n, hn1, hn2, hn3⟩ : ∃ n : Nat, n = min rest.length 1000 ∧ 0 < n ∧ n ≤ rest.length := ⟨_, rfl, by omega, by omega⟩
      have hmin : (if (1000 : Int) < (rest.length : Int) then (1000 : Int) else (rest.length : Int)) = (n : Int) := by split <;> omega
      have hnr : (n : Int) ≤ (rest.length : Int) := by omega
      have hnc : (n : Int) ≤ (cap0 : Int) := by omega
      have htk : rest.take n = rest.take 1000 := by
        rcases Nat.le_total rest.length 1000 with q | q
        · rw [List.take_of_length_le (by omega), List.take_of_length_le q]
        · rw [show n = 1000 by omega]
      have hdr : rest.drop n = rest.drop 1000 := by
        rcases Nat.le_total rest.length 1000 with q | q
        · rw [List.drop_of_length_le (by omega), List.drop_of_length_le q]
        · rw [show n = 1000 by omega]
      have hrt : Rd w 1 (.slice ao0 n cap0) n (bv (rest.take n)) := by
        have := hrd.take n hn3
        rwa [← bv_take] at this
      have hlt : (rest.take n).length = n := by rw [List.length_take]; omega
      have HRT := Lib.hid (And.intro hrt hlt)
      have HRD := Lib.hid hrd
      have HTD := Lib.hid (And.intro htk (And.intro hdr hn1))
      have HR := Lib.hid (And.intro hrh (And.intro hro hS))
      clear hrt hlt hrd htk hdr hn1 hrh hro hS
      go_wp2_with fail
      refine (block_any _ (rest.take n) wr (by rw [HRT.out.2]; exact HRT.out.1.st HR.out.2.2) (by rw [HRT.out.2]; omega)).mono ?_
      rintro e w2 ⟨y, vy, cy, rfl, hry, hby, hSy⟩
      have hysz := hby.size
      rw [HRT.out.2] at hysz
      have hyl : y.length ≤ 1005 := by have := HTD.out.2.2; omega
      have hyw : IntKind.u64.wrap (y.length : Int) = (y.length : Int) := by rw [wrap_u64']; omega
      obtain ⟨aoy, capy, rfl⟩ := hry.shape
      have HY := Lib.hid (And.intro hry (And.intro hby (HR.out.2.2.join hSy)))
      clear hry hby hSy hysz
      go_wp2_with fail
      refine (numput_any y.length w2 (by omega)).mono ?_
      rintro e w3 ⟨v3, c3, rfl, hr3, hS3⟩
      have hS3' := (HY.out.2.2.join hS3).pick [2, 3, 1, 0] (by decide) [ch, co, cy, c3] rfl
      have hrd3 := hr3.rd hS3' 3 rfl
      have hrh3 := HR.out.1
      have hpl := putN_le y.length
      obtain ⟨aop, capp, rfl⟩ := hr3.shape
      obtain ⟨pn, HPN⟩ : ∃ pn, Hid (pn = putN y.length) := ⟨_, Lib.hid rfl⟩
      rw [← HPN.out] at hr3 hrd3 hpl
      rw [← HPN.out]
      have hro3 := HR.out.2.1
      obtain ⟨aor, har⟩ : ∃ aor, (¬ cap0 = n → aor = ao0.map fun a => a.add n) ∧ (cap0 = n → aor = ao0) := by
        by_cases e : cap0 = n
        · exact ⟨_, fun h => absurd e h, fun _ => rfl⟩
        · exact ⟨_, fun _ => rfl, fun h => absurd h e⟩
      have hrest : Rd w 1 (.slice aor (rest.length - n) (cap0 - n)) (rest.length - n) (bv (rest.drop n)) := by
        have := HRD.out.drop (ao' := aor) n hn3 (fun e => by rw [har.1 e, Nat.mul_one]) har.2
        rwa [← bv_drop] at this
      have hrdl : (rest.drop n).length = rest.length - n := List.length_drop
      have HRE := Lib.hid (And.intro hrest (And.intro hrdl har))
      obtain ⟨ad0, hao0⟩ : ∃ ad0, ao0 = some ad0 := by
        cases ao0 with
        | none => have := HRD.out.none_iff; omega
        | some ad => exact ⟨ad, rfl⟩
      subst hao0
      clear hS3 hr3 hrest hrdl har
      by_cases qc : cap0 = n
      case' pos =>
        obtain rfl := HRE.out.2.2.2 qc
      case' neg =>
        obtain rfl := HRE.out.2.2.1 qc
      all_goals
        go_wp2_with (first | ((at_builtin; (refine wpList_app 1 29 i0 (.int .u8 0) _ _ rfl rfl rfl rfl Try.underlying29 i0a i0b i0c i0d rfl (by decide) hS5 rfl hro3 hrdy (bv_one _) ?_ ?_ ?_); (unfold maxLen; omega); omega; intro v6 c6 w6 hr6 hS6); rw [← bv_append] at hr6; have H6 := Lib.hid (And.intro hr5 (And.intro hr6 (hS6.pick [0, 1] (by decide) [c5, c6] rfl))); clear hS5 hro3 hrdy hr5 hr6 hS6) | ((at_builtin; (refine wpList_app 0 29 i0 (.int .u8 0) _ _ rfl rfl rfl rfl Try.underlying29 i0a i0b i0c i0d rfl (by decide) hS3' rfl hrh3 hrd3 (bv_one _) ?_ ?_ ?_); (unfold maxLen; omega); omega; intro v5 c5 w5 hr5 hS5); rw [← bv_append] at hr5; have hrdy := HY.out.1.rd hS5 2 rfl; clear hS3' hrh3 hrd3))
        go_roundg m
        case measure => omega
        case rel =>
          refine ⟨rest.drop n, X ++ [y], c5, c6, ?_, ?_, ?_, ?_, ?_, ?_, ?_, ?_, Lib.hid fun Y hY => ?_, H6.out.2.2⟩
          · have h1 := HRE.out.2.1; have h2 := HTD.out.2.2; omega
          · have h1 := HRE.out.2.1; omega
          · rw [List.length_append, List.length_singleton]; omega
          · rw [HRE.out.2.1]
            first
            | exact HRE.out.1
            | (have := HRE.out.1
               rw [show cap0 - n = 0 by omega] at this
               exact this)
          · have := H6.out.1
            rw [headP_snoc, ← HHD.out, ← HPN.out, List.length_append]
            exact this
          · have := H6.out.2.1
            rw [List.flatten_append, ← HFL.out, List.flatten_singleton, List.length_append]
            exact this
          · rw [headP_snoc, ← HHD.out, ← HPN.out, List.length_append, List.length_append, List.length_singleton]; omega
          · rw [List.flatten_append, ← HFL.out, List.flatten_singleton, List.length_append, List.length_append, List.length_singleton]; omega
          · rw [List.append_assoc, List.singleton_append]
            refine HB.out _ ⟨fun e => ?_, ?_, ?_⟩
            · rw [e] at hn3; simp at hn3; omega
            · rw [← HTD.out.1]; exact HY.out.2.1
            · rw [← HTD.out.2.1]; exact hY
end
end Go.Proofs.Ythgbkncanoknkaa
/-
  Records, as they lie in a row; what a segment holds, as bytes.
-/
set_option linter.unusedVariables false
set_option linter.unusedSimpArgs false
namespace Go.Proofs.Ythgbkncanoknkaa
open Go.RowKit
set_option maxRecDepth 100000
def rcs (rs : List Rec) : List Value := (rs.map recC).flatten
theorem rcs_len (rs : List Rec) : (rcs rs).length = rs.length * 4 := by
  unfold rcs
  rw [rows_flat_len _ 4 (by intro r hr; obtain ⟨u, _, rfl⟩ := List.mem_map.1 hr; rfl), List.length_map]
theorem rcs_get (rs : List Rec) (i j : Nat) (u : Rec) (h : rs[i]? = some u) (hj : j < 4) : (rcs rs)[i * 4 + j]? = (recC u)[j]? := by
  unfold rcs
  rw [rows_flat_get _ 4 (by intro r hr; obtain ⟨u, _, rfl⟩ := List.mem_map.1 hr; rfl), if_neg (by omega), show (i * 4 + j) / 4 = i from by omega, show (i * 4 + j) % 4 = j from by omega, List.getElem?_map, h]
  rfl
theorem rcs_append (a b : List Rec) : rcs (a ++ b) = rcs a ++ rcs b := by simp [rcs]
theorem rcs_snoc (a : List Rec) (r : Rec) : rcs a ++ recC r = rcs (a ++ [r]) := by simp [rcs]
theorem recC_one (u : Rec) : ∀ x ∈ recC u, x.oneCell' = true := by
  intro x hx
  unfold recC at hx
  simp only [List.mem_cons, List.not_mem_nil, or_false] at hx
  rcases hx with rfl | rfl | rfl | rfl <;> rfl
theorem rcs_one (us : List Rec) : ∀ x ∈ rcs us, x.oneCell' = true := by
  intro x hx
  unfold rcs at hx
  obtain ⟨l, hl, hx⟩ := List.mem_flatten.1 hx
  obtain ⟨u, _, rfl⟩ := List.mem_map.1 hl
  exact recC_one u x hx
/-- The four cells of a record, where they are read. -/
theorem Rd.rec {w : World} {n cap : Nat} {ad : Addr} {us : List Rec} (h : Rd w 4 (.slice (some ad) n cap) n (rcs us)) {i : Nat} {u : Rec} (hu : us[i]? = some u) :
    w.cell? (ad.add (i * 4)) = some (.int .i64 u.kind) ∧ w.cell? ⟨(ad.add (i * 4)).block, (ad.add (i * 4)).off + 1, none⟩ = some (.int .i64 u.seq) ∧ w.cell? ⟨(ad.add (i * 4)).block, (ad.add (i * 4)).off + 2, none⟩ = some (.string ⟨u.key.toArray⟩) ∧ w.cell? ⟨(ad.add (i * 4)).block, (ad.add (i * 4)).off + 3, none⟩ = some (.string ⟨u.val.toArray⟩) := by
  have key : ∀ j x, j < 4 → (recC u)[j]? = some x → w.cell? (ad.add (i * 4 + j)) = some x := by
    intro j x hj hx
    obtain ⟨ad', e, hc⟩ := h.at (j := i * 4 + j) (u := x) (by rw [rcs_get us i j u hu hj]; exact hx)
    cases e
    exact hc
  have hadd : ∀ j, 0 < j → ad.add (i * 4 + j) = ⟨(ad.add (i * 4)).block, (ad.add (i * 4)).off + j, none⟩ := by
    intro j hj
    unfold Addr.add
    rw [if_neg (by omega)]
    by_cases hi : i * 4 = 0
    · rw [if_pos hi, hi, Nat.zero_add]
    · rw [if_neg hi]
      simp only [Addr.mk.injEq, and_true, true_and]
      omega
  refine ⟨key 0 _ (by omega) rfl, ?_, ?_, ?_⟩
  · rw [← hadd 1 (by omega)]; exact key 1 _ (by omega) rfl
  · rw [← hadd 2 (by omega)]; exact key 2 _ (by omega) rfl
  · rw [← hadd 3 (by omega)]; exact key 3 _ (by omega) rfl
theorem Rd.rec_some {w : World} {n cap : Nat} {ao : Option Addr} {us : List Rec} (h : Rd w 4 (.slice ao n cap) n (rcs us)) {i : Nat} {u : Rec} (hu : us[i]? = some u) : ∃ ad, ao = some ad := by
  obtain ⟨ad, e, _⟩ := h.at (j := i * 4 + 0) (by rw [rcs_get us i 0 u hu (by omega)]; rfl)
  exact ⟨ad, e⟩
/-! What a segment holds -/
def entP (r : Rec) : List UInt8 := [UInt8.ofNat r.kind.toNat] ++ putN r.seq.toNat ++ textP r.key ++ putN r.val.length
def dirI (n : Nat) (l : List Rec) : List UInt8 := putN n ++ l.flatMap entP
def valsP (l : List Rec) : List UInt8 := l.flatMap Rec.val
theorem dirI_snoc (n : Nat) (l : List Rec) (r : Rec) : dirI n (l ++ [r]) = dirI n l ++ [UInt8.ofNat r.kind.toNat] ++ putN r.seq.toNat ++ textP r.key ++ putN r.val.length := by simp [dirI, entP]
theorem valsP_snoc (l : List Rec) (r : Rec) : valsP (l ++ [r]) = valsP l ++ r.val := by simp [valsP]
/-- The first fault of some. -/
def faultR : List Rec → Nat
  | [] => 0
  | r :: l => if ckR r = 0 then faultR l else ckR r
theorem faultR_take {l : List Rec} {i : Nat} {r : Rec} (hr : l[i]? = some r) (h : faultR (l.take i) = 0) : faultR (l.take (i + 1)) = ckR r ∧ (ckR r ≠ 0 → faultR l = ckR r) := by
  induction l generalizing i with
  | nil => simp at hr
  | cons x l ih =>
    cases i with
    | zero =>
      simp only [List.getElem?_cons_zero, Option.some.injEq] at hr
      subst hr
      refine ⟨?_, fun e => ?_⟩
      · simp only [List.take_succ_cons, List.take_zero, faultR]
        split
        · rename_i e; exact e.symm
        · rfl
      · simp only [faultR]; rw [if_neg e]
    | succ i =>
      simp only [List.getElem?_cons_succ] at hr
      simp only [List.take_succ_cons, faultR] at h ⊢
      by_cases e : ckR x = 0
      · rw [if_pos e] at h
        simp only [if_pos e]
        exact ih hr h
      · rw [if_neg e] at h
        exact absurd h e
/-- What may be. -/
def OkR (r : Rec) : Prop := r.key ≠ [] ∧ r.key.length ≤ 100 ∧ r.val.length ≤ 4000 ∧ (r.kind = 1 ∨ r.kind = 0) ∧ (r.kind = 0 → r.val = []) ∧ 1 ≤ r.seq ∧ r.seq ≤ 1125899906842624
theorem ck_ok {r : Rec} : ckR r = 0 ↔ OkR r := by
  unfold ckR OkR
  by_cases h1 : r.key = []
  · rw [if_pos h1]; simp [h1]
  rw [if_neg h1]
  by_cases h2 : 100 < r.key.length ∨ 4000 < r.val.length
  · rw [if_pos h2]
    constructor
    · intro h; cases h
    · rintro ⟨_, a, b, _⟩; omega
  rw [if_neg h2]
  by_cases h3 : (r.kind ≠ 1 ∧ r.kind ≠ 0) ∨ (r.kind = 0 ∧ r.val ≠ []) ∨ r.seq < 1 ∨ 1125899906842624 < r.seq
  · rw [if_pos h3]
    constructor
    · intro h; cases h
    · rintro ⟨_, _, _, a, b, c, d⟩
      rcases h3 with ⟨e, f⟩ | ⟨e, f⟩ | e | e
      · rcases a with a | a <;> contradiction
      · exact absurd (b e) f
      · omega
      · omega
  · rw [if_neg h3]
    refine ⟨fun _ => ⟨h1, by omega, by omega, ?_, ?_, by omega, by omega⟩, fun _ => rfl⟩
    · by_cases a : r.kind = 1
      · exact .inl a
      · by_cases b : r.kind = 0
        · exact .inr b
        · exact absurd (.inl ⟨a, b⟩) h3
    · intro a
      by_cases b : r.val = []
      · exact b
      · exact absurd (.inr (.inl ⟨a, b⟩)) h3
theorem faultR_zero {l : List Rec} : faultR l = 0 ↔ ∀ r ∈ l, OkR r := by
  induction l with
  | nil => simp [faultR]
  | cons x l ih =>
    simp only [faultR, List.mem_cons, forall_eq_or_imp]
    by_cases e : ckR x = 0
    · rw [if_pos e, ih]
      exact ⟨fun h => ⟨ck_ok.1 e, h⟩, fun h => h.2⟩
    · rw [if_neg e]
      exact ⟨fun h => absurd h e, fun h => absurd (ck_ok.2 h.1) e⟩
theorem entP_le {r : Rec} (h : OkR r) : (entP r).length ≤ 140 := by
  have h1 := putN_le r.seq.toNat
  have h2 := putN_le r.key.length
  have h3 := putN_le r.val.length
  obtain ⟨_, h4, _⟩ := h
  unfold entP textP
  simp only [List.length_append, List.length_singleton]
  omega
theorem ents_le {l : List Rec} (h : ∀ r ∈ l, OkR r) : (l.flatMap entP).length ≤ 140 * l.length := by
  induction l with
  | nil => simp
  | cons x l ih =>
    have h1 := entP_le (h x (by simp))
    have h2 := ih fun r hr => h r (by simp [hr])
    rw [List.flatMap_cons, List.length_append, List.length_cons]
    omega
theorem valsP_take (l : List Rec) (i : Nat) : (valsP (l.take i)).length ≤ (valsP l).length := by
  have : l = l.take i ++ l.drop i := (List.take_append_drop i l).symm
  have h : (valsP l).length = (valsP (l.take i)).length + (valsP (l.drop i)).length := by
    rw [← List.length_append]
    unfold valsP
    rw [← List.flatMap_append, List.take_append_drop]
  omega
theorem dirI_le {l : List Rec} (n : Nat) (h : ∀ r ∈ l, OkR r) : (dirI n l).length ≤ 10 + 140 * l.length := by
  have h1 := putN_le n
  have h2 := ents_le h
  unfold dirI
  rw [List.length_append]
  omega
end Go.Proofs.Ythgbkncanoknkaa
/-
  Contracts of container.plan's blocks, part.
-/
set_option linter.unusedVariables false
set_option linter.unusedSimpArgs false
namespace Go.Proofs.Ythgbkncanoknkaa
open Go.RowKit
set_option maxRecDepth 100000
def planV (n : Int) (v : Value) (e : Int) : Value := .agg #[.int .i64 n, v, .int .i64 e]
set_option maxHeartbeats 800000 in
theorem ctnum_any (n e : Int) (ao : Option Addr) (l cap : Nat) (w : World) :
    Calls Try.prog 51 #[.agg #[.int .i64 n, .slice ao l cap, .int .i64 e]] w fun x w' => x = .returned (.int .i64 (l : Int)) ∧ ∃ o, w' = w.alloc o := by
  go_enter Try.func51, Try.ntmps51
  go_wp2_with fail
  go_ret
  exact ⟨rfl, _, rfl⟩
section
attribute [local go_sem] min2_ints min_of_two
set_option maxHeartbeats 800000 in
theorem ctsize_any (n e : Int) (ao : Option Addr) (l cap : Nat) (k : Nat) (w : World) (hn : 0 ≤ n) (hn2 : n ≤ 1099511627776) (hk : k ≤ 1099511627776) :
    Calls Try.prog 53 #[.agg #[.int .i64 n, .slice ao l cap, .int .i64 e], .int .i64 (k : Int)] w fun x w' => x = .returned (.int .i64 (min 1000 (n - (k : Int) * 1000))) ∧ ∃ o, w' = w.alloc o := by
  have h1 : IntKind.i64.wrap ((k : Int) * 1000) = (k : Int) * 1000 := IntWalk.i64_in _ (by omega)
  have h2 : IntKind.i64.wrap (n - (k : Int) * 1000) = n - (k : Int) * 1000 := IntWalk.i64_in _ (by omega)
  go_enter Try.func53, Try.ntmps53
  go_wp2_with fail
  all_goals
    go_ret
    refine ⟨congrArg (fun z : Int => Ending.returned (Value.int .i64 z)) ?_, _, rfl⟩
    omega
end
end Go.Proofs.Ythgbkncanoknkaa

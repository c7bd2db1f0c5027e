/-
  Contract of lengths.Of.
-/
import Derived.Test.YtmjkacfhhnnlnaaLenA
import Derived.Test.YtmjkacfhhnnlnaaMakes
set_option linter.unusedVariables false
set_option linter.unusedSimpArgs false
namespace Go.Proofs.Ytmjkacfhhnnlnaa
open Go.RowKit
set_option maxRecDepth 100000
theorem CoinAt.lt {B : Nat} {w0 w : World} {L : List HL} {A : List (Nat × Obj)} {p : Nat} {c : Coin} (h : CoinAt A p c) (hS : St B w0 w L) (hA : A ∈ L) : p < w.heap.size := by
  cases h with
  | leaf h => exact hS.lt hA h
  | pack h _ _ => exact hS.lt hA h
/-- The frequencies as numbers. -/
def fN (l : List Int) : List Nat := l.map Int.toNat
theorem fN_length (l : List Int) : (fN l).length = l.length := by simp [fN]
theorem fN_get (l : List Int) (i : Nat) (x : Int) (h : l[i]? = some x) : (fN l).getD i 0 = x.toNat := by
  unfold fN
  rw [List.getD_eq_getElem?_getD, List.getElem?_map, h]
  rfl
def badL (l : List Int) : Bool := decide (300 < l.length) || l.any badF
def OfOut (l : List Int) (w : World) (e : Ending) (w' : World) : Prop :=
  (badL l = true ∧ e = .returned (.tuple #[.slice none 0 0, .int .i64 7]) ∧ w = w') ∨
  (badL l = false ∧ ∃ v c, e = .returned (.tuple #[v, .int .i64 0]) ∧ RowC 3 1 v l.length (iv (mkI (fun s => (lenP (fN l) s : Int)) l.length)) c ∧ St w.heap.size w w' [c])
/-- The leaves of the first places. -/
def lvs (F : List Nat) (i : Nat) : List Coin := ((List.range i).filter fun s => decide (0 < F.getD s 0)).map fun s => Coin.leaf (F.getD s 0) s
theorem lvs_succ (F : List Nat) (i : Nat) : lvs F (i + 1) = lvs F i ++ if 0 < F.getD i 0 then [Coin.leaf (F.getD i 0) i] else [] := by
  unfold lvs
  rw [List.range_succ, List.filter_append, List.map_append]
  congr 1
  by_cases h : 0 < F.getD i 0
  · rw [if_pos h, List.filter_cons, if_pos (by simpa using h)]; rfl
  · rw [if_neg h, List.filter_cons, if_neg (by simpa using h)]; rfl
theorem lvs_length (F : List Nat) (i : Nat) : (lvs F i).length ≤ i := by
  unfold lvs
  rw [List.length_map]
  exact Nat.le_trans (List.length_filter_le _ _) (by simp)
/-- Coins in memory, each in a block of its own. -/
structure CoinsIn (A : List (Nat × Obj)) (l : List (Nat × Coin)) : Prop where
  at_ : ∀ x ∈ l, CoinAt A x.1 x.2
theorem ok_bad {l : List Int} (h : badL l = false) {i : Nat} {x : Int} (hx : l[i]? = some x) : 0 ≤ x ∧ x ≤ 1073741824 := by
  unfold badL at h
  rw [Bool.or_eq_false_iff] at h
  have := List.any_eq_false.1 h.2 x (List.mem_of_getElem? hx)
  unfold badF at this
  simp at this
  omega
theorem pv_snoc (l : List (Nat × Coin)) (p : Nat) (c : Coin) : pv l ++ [.pointer (some ⟨p, 0, none⟩)] = pv (l ++ [(p, c)]) := by simp [pv]
theorem len_one {F : List Nat} {w s : Nat} (h : leavesP F = [.leaf w s]) : ∀ t, lenP F t = if t = s then 1 else 0 := by
  intro t
  have hp := srt_perm F
  have hl : (srt F).length = 1 := by rw [hp.length_eq, h]; rfl
  have hone : srt F = [.leaf w s] := by rw [h] at hp; exact List.perm_singleton.1 hp
  unfold lenP
  rw [if_pos (by omega)]
  by_cases e : 0 < F.getD t 0
  · rw [if_pos e]
    obtain ⟨i, hi⟩ := srt_has e
    rw [hone] at hi
    have : i = 0 := by
      have := (List.getElem?_eq_some_iff.1 hi).1
      simp at this
      omega
    subst this
    simp at hi
    rw [if_pos hi.2.symm]
  · rw [if_neg e, if_neg]
    rintro rfl
    obtain ⟨t', _, h2, e2⟩ := srt_mem (F := F) (x := .leaf w t) (by rw [hone]; exact List.mem_cons_self ..)
    injection e2 with e3 e4
    subst e4
    exact e h2
theorem len_none {F : List Nat} (h : leavesP F = []) : ∀ t, lenP F t = 0 := by
  intro t
  have hp := srt_perm F
  have hone : srt F = [] := by rw [h] at hp; exact List.perm_nil.1 hp
  unfold lenP
  rw [hone, if_pos (by simp), if_neg]
  intro e
  obtain ⟨i, hi⟩ := srt_has e
  rw [hone] at hi
  simp at hi
/-! The coins by their blocks -/
def kOf (q : List (Nat × Coin)) (p : Nat) : Coin := ((q.find? fun x => x.1 == p).map Prod.snd).getD (.leaf 0 0)
def fOf (q : List (Nat × Coin)) (k : Nat) : Nat := (q.getD k (0, .leaf 0 0)).1
theorem kOf_mem : ∀ {q : List (Nat × Coin)}, (q.map Prod.fst).Nodup → ∀ {x : Nat × Coin}, x ∈ q → kOf q x.1 = x.2
  | [], _, x, h => by cases h
  | y :: q, hn, x, h => by
    rw [List.map_cons, List.nodup_cons] at hn
    unfold kOf
    rw [List.find?_cons]
    by_cases e : y.1 = x.1
    · have e2 : (y.1 == x.1) = true := by simpa using e
      rw [e2]
      rcases List.mem_cons.1 h with rfl | h
      · rfl
      · exact absurd (List.mem_map.2 ⟨x, h, e.symm⟩) hn.1
    · have e2 : (y.1 == x.1) = false := by simpa using e
      rw [e2]
      rcases List.mem_cons.1 h with rfl | h
      · exact absurd rfl e
      · exact kOf_mem hn.2 h
theorem fOf_get {q : List (Nat × Coin)} {k : Nat} (h : k < q.length) : q[k]? = some (fOf q k, (q.getD k (0, .leaf 0 0)).2) := by
  unfold fOf
  rw [List.getD_eq_getElem?_getD, List.getElem?_eq_getElem h]
  rfl
theorem rw_fOf (q : List (Nat × Coin)) : rwC (fOf q) q.length = pv q := by
  apply List.ext_getElem?
  intro k
  by_cases h : k < q.length
  · rw [rwC_get _ _ _ h, pv_get q k _ (fOf_get h)]
  · rw [List.getElem?_eq_none (by rw [rwC_length]; omega), List.getElem?_eq_none (by rw [pv_length]; omega)]
def qOf (q : List (Nat × Coin)) (f : Nat → Nat) : List (Nat × Coin) := (List.range q.length).map fun k => (f k, kOf q (f k))
theorem pv_qOf (q : List (Nat × Coin)) (f : Nat → Nat) : pv (qOf q f) = rwC f q.length := by
  unfold pv qOf rwC
  rw [List.map_map]
  rfl
theorem qOf_length (q : List (Nat × Coin)) (f : Nat → Nat) : (qOf q f).length = q.length := by simp [qOf]
theorem fOf_mem {q : List (Nat × Coin)} {k : Nat} (h : k < q.length) : ∃ x ∈ q, x.1 = fOf q k := ⟨_, List.mem_of_getElem? (fOf_get h), rfl⟩
theorem k_fOf {q : List (Nat × Coin)} (hn : (q.map Prod.fst).Nodup) {k : Nat} (h : k < q.length) : (q.map Prod.snd)[k]? = some (kOf q (fOf q k)) := by
  rw [List.getElem?_map, fOf_get h]
  have := kOf_mem hn (List.mem_of_getElem? (fOf_get h))
  simp only at this
  rw [this]
  rfl
theorem range_zero (n : Nat) : List.range' 0 (n - 0) = List.range n := by rw [Nat.sub_zero, List.range_eq_range']
theorem sorted_coins {q : List (Nat × Coin)} {F : List Nat} (hq : q.map Prod.snd = leavesP F) (hn : (q.map Prod.fst).Nodup) {f' : Nat → Nat} (hp : Pm 0 q.length (fOf q) f') (hs : Srt (fun a b => lexC (kOf q a) (kOf q b)) 0 q.length f') :
    (qOf q f').map Prod.snd = srt F ∧ ∀ x ∈ qOf q f', x ∈ q := by
  have e1 : (qOf q f').map Prod.snd = (List.range q.length).map fun k => kOf q (f' k) := by unfold qOf; rw [List.map_map]; rfl
  have e2 : (List.range q.length).map (fun k => kOf q (fOf q k)) = q.map Prod.snd := by
    apply List.ext_getElem?
    intro k
    by_cases h : k < q.length
    · rw [k_fOf hn h, List.getElem?_map, List.getElem?_range h]; rfl
    · rw [List.getElem?_eq_none (by simpa using h), List.getElem?_eq_none (by simpa using h)]
  constructor
  · rw [e1]
    refine lexC_unique ?_ ?_ (srt_lex F)
    · have h1 := hp.2
      rw [range_zero] at h1
      have h2 := h1.map (kOf q)
      rw [List.map_map, List.map_map] at h2
      refine List.Perm.trans h2 ?_
      have e3 : (List.range q.length).map (kOf q ∘ fOf q) = q.map Prod.snd := e2
      rw [e3, hq]
      exact (srt_perm F).symm
    · rw [List.pairwise_map, List.pairwise_iff_getElem]
      intro i j hi hj hij
      simp only [List.getElem_range]
      simp at hj
      exact hs i j (Nat.zero_le _) hij hj
  · intro x hx
    unfold qOf at hx
    obtain ⟨k, hk, rfl⟩ := List.mem_map.1 hx
    simp at hk
    obtain ⟨j, _, hj, e⟩ := hp.mem (Nat.zero_le k) hk
    obtain ⟨y, hy, hy2⟩ := fOf_mem hj
    have := kOf_mem hn hy
    rw [hy2] at this
    rw [e, this, ← hy2]
    exact hy
theorem lex_trans (K : Nat → Coin) : ∀ x y z, lexC (K x) (K y) → lexC (K y) (K z) → lexC (K x) (K z) := by
  intro x y z h1 h2
  unfold lexC at *
  omega
theorem tell_coins {q : List (Nat × Coin)} {F : List Nat} (hq : q.map Prod.snd = leavesP F) (hn : (q.map Prod.fst).Nodup) : ∀ a b, a < b → b < q.length → Tell (fun a b => lexC (kOf q a) (kOf q b)) (cfC (kOf q)) (fOf q a) (fOf q b) := by
  intro a b hab hb
  have h1 := k_fOf hn (show a < q.length by omega)
  have h2 := k_fOf hn hb
  have hs := leavesP_syms F
  rw [← hq, List.pairwise_iff_getElem] at hs
  obtain ⟨la, ea⟩ := List.getElem?_eq_some_iff.1 h1
  obtain ⟨lb, eb⟩ := List.getElem?_eq_some_iff.1 h2
  have h3 := hs a b la lb hab
  rw [ea, eb] at h3
  unfold Tell cfC lexC
  constructor
  · intro h
    split at h
    · left; assumption
    · split at h <;> omega
  · intro h
    split at h
    · omega
    · omega
theorem level_len (l : List Coin) : ∀ k, (levelC l k).length ≤ 2 * l.length
  | 0 => by rw [levelC]; omega
  | k + 1 => by rw [levelC_length]; have := level_len l k; omega
theorem sumC_cnt_le (s S : Nat) : ∀ l : List Coin, (∀ x ∈ l, x.size ≤ S) → sumC (Coin.cnt s) l ≤ l.length * S
  | [], _ => by simp [sumC]
  | x :: l, h => by
    have h1 := sumC_cnt_le s S l fun y hy => h y (List.mem_cons_of_mem _ hy)
    have h2 := h x (List.mem_cons_self ..)
    have h3 := Coin.cnt_le s x
    simp only [sumC, List.map_cons, List.sum_cons, List.length_cons, Nat.add_mul] at *
    omega
theorem srt_bounds {l : List Int} (h : badL l = false) : ∀ x ∈ srt (fN l), x.symsLt l.length ∧ x.worth ≤ 1073741824 ∧ x.size ≤ 1 := by
  intro x hx
  obtain ⟨s, h1, h2, rfl⟩ := srt_mem hx
  rw [fN_length] at h1
  refine ⟨h1, ?_, Nat.le_refl _⟩
  obtain ⟨y, hy⟩ : ∃ y, l[s]? = some y := ⟨_, List.getElem?_eq_getElem h1⟩
  rw [fN_get l s y hy]
  have := ok_bad h hy
  show y.toNat ≤ _
  omega
set_option maxHeartbeats 8000000 in
theorem of_bad (l : List Int) (v : Value) (w : World) (hn : l.length ≤ 1000000) (hb : Rd w 1 v l.length (iv l)) (hbad : badL l = true) :
    Calls Try.prog 8 #[v] w (OfOut l w) := by
  obtain ⟨ao, cap, rfl⟩ := hb.shape
  have H := Lib.hid (And.intro hb hbad)
  by_cases q : 300 < l.length
  · have qi : (300 : Int) < (l.length : Int) := by omega
    clear hb hbad
    go_enter Try.func8, Try.ntmps8
    go_wp2_with fail
    go_ret2
    exact .inl ⟨H.out.2, rfl, rfl⟩
  · have qi : ¬ (300 : Int) < (l.length : Int) := by omega
    have hany : l.any badF = true := by
      unfold badL at hbad
      rw [show decide (300 < l.length) = false from by simp; omega, Bool.false_or] at hbad
      exact hbad
    have HA := Lib.hid hany
    clear hb hbad hany
    go_enter Try.func8, Try.ntmps8
    go_wp2_with fail
    refine (containsf_any _ l w H.out.1 hn).mono ?_
    rintro e w2 ⟨rfl, rfl⟩
    rw [HA.out]
    go_wp2_with fail
    go_ret2
    exact .inl ⟨H.out.2, rfl, rfl⟩
set_option maxHeartbeats 8000000 in
theorem of_good (l : List Int) (v : Value) (w : World) (hb : Rd w 1 v l.length (iv l)) (hgood : badL l = false) :
    Calls Try.prog 8 #[v] w (OfOut l w) := by
  obtain ⟨j0, j0a, j0b, j0c, j0d⟩ := info_parts infoInt
  obtain ⟨i0, i0a, i0b, i0c, i0d⟩ := info_parts infoCoinP
  obtain ⟨ao, cap, rfl⟩ := hb.shape
  have hl300 : l.length ≤ 300 := by
    unfold badL at hgood
    rw [Bool.or_eq_false_iff] at hgood
    simpa using hgood.1
  have hany : l.any badF = false := by
    unfold badL at hgood
    rw [Bool.or_eq_false_iff] at hgood
    exact hgood.2
  have hli : ¬ (300 : Int) < (l.length : Int) := by omega
  have hli2 : (l.length : Int) ≤ 300 := by omega
  have H := Lib.hid (And.intro hb (And.intro hgood hany))
  have hS0 := St.init w
  clear hb hgood hany
  go_enter Try.func8, Try.ntmps8
  go_wp2_with fail
  refine (containsf_any _ l w H.out.1 (by omega)).mono ?_
  rintro e w2 ⟨rfl, rfl⟩
  rw [H.out.2.2]
  go_wp2_with (at_make; (refine wpList_mk (n := l.length) 25 j0 (.int .i64 0) _ _ rfl rfl _ _ _ _ rfl rfl Try.underlying25 j0a j0b j0c j0d rfl ?_ ?_ ?_ ?_ hS0 ?_); omega; omega; omega; (unfold maxLen; omega); intro g cl w1 hr hS1)
  have HQ : Hid (RowC 3 1 (.slice (some ⟨g, 0, none⟩) l.length l.length) l.length (iv (mkI (fun s => ((0 : Nat) : Int)) l.length)) cl) := Lib.hid (by
    rw [mkI_const, iv_replicate]
    exact hr)
  have hS2 : St w.heap.size w w1 [[], [], cl] := by
    have := (hS1.one_nil).one_nil
    exact this
  clear hr hS1 hS0
  go_wp2_with fail
  go_loopg [5, 25] l.length (fun m s5 s25 wr => ∃ i : Nat, i + m = l.length ∧ s25 = .int .i64 (i : Int) ∧ ∃ (q : List (Nat × Coin)) (A c : List (Nat × Obj)), RowC 37 1 s5 q.length (pv q) c ∧ St w.heap.size w wr [c, A, cl] ∧ q.length ≤ i ∧ Hid (CoinsIn A q ∧ q.map Prod.snd = lvs (fN l) i ∧ (q.map Prod.fst).Nodup))
  case atStart => exact ⟨0, by omega, rfl, [], [], [], RowC.nil _ _, hS2, by simp, Lib.hid ⟨⟨by simp⟩, rfl, by simp⟩⟩
  case round =>
    clear hS2
    obtain ⟨i, hi, rfl, q, A, c, hr, hS, hqi, HP⟩ := hrel
    obtain ⟨ao5, cap5, rfl⟩ := hr.shape
    cases gk with
    | succ m =>
      have hil : i < l.length := by omega
      have hii : (i : Int) < (l.length : Int) := by omega
      obtain ⟨x, hx⟩ : ∃ x, l[i]? = some x := ⟨_, List.getElem?_eq_getElem hil⟩
      obtain ⟨hx0, hx1⟩ := ok_bad H.out.2.1 hx
      obtain ⟨ad, rfl, hc⟩ := (H.out.1.st hS).at (iv_get l i x hx)
      have hgx := fN_get l i x hx
      have hlv := lvs_succ (fN l) i
      rw [hgx] at hlv
      have HV := Lib.hid (And.intro hgx hlv)
      clear hgx hlv hx
      by_cases hpos : 0 < x
      · have hS3 := ((hS.alloc (.cells #[.int .i64 x, .int .i64 (i : Int), .pointer none, .pointer none] 39)).pick [0, 2, 1, 3] (by decide) [_, A, c, cl] rfl).merge
        have hS4 := hS3.pick [1, 0, 2] (by decide) [c, _, cl] rfl
        have hnew : ∀ y ∈ q, y.1 < wr.heap.size := by
          intro y hy
          exact (HP.out.1.at_ y hy).lt hS (by simp)
        have HN := Lib.hid hnew
        clear hS3 hnew
        go_wp2_with (at_builtin; (refine wpList_app1g 0 36 i0 (.pointer none) _ _ _ rfl rfl rfl rfl Try.underlying36 i0a i0b i0c i0d rfl hS4 rfl hr rfl ?_ ?_ ?_ ?_); (focus (simp; done)); (unfold maxLen; omega); omega; intro v1 c1 w5 hr1 hS5)
        go_roundg m
        case measure => omega
        case rel =>
          rw [pv_snoc q wr.heap.size (.leaf x.toNat i)] at hr1
          refine ⟨i + 1, by omega, by go_num, q ++ [(wr.heap.size, .leaf x.toNat i)], _, c1, by simpa using hr1, hS5, by simp; omega, Lib.hid ⟨⟨?_⟩, ?_, ?_⟩⟩
          · intro y hy
            rcases List.mem_append.1 hy with h | h
            · exact (HP.out.1.at_ y h).mono (List.subset_append_right _ _)
            · simp at h
              subst h
              refine .leaf (List.mem_append_left _ ?_)
              rw [show ((x.toNat : Nat) : Int) = x from by omega]
              simp
          · rw [List.map_append, HP.out.2.1, HV.out.2, if_pos (by omega)]
            rfl
          · rw [List.map_append, List.nodup_append]
            refine ⟨HP.out.2.2, by simp, ?_⟩
            intro a ha b hb
            simp at hb
            subst hb
            obtain ⟨y, hy, rfl⟩ := List.mem_map.1 ha
            have := HN.out y hy
            omega
      · go_wp2_with fail
        go_roundg m
        case measure => omega
        case rel =>
          refine ⟨i + 1, by omega, by go_num, q, A, c, hr, hS, by omega, Lib.hid ⟨HP.out.1, ?_, HP.out.2.2⟩⟩
          rw [HV.out.2, if_neg (by omega), List.append_nil]
          exact HP.out.2.1
    | zero =>
      have hil : i = l.length := by omega
      have hz : ¬ (i : Int) < (l.length : Int) := by omega
      have hlv : q.map Prod.snd = leavesP (fN l) := by
        rw [HP.out.2.1, hil, ← fN_length l]
        rfl
      have HI := Lib.hid (And.intro hil hlv)
      have hro := HQ.out
      clear hi hil hlv
      by_cases q0 : q.length = 0
      · have hq : q = [] := List.eq_nil_of_length_eq_zero q0
        subst hq
        have hnone := len_none HI.out.2.symm
        have HN := Lib.hid hnone
        clear hnone q0
        go_wp2_with fail
        go_ret2
        refine .inr ⟨H.out.2.1, _, cl, rfl, ?_, hS.pick [2] (by decide) [cl] rfl⟩
        rw [mkI_congr _ (fun s => ((0 : Nat) : Int)) _ (fun s _ => by rw [HN.out s])]
        exact hro
      · by_cases q1 : q.length = 1
        · obtain ⟨⟨p, cn⟩, hq⟩ : ∃ x, q = [x] := by
            match q, q1 with
            | [x], _ => exact ⟨x, rfl⟩
          subst hq
          have hlp := HI.out.2
          have hmem : cn ∈ leavesP (fN l) := by rw [← hlp]; simp
          obtain ⟨s, hs1, hs2, rfl⟩ := srt_mem ((srt_perm (fN l)).symm.subset hmem)
          rw [fN_length] at hs1
          have hone := len_one (F := fN l) (w := (fN l).getD s 0) (s := s) hlp.symm
          have HN := Lib.hid hone
          have hsi : (s : Int) < (l.length : Int) := by omega
          obtain ⟨g5, hg5⟩ := hr.head (by simp)
          subst hg5
          have hcp := hr.cellAt hS 0 rfl (pv_get [(p, Coin.leaf ((fN l).getD s 0) s)] 0 _ rfl)
          have hcs : wr.cell? ⟨p, 1, none⟩ = some (.int .i64 (s : Int)) := by
            have := HP.out.1.at_ (p, Coin.leaf ((fN l).getD s 0) s) (by simp)
            cases this with
            | leaf h => exact hS.cell 1 rfl h 1
          have hlo := hro.cellAt hS 2 rfl (iv_get _ s _ (mkI_get _ _ s hs1))
          have hfr := hro.freeAt hS 2 rfl s
          have HF : Hid (∃ c', RowC 3 1 (.slice (some ⟨g, 0, none⟩) l.length l.length) l.length (iv (mkI (fun t => (lenP (fN l) t : Int)) l.length)) c' ∧ St w.heap.size w (wr.setCell ⟨g, s, none⟩ (.int .i64 1)) [c']) := Lib.hid (by
            obtain ⟨c', h1, h2⟩ := hro.store hS 2 rfl rfl s (.int .i64 1)
            refine ⟨c', ?_, h2.pick [2] (by decide) [c'] rfl⟩
            rw [iv_set, mkI_set] at h1
            rw [mkI_congr _ _ _ (fun t ht => ?_)]
            · exact h1
            · rw [HN.out t]
              by_cases e : t = s
              · rw [if_pos e, if_pos e]; rfl
              · rw [if_neg e, if_neg e])
          clear hlp hmem hone hro q0 q1
          go_wp2_with fail
          go_ret2
          obtain ⟨c', h1, h2⟩ := HF.out
          exact .inr ⟨H.out.2.1, _, c', rfl, h1, h2⟩
        · have hq2 : 2 ≤ q.length := by omega
          have hq2i : ¬ (q.length : Int) < 2 := by omega
          have hq1i : ((q.length : Int) == 1) = false := by rw [beq_eq_false_iff_ne]; omega
          obtain ⟨g5, hg5⟩ := hr.head (by omega)
          subst hg5
          have HRO := Lib.hid hro
          have HR5 := Lib.hid (And.intro hr hS)
          clear q0 q1 hro hr hS HQ
          have hcmp : CmpC w.heap.size w [A, cl] (fun p => ∃ x ∈ q, x.1 = p) (cfC (kOf q)) := by
            rintro wx cd hSx _ _ ⟨x, hx, rfl⟩ ⟨y, hy, rfl⟩
            have e1 := kOf_mem HP.out.2.2 hx
            have e2 := kOf_mem HP.out.2.2 hy
            have := lenof2_any x.1 y.1 x.2.worth y.2.worth wx ((HP.out.1.at_ x hx).worth hSx 1 rfl) ((HP.out.1.at_ y hy).worth hSx 1 rfl)
            unfold cfC
            rw [e1, e2]
            exact this
          have HC := Lib.hid (stableC_any (n := q.length) (g := g5) (cap := cap5) (lex_trans (kOf q)) hcmp (fOf q) c wr (by unfold RowSC; rw [rw_fOf]; exact HR5.out.1) HR5.out.2 (by have := HI.out.1; omega) (fun k hk => fOf_mem hk) (tell_coins HI.out.2 HP.out.2.2))
          clear hcmp
          go_wp2_with fail
          refine HC.out.mono ?_
          rintro e w3 ⟨rfl, f', c5, p1, p2, p3, p4⟩
          obtain ⟨k1, k2⟩ := sorted_coins HI.out.2 HP.out.2.2 p1 p2
          have hq2l : (qOf q f').length = q.length := qOf_length q f'
          have hrow : RowC 37 1 (.slice (some ⟨g5, 0, none⟩) q.length cap5) (qOf q f').length (pv (qOf q f')) c5 := by rw [pv_qOf, hq2l]; exact p3
          have hci : CoinsIn A (qOf q f') := ⟨fun x hx => HP.out.1.at_ x (k2 x hx)⟩
          have H3 := Lib.hid (And.intro k1 (And.intro hq2l (And.intro hci (And.intro hrow p4))))
          clear p1 p2 p3 p4 k1 k2 hq2l hrow hci HC HR5
          generalize qOf q f' = q2 at *
          have hqn : q.length ≤ 300 := by have := HI.out.1; omega
          have hSR := srt_sorted (fN l)
          have hSl : (srt (fN l)).length = q.length := by rw [← H3.out.1, List.length_map]; exact H3.out.2.1
          have HSL := Lib.hid (And.intro hSR (And.intro hSl (level_bounds (srt_bounds H.out.2.1))))
          clear hSR hSl
          -- the leaves, read wherever nothing old is turned
          have hS4 := H3.out.2.2.2.2
          have HRL : Hid (Rd w3 1 (.slice (some ⟨g5, 0, none⟩) q.length cap5) q2.length (pv q2)) := Lib.hid (H3.out.2.2.2.1.rd hS4 0 rfl)
          go_wp2_with fail
          go_loopg [8, 58] 14 (fun m s8 s58 wr => ∃ k : Nat, k + m = 14 ∧ s58 = .int .i64 (k : Int) ∧ ∃ (lk : List (Nat × Coin)) (A' c8 : List (Nat × Obj)), RowC 37 1 s8 lk.length (pv lk) c8 ∧ St w.heap.size w wr [c8, A', cl] ∧ lk.length ≤ 600 ∧ Hid (CoinsIn A' lk ∧ lk.map Prod.snd = levelC (srt (fN l)) k ∧ CoinsIn A' q2) ∧ Hid (Rd wr 1 (.slice (some ⟨g5, 0, none⟩) q.length cap5) q2.length (pv q2)))
          case atStart => exact ⟨0, by omega, rfl, q2, A, c5, by rw [← H3.out.2.1] at *; exact H3.out.2.2.2.1, hS4, by have := H3.out.2.1; omega, Lib.hid ⟨H3.out.2.2.1, H3.out.1, H3.out.2.2.1⟩, HRL⟩
          case round =>
            clear hS4 HRL
            obtain ⟨k, hk, rfl, lk, A', c8, hr8, hS, hlk, HL, HRL⟩ := hrel
            obtain ⟨ao8, cap8, rfl⟩ := hr8.shape
            cases gk with
            | succ m =>
              have hki : (k : Int) < 14 := by omega
              have hk14 : k < 14 := by omega
              generalize wr = wa at *
              have hrd : Reads wa lk := by
                intro x hx
                refine ⟨(HL.out.1.at_ x hx).worth hS 1 rfl, ?_⟩
                have h1 := (HSL.out.2.2 k x.2 (by rw [← HL.out.2.1]; exact List.mem_map.2 ⟨x, hx, rfl⟩)).2.1
                have h2 : 2 ^ k ≤ 2 ^ 14 := Nat.pow_le_pow_right (by omega) (by omega)
                have h3 := Nat.mul_le_mul_right 1073741824 h2
                omega
              have HRK := Lib.hid (And.intro hrd (hr8.rd hS 0 rfl))
              have HR8 := Lib.hid (And.intro hr8 hS)
              have hlki : (lk.length : Int) ≤ 600 := by omega
              clear hrd hr8 hS
              go_wp2_with fail
              go_loopg [9, 10] (lk.length / 2) (fun m2 s9 s10 wz => ∃ j : Nat, j + m2 = lk.length / 2 ∧ s10 = .int .i64 (2 * (j : Int)) ∧ ∃ (pq : List (Nat × Coin)) (A2 cq : List (Nat × Obj)), RowC 37 1 s9 pq.length (pv pq) cq ∧ St wa.heap.size wa wz [cq, A2] ∧ Hid (pq.length = j) ∧ Hid (CoinsIn (A2 ++ A') pq ∧ pq.map Prod.snd = (pairsC (lk.map Prod.snd)).take j))
              case atStart => exact ⟨0, by omega, rfl, [], [], [], RowC.nil _ _, ((St.init wa).one_nil).one_nil, Lib.hid rfl, Lib.hid ⟨⟨by simp⟩, by simp⟩⟩
              case round =>
                obtain ⟨j, hj, rfl, pq, A2, cq, hr9, hSz, HPL, HP9⟩ := hrel
                obtain ⟨ao9, cap9, rfl⟩ := hr9.shape
                cases gk with
                | succ m2 =>
                  have hj1 : 2 * j + 1 < lk.length := by omega
                  have hji : 2 * (j : Int) + 1 < (lk.length : Int) := by omega
                  obtain ⟨x, hx⟩ : ∃ x, lk[2 * j]? = some x := ⟨_, List.getElem?_eq_getElem (by omega)⟩
                  obtain ⟨y, hy⟩ : ∃ y, lk[2 * j + 1]? = some y := ⟨_, List.getElem?_eq_getElem hj1⟩
                  obtain ⟨ad8, rfl, hca1⟩ := (HRK.out.2).at (pv_get lk (2 * j) x hx)
                  obtain ⟨ad8', e8, hca2⟩ := (HRK.out.2).at (pv_get lk (2 * j + 1) y hy)
                  cases e8
                  replace hca2 : wa.cell? ⟨ad8.block, ad8.off + (2 * j + 1), none⟩ = some (.pointer (some ⟨y.1, 0, none⟩)) := hca2
                  obtain ⟨hxa1, hx2⟩ := HRK.out.1 x (List.mem_of_getElem? hx)
                  obtain ⟨hya1, hy2⟩ := HRK.out.1 y (List.mem_of_getElem? hy)
                  obtain ⟨u, v2, g1, g2, g3⟩ := pairsC_get (lk.map Prod.snd) j (by simpa using hj1)
                  rw [List.getElem?_map, hx] at g1
                  rw [List.getElem?_map, hy] at g2
                  simp only [Option.map_some, Option.some.injEq] at g1 g2
                  subst g1
                  subst g2
                  have HG := Lib.hid (And.intro g3 (And.intro hx hy))
                  have hS5 := ((hSz.drew.alloc (.cells #[.int .i64 ((x.2.worth : Int) + (y.2.worth : Int)), .int .i64 0, .pointer (some ⟨x.1, 0, none⟩), .pointer (some ⟨y.1, 0, none⟩)] 39)).pick [0, 2, 1] (by decide) [_, A2, cq] rfl).merge.pick [1, 0] (by decide) [cq, _] rfl
                  have hpl : pq.length ≤ 600 := by have := HPL.out; omega
                  clear g3 hx hy
                  have HCELL : Hid (∀ w', Below wa.heap.size wa w' → w'.cell? (ad8.add (2 * j)) = some (.pointer (some ⟨x.1, 0, none⟩)) ∧ w'.cell? ⟨ad8.block, ad8.off + (2 * j + 1), none⟩ = some (.pointer (some ⟨y.1, 0, none⟩)) ∧ w'.cell? ⟨x.1, 0, none⟩ = some (.int .i64 (x.2.worth : Int)) ∧ w'.cell? ⟨y.1, 0, none⟩ = some (.int .i64 (y.2.worth : Int))) := Lib.hid (by
                    intro w' hw'
                    refine ⟨?_, ?_, ?_, ?_⟩
                    · rw [hw'.cell (World.block_lt_of_cell? _ _ hca1)]; exact hca1
                    · rw [hw'.cell (World.block_lt_of_cell? _ _ hca2)]; exact hca2
                    · rw [hw'.cell (World.block_lt_of_cell? _ _ hxa1)]; exact hxa1
                    · rw [hw'.cell (World.block_lt_of_cell? _ _ hya1)]; exact hya1)
                  clear hca1 hca2 hxa1 hya1
                  go_wp2_with fail
                  have hj0 : (0 : Int) ≤ 2 * (j : Int) := by omega
                  have hj1 : 2 * (j : Int) < (lk.length : Int) := by omega
                  have hj2 : (0 : Int) ≤ 2 * (j : Int) + 1 := by omega
                  have hj3 : 2 * (j : Int) + 1 < (lk.length : Int) := hji
                  have htn : (2 * (j : Int)).toNat = 2 * j := by omega
                  have htn1 : (2 * (j : Int) + 1).toNat = 2 * j + 1 := by omega
                  have hwr1 : IntKind.i64.wrap (2 * (j : Int) + 1) = 2 * (j : Int) + 1 := IntWalk.i64_in _ (by omega)
                  have hwr2 : IntKind.i64.wrap ((x.2.worth : Int) + (y.2.worth : Int)) = (x.2.worth : Int) + (y.2.worth : Int) := IntWalk.i64_in _ (by omega)
                  refine wp_region_held_drew (S := fun w' => Below wa.heap.size wa w') mixed hSz.below.drew (fun hSS => ?_)
                  refine take_d (i := 0) 67 (.slice ao9 pq.length cap9) rfl rfl (by kernel_rfl) (by kernel_rfl) (by kernel_rfl) (fun _ _ _ h => h) (Or.inl ⟨by rfl, ?_⟩) hSS ?_
                  (focus (intro w' hw'; have hb1 := HCELL.out w' hw'; obtain ⟨hb1, hb2, hb3, hb4⟩ := hb1; first | (go_simp; done) | (go_simp; simp [hj0, hj1, hj2, hj3, htn, htn1, hwr1, hwr2]; done)))
                  simp only [Act.put, List.setIfInBounds_toArray, List.set_cons_zero, List.set_cons_succ]
                  refine take_d (i := 1) 68 (.slice (some ad8) lk.length cap8) rfl rfl (by kernel_rfl) (by kernel_rfl) (by kernel_rfl) (fun _ _ _ h => h) (Or.inl ⟨by rfl, ?_⟩) hSS ?_
                  (focus (intro w' hw'; have hb1 := HCELL.out w' hw'; obtain ⟨hb1, hb2, hb3, hb4⟩ := hb1; first | (go_simp; done) | (go_simp; simp [hj0, hj1, hj2, hj3, htn, htn1, hwr1, hwr2]; done)))
                  simp only [Act.put, List.setIfInBounds_toArray, List.set_cons_zero, List.set_cons_succ]
                  refine take_d (i := 2) 69 (.int .i64 (2 * (j : Int))) rfl rfl (by kernel_rfl) (by kernel_rfl) (by kernel_rfl) (fun _ _ _ h => h) (Or.inl ⟨by rfl, ?_⟩) hSS ?_
                  (focus (intro w' hw'; have hb1 := HCELL.out w' hw'; obtain ⟨hb1, hb2, hb3, hb4⟩ := hb1; first | (go_simp; done) | (go_simp; simp [hj0, hj1, hj2, hj3, htn, htn1, hwr1, hwr2]; done)))
                  simp only [Act.put, List.setIfInBounds_toArray, List.set_cons_zero, List.set_cons_succ]
                  refine take_d (i := 3) 70 (.pointer (some (ad8.add (2 * j)))) rfl rfl (by kernel_rfl) (by kernel_rfl) (by kernel_rfl) (fun _ _ _ h => h) (Or.inl ⟨by rfl, ?_⟩) hSS ?_
                  (focus (intro w' hw'; have hb1 := HCELL.out w' hw'; obtain ⟨hb1, hb2, hb3, hb4⟩ := hb1; first | (go_simp; done) | (go_simp; simp [hj0, hj1, hj2, hj3, htn, htn1, hwr1, hwr2]; done)))
                  simp only [Act.put, List.setIfInBounds_toArray, List.set_cons_zero, List.set_cons_succ]
                  refine take_d (i := 4) 71 (.pointer (some ⟨x.1, 0, none⟩)) rfl rfl (by kernel_rfl) (by kernel_rfl) (by kernel_rfl) (fun _ _ _ h => h) (Or.inl ⟨by rfl, ?_⟩) hSS ?_
                  (focus (intro w' hw'; have hb1 := HCELL.out w' hw'; obtain ⟨hb1, hb2, hb3, hb4⟩ := hb1; first | (go_simp; done) | (go_simp; simp [hj0, hj1, hj2, hj3, htn, htn1, hwr1, hwr2]; done)))
                  simp only [Act.put, List.setIfInBounds_toArray, List.set_cons_zero, List.set_cons_succ]
                  refine take_d (i := 5) 72 (.pointer (some ⟨x.1, 0, none⟩)) rfl rfl (by kernel_rfl) (by kernel_rfl) (by kernel_rfl) (fun _ _ _ h => h) (Or.inl ⟨by rfl, ?_⟩) hSS ?_
                  (focus (intro w' hw'; have hb1 := HCELL.out w' hw'; obtain ⟨hb1, hb2, hb3, hb4⟩ := hb1; first | (go_simp; done) | (go_simp; simp [hj0, hj1, hj2, hj3, htn, htn1, hwr1, hwr2]; done)))
                  simp only [Act.put, List.setIfInBounds_toArray, List.set_cons_zero, List.set_cons_succ]
                  refine take_d (i := 6) 73 (.pointer (some ⟨x.1, 0, none⟩)) rfl rfl (by kernel_rfl) (by kernel_rfl) (by kernel_rfl) (fun _ _ _ h => h) (Or.inl ⟨by rfl, ?_⟩) hSS ?_
                  (focus (intro w' hw'; have hb1 := HCELL.out w' hw'; obtain ⟨hb1, hb2, hb3, hb4⟩ := hb1; first | (go_simp; done) | (go_simp; simp [hj0, hj1, hj2, hj3, htn, htn1, hwr1, hwr2]; done)))
                  simp only [Act.put, List.setIfInBounds_toArray, List.set_cons_zero, List.set_cons_succ]
                  refine take_d (i := 7) 74 (.int .i64 (x.2.worth : Int)) rfl rfl (by kernel_rfl) (by kernel_rfl) (by kernel_rfl) (fun _ _ _ h => h) (Or.inl ⟨by rfl, ?_⟩) hSS ?_
                  (focus (intro w' hw'; have hb1 := HCELL.out w' hw'; obtain ⟨hb1, hb2, hb3, hb4⟩ := hb1; first | (go_simp; done) | (go_simp; simp [hj0, hj1, hj2, hj3, htn, htn1, hwr1, hwr2]; done)))
                  simp only [Act.put, List.setIfInBounds_toArray, List.set_cons_zero, List.set_cons_succ]
                  refine take_d (i := 8) 75 (.slice (some ad8) lk.length cap8) rfl rfl (by kernel_rfl) (by kernel_rfl) (by kernel_rfl) (fun _ _ _ h => h) (Or.inl ⟨by rfl, ?_⟩) hSS ?_
                  (focus (intro w' hw'; have hb1 := HCELL.out w' hw'; obtain ⟨hb1, hb2, hb3, hb4⟩ := hb1; first | (go_simp; done) | (go_simp; simp [hj0, hj1, hj2, hj3, htn, htn1, hwr1, hwr2]; done)))
                  simp only [Act.put, List.setIfInBounds_toArray, List.set_cons_zero, List.set_cons_succ]
                  refine take_d (i := 9) 76 (.int .i64 (2 * (j : Int))) rfl rfl (by kernel_rfl) (by kernel_rfl) (by kernel_rfl) (fun _ _ _ h => h) (Or.inl ⟨by rfl, ?_⟩) hSS ?_
                  (focus (intro w' hw'; have hb1 := HCELL.out w' hw'; obtain ⟨hb1, hb2, hb3, hb4⟩ := hb1; first | (go_simp; done) | (go_simp; simp [hj0, hj1, hj2, hj3, htn, htn1, hwr1, hwr2]; done)))
                  simp only [Act.put, List.setIfInBounds_toArray, List.set_cons_zero, List.set_cons_succ]
                  refine take_d (i := 10) 77 (.int .i64 (2 * (j : Int) + 1)) rfl rfl (by kernel_rfl) (by kernel_rfl) (by kernel_rfl) (fun _ _ _ h => h) (Or.inl ⟨by rfl, ?_⟩) hSS ?_
                  (focus (intro w' hw'; have hb1 := HCELL.out w' hw'; obtain ⟨hb1, hb2, hb3, hb4⟩ := hb1; first | (go_simp; done) | (go_simp; simp [hj0, hj1, hj2, hj3, htn, htn1, hwr1, hwr2]; done)))
                  simp only [Act.put, List.setIfInBounds_toArray, List.set_cons_zero, List.set_cons_succ]
                  refine take_d (i := 11) 78 (.pointer (some (ad8.add (2 * j + 1)))) rfl rfl (by kernel_rfl) (by kernel_rfl) (by kernel_rfl) (fun _ _ _ h => h) (Or.inl ⟨by rfl, ?_⟩) hSS ?_
                  (focus (intro w' hw'; have hb1 := HCELL.out w' hw'; obtain ⟨hb1, hb2, hb3, hb4⟩ := hb1; first | (go_simp; done) | (go_simp; simp [hj0, hj1, hj2, hj3, htn, htn1, hwr1, hwr2]; done)))
                  simp only [Act.put, List.setIfInBounds_toArray, List.set_cons_zero, List.set_cons_succ]
                  refine take_d (i := 12) 79 (.pointer (some ⟨y.1, 0, none⟩)) rfl rfl (by kernel_rfl) (by kernel_rfl) (by kernel_rfl) (fun _ _ _ h => h) (Or.inl ⟨by rfl, ?_⟩) hSS ?_
                  (focus (intro w' hw'; have hb1 := HCELL.out w' hw'; obtain ⟨hb1, hb2, hb3, hb4⟩ := hb1; first | (go_simp; done) | (go_simp; simp [hj0, hj1, hj2, hj3, htn, htn1, hwr1, hwr2]; done)))
                  simp only [Act.put, List.setIfInBounds_toArray, List.set_cons_zero, List.set_cons_succ]
                  refine take_d (i := 13) 80 (.pointer (some ⟨y.1, 0, none⟩)) rfl rfl (by kernel_rfl) (by kernel_rfl) (by kernel_rfl) (fun _ _ _ h => h) (Or.inl ⟨by rfl, ?_⟩) hSS ?_
                  (focus (intro w' hw'; have hb1 := HCELL.out w' hw'; obtain ⟨hb1, hb2, hb3, hb4⟩ := hb1; first | (go_simp; done) | (go_simp; simp [hj0, hj1, hj2, hj3, htn, htn1, hwr1, hwr2]; done)))
                  simp only [Act.put, List.setIfInBounds_toArray, List.set_cons_zero, List.set_cons_succ]
                  refine take_d (i := 14) 81 (.pointer (some ⟨y.1, 0, none⟩)) rfl rfl (by kernel_rfl) (by kernel_rfl) (by kernel_rfl) (fun _ _ _ h => h) (Or.inl ⟨by rfl, ?_⟩) hSS ?_
                  (focus (intro w' hw'; have hb1 := HCELL.out w' hw'; obtain ⟨hb1, hb2, hb3, hb4⟩ := hb1; first | (go_simp; done) | (go_simp; simp [hj0, hj1, hj2, hj3, htn, htn1, hwr1, hwr2]; done)))
                  simp only [Act.put, List.setIfInBounds_toArray, List.set_cons_zero, List.set_cons_succ]
                  refine take_d (i := 15) 82 (.int .i64 (y.2.worth : Int)) rfl rfl (by kernel_rfl) (by kernel_rfl) (by kernel_rfl) (fun _ _ _ h => h) (Or.inl ⟨by rfl, ?_⟩) hSS ?_
                  (focus (intro w' hw'; have hb1 := HCELL.out w' hw'; obtain ⟨hb1, hb2, hb3, hb4⟩ := hb1; first | (go_simp; done) | (go_simp; simp [hj0, hj1, hj2, hj3, htn, htn1, hwr1, hwr2]; done)))
                  simp only [Act.put, List.setIfInBounds_toArray, List.set_cons_zero, List.set_cons_succ]
                  refine take_d (i := 16) 83 (.int .i64 ((x.2.worth : Int) + (y.2.worth : Int))) rfl rfl (by kernel_rfl) (by kernel_rfl) (by kernel_rfl) (fun _ _ _ h => h) (Or.inl ⟨by rfl, ?_⟩) hSS ?_
                  (focus (intro w' hw'; have hb1 := HCELL.out w' hw'; obtain ⟨hb1, hb2, hb3, hb4⟩ := hb1; first | (go_simp; done) | (go_simp; simp [hj0, hj1, hj2, hj3, htn, htn1, hwr1, hwr2]; done)))
                  simp only [Act.put, List.setIfInBounds_toArray, List.set_cons_zero, List.set_cons_succ]
                  refine take_d (i := 17) 84 (.slice (some ad8) lk.length cap8) rfl rfl (by kernel_rfl) (by kernel_rfl) (by kernel_rfl) (fun _ _ _ h => h) (Or.inl ⟨by rfl, ?_⟩) hSS ?_
                  (focus (intro w' hw'; have hb1 := HCELL.out w' hw'; obtain ⟨hb1, hb2, hb3, hb4⟩ := hb1; first | (go_simp; done) | (go_simp; simp [hj0, hj1, hj2, hj3, htn, htn1, hwr1, hwr2]; done)))
                  simp only [Act.put, List.setIfInBounds_toArray, List.set_cons_zero, List.set_cons_succ]
                  refine take_d (i := 18) 85 (.int .i64 (2 * (j : Int))) rfl rfl (by kernel_rfl) (by kernel_rfl) (by kernel_rfl) (fun _ _ _ h => h) (Or.inl ⟨by rfl, ?_⟩) hSS ?_
                  (focus (intro w' hw'; have hb1 := HCELL.out w' hw'; obtain ⟨hb1, hb2, hb3, hb4⟩ := hb1; first | (go_simp; done) | (go_simp; simp [hj0, hj1, hj2, hj3, htn, htn1, hwr1, hwr2]; done)))
                  simp only [Act.put, List.setIfInBounds_toArray, List.set_cons_zero, List.set_cons_succ]
                  refine take_d (i := 19) 86 (.pointer (some (ad8.add (2 * j)))) rfl rfl (by kernel_rfl) (by kernel_rfl) (by kernel_rfl) (fun _ _ _ h => h) (Or.inl ⟨by rfl, ?_⟩) hSS ?_
                  (focus (intro w' hw'; have hb1 := HCELL.out w' hw'; obtain ⟨hb1, hb2, hb3, hb4⟩ := hb1; first | (go_simp; done) | (go_simp; simp [hj0, hj1, hj2, hj3, htn, htn1, hwr1, hwr2]; done)))
                  simp only [Act.put, List.setIfInBounds_toArray, List.set_cons_zero, List.set_cons_succ]
                  refine take_d (i := 20) 87 (.pointer (some ⟨x.1, 0, none⟩)) rfl rfl (by kernel_rfl) (by kernel_rfl) (by kernel_rfl) (fun _ _ _ h => h) (Or.inl ⟨by rfl, ?_⟩) hSS ?_
                  (focus (intro w' hw'; have hb1 := HCELL.out w' hw'; obtain ⟨hb1, hb2, hb3, hb4⟩ := hb1; first | (go_simp; done) | (go_simp; simp [hj0, hj1, hj2, hj3, htn, htn1, hwr1, hwr2]; done)))
                  simp only [Act.put, List.setIfInBounds_toArray, List.set_cons_zero, List.set_cons_succ]
                  refine take_d (i := 21) 88 (.slice (some ad8) lk.length cap8) rfl rfl (by kernel_rfl) (by kernel_rfl) (by kernel_rfl) (fun _ _ _ h => h) (Or.inl ⟨by rfl, ?_⟩) hSS ?_
                  (focus (intro w' hw'; have hb1 := HCELL.out w' hw'; obtain ⟨hb1, hb2, hb3, hb4⟩ := hb1; first | (go_simp; done) | (go_simp; simp [hj0, hj1, hj2, hj3, htn, htn1, hwr1, hwr2]; done)))
                  simp only [Act.put, List.setIfInBounds_toArray, List.set_cons_zero, List.set_cons_succ]
                  refine take_d (i := 22) 89 (.int .i64 (2 * (j : Int))) rfl rfl (by kernel_rfl) (by kernel_rfl) (by kernel_rfl) (fun _ _ _ h => h) (Or.inl ⟨by rfl, ?_⟩) hSS ?_
                  (focus (intro w' hw'; have hb1 := HCELL.out w' hw'; obtain ⟨hb1, hb2, hb3, hb4⟩ := hb1; first | (go_simp; done) | (go_simp; simp [hj0, hj1, hj2, hj3, htn, htn1, hwr1, hwr2]; done)))
                  simp only [Act.put, List.setIfInBounds_toArray, List.set_cons_zero, List.set_cons_succ]
                  refine take_d (i := 23) 90 (.int .i64 (2 * (j : Int) + 1)) rfl rfl (by kernel_rfl) (by kernel_rfl) (by kernel_rfl) (fun _ _ _ h => h) (Or.inl ⟨by rfl, ?_⟩) hSS ?_
                  (focus (intro w' hw'; have hb1 := HCELL.out w' hw'; obtain ⟨hb1, hb2, hb3, hb4⟩ := hb1; first | (go_simp; done) | (go_simp; simp [hj0, hj1, hj2, hj3, htn, htn1, hwr1, hwr2]; done)))
                  simp only [Act.put, List.setIfInBounds_toArray, List.set_cons_zero, List.set_cons_succ]
                  refine take_d (i := 24) 91 (.pointer (some (ad8.add (2 * j + 1)))) rfl rfl (by kernel_rfl) (by kernel_rfl) (by kernel_rfl) (fun _ _ _ h => h) (Or.inl ⟨by rfl, ?_⟩) hSS ?_
                  (focus (intro w' hw'; have hb1 := HCELL.out w' hw'; obtain ⟨hb1, hb2, hb3, hb4⟩ := hb1; first | (go_simp; done) | (go_simp; simp [hj0, hj1, hj2, hj3, htn, htn1, hwr1, hwr2]; done)))
                  simp only [Act.put, List.setIfInBounds_toArray, List.set_cons_zero, List.set_cons_succ]
                  refine take_d (i := 25) 92 (.pointer (some ⟨y.1, 0, none⟩)) rfl rfl (by kernel_rfl) (by kernel_rfl) (by kernel_rfl) (fun _ _ _ h => h) (Or.inl ⟨by rfl, ?_⟩) hSS ?_
                  (focus (intro w' hw'; have hb1 := HCELL.out w' hw'; obtain ⟨hb1, hb2, hb3, hb4⟩ := hb1; first | (go_simp; done) | (go_simp; simp [hj0, hj1, hj2, hj3, htn, htn1, hwr1, hwr2]; done)))
                  simp only [Act.put, List.setIfInBounds_toArray, List.set_cons_zero, List.set_cons_succ]
                  refine wpAnyH_ready (rs := [26]) (by kernel_rfl) (by simp) (AllReadyH.cons rfl (fun K1 hK1 => ?_) AllReadyH.nil)
                  rw [if_pos (by rfl)]
                  go_simp
                  refine hK1.out _ _ hSS (fun _ => ?_)
                  refine wpAnyH_ready (rs := [27]) (by kernel_rfl) (by simp) (AllReadyH.cons rfl (fun K2 hK2 => ?_) AllReadyH.nil)
                  rw [if_pos (by rfl)]
                  go_simp
                  refine hK2.out _ _ (hS5.below) (fun _ => ?_)
                  refine wpAnyH_ready (rs := [28]) (by kernel_rfl) (by simp) (AllReadyH.cons rfl (fun K3 hK3 => ?_) AllReadyH.nil)
                  rw [if_pos (by rfl)]
                  go_simp
                  have hS6 := hS5.alloc' (.cells #[.pointer (some ⟨wr.heap.size, 0, none⟩)] 37)
                  have hone : Rd ((wr.drew.alloc (.cells #[.int .i64 ((x.2.worth : Int) + (y.2.worth : Int)), .int .i64 0, .pointer (some ⟨x.1, 0, none⟩), .pointer (some ⟨y.1, 0, none⟩)] 39)).alloc (.cells #[.pointer (some ⟨wr.heap.size, 0, none⟩)] 37)) 1 (.slice (some ⟨wr.heap.size + 1, 0, none⟩) 1 1) 1 [.pointer (some ⟨wr.heap.size, 0, none⟩)] := by
                    have := Rd.one (wr.drew.alloc (.cells #[.int .i64 ((x.2.worth : Int) + (y.2.worth : Int)), .int .i64 0, .pointer (some ⟨x.1, 0, none⟩), .pointer (some ⟨y.1, 0, none⟩)] 39)) (.pointer (some ⟨wr.heap.size, 0, none⟩)) 37
                    rw [show (wr.drew.alloc (.cells #[.int .i64 ((x.2.worth : Int) + (y.2.worth : Int)), .int .i64 0, .pointer (some ⟨x.1, 0, none⟩), .pointer (some ⟨y.1, 0, none⟩)] 39)).heap.size = wr.heap.size + 1 from by simp] at this
                    exact this
                  refine hK3.out _ _ (hS6.below) (fun _ => ?_)
                  refine wpAnyH_ready (rs := [29]) (by kernel_rfl) (by simp) (AllReadyH.cons rfl (fun K4 hK4 => ?_) AllReadyH.nil)
                  refine step_app (n := pq.length) (m := 1) (xs := pv pq) (news := [.pointer (some ⟨wr.heap.size, 0, none⟩)]) 0 36 i0 (.pointer none) _ _ rfl rfl rfl rfl Try.underlying36 i0a i0b i0c i0d rfl (by decide) hS6 rfl hr9 hone (by simp [Value.oneCell']) (by unfold maxLen; omega) (by omega) (fun v1 c1 w5 hr1 hS7 => ?_)
                  refine hK4.out _ _ hS7.below (fun _ => ?_)
                  simp only [Act.put, List.setIfInBounds_toArray, List.set_cons_zero, List.set_cons_succ]
                  refine wpAnyH_ready (rs := [30]) (by kernel_rfl) (by simp) (AllReadyH.cons rfl (fun K5 hK5 => ?_) AllReadyH.nil)
                  rw [if_pos (by rfl)]
                  go_simp
                  refine hK5.out _ _ hS7.below (fun _ => ?_)
                  refine wpAnyH_done (by kernel_rfl) ?_ _
                  go_wp2_with fail
                  go_roundg m2
                  case measure => omega
                  case rel =>
                    rw [pv_snoc pq wr.heap.size (.pack x.2 y.2)] at hr1
                    refine ⟨j + 1, by omega, by go_num, pq ++ [(wr.heap.size, .pack x.2 y.2)], _, c1, by simpa using hr1, hS7, Lib.hid (by have := HPL.out; simp; omega), Lib.hid ⟨⟨?_⟩, ?_⟩⟩
                    · intro z hz
                      rcases List.mem_append.1 hz with h | h
                      · refine (HP9.out.1.at_ z h).mono ?_
                        rw [List.append_assoc]
                        exact List.subset_append_right _ _
                      · simp at h
                        subst h
                        refine .pack ?_ ((HL.out.1.at_ x (List.mem_of_getElem? HG.out.2.1)).mono (List.subset_append_right _ _)) ((HL.out.1.at_ y (List.mem_of_getElem? HG.out.2.2)).mono (List.subset_append_right _ _))
                        rw [List.append_assoc]
                        refine List.mem_append_left _ ?_
                        simp
                    · rw [List.map_append, HP9.out.2, List.take_add_one, HG.out.1]
                      rfl
                | zero =>
                  have hjl : j = lk.length / 2 := by omega
                  have hz : ¬ 2 * (j : Int) + 1 < (lk.length : Int) := by omega
                  have hjb : (j : Int) ≤ 300 := by omega
                  have hplen := HPL.out
                  have hpq : pq.map Prod.snd = pairsC (levelC (srt (fN l)) k) := by
                    rw [HP9.out.2, HL.out.2.1, List.take_of_length_le]
                    rw [pairsC_length, ← HL.out.2.1, List.length_map]
                    omega
                  have hJ := (HR8.out.2.join hSz).pick [1, 3, 0, 2, 4] (by decide) [A2, A', cq, c8, cl] rfl
                  have hJ2 := hJ.merge
                  have hrp : Reads wr pq := by
                    intro x hx
                    refine ⟨(HP9.out.1.at_ x hx).worth hJ2 0 rfl, ?_⟩
                    have hm : x.2 ∈ levelC (srt (fN l)) (k + 1) := by
                      rw [levelC]
                      refine (mergeK_perm _ _ _).symm.subset (List.mem_append_right _ ?_)
                      rw [← hpq]
                      exact List.mem_map.2 ⟨x, hx, rfl⟩
                    have h1 := (HSL.out.2.2 (k + 1) x.2 hm).2.1
                    have h2 : 2 ^ (k + 1) ≤ 2 ^ 14 := Nat.pow_le_pow_right (by omega) (by omega)
                    have h3 := Nat.mul_le_mul_right 1073741824 h2
                    omega
                  have hrl : Reads wr q2 := by
                    intro x hx
                    have h0 : Reads wa q2 := by
                      intro x hx
                      refine ⟨(HL.out.2.2.at_ x hx).worth HR8.out.2 1 rfl, ?_⟩
                      have h1 := (HSL.out.2.2 0 x.2 (by rw [levelC, ← H3.out.1]; exact List.mem_map.2 ⟨x, hx, rfl⟩)).2.1
                      omega
                    exact (h0.keep hSz.below) x hx
                  have hq2n : q2.length = q.length := H3.out.2.1
                  have hq2l : q2.length + pq.length ≤ 1000000 := by omega
                  have HJ := Lib.hid (And.intro hJ2 (And.intro hpq (And.intro hplen hq2n)))
                  have HM := Lib.hid (merged_any q2 pq _ _ wr (HRL.out.st hSz) (hr9.rd hSz 0 rfl) hrl hrp hq2l)
                  have HRZ := Lib.hid (HRL.out.st hSz)
                  have HJL := Lib.hid hjl
                  clear hJ hJ2 hrp hrl hpq hj hplen hq2l hq2n hjl hr9 hSz
                  go_wp2_with fail
                  refine HM.out.mono ?_
                  rintro e w6 ⟨v8, c9, rfl, hr10, hS10⟩
                  have hJ3 := (HJ.out.1.join hS10).pick [0, 1, 4] (by decide) [c9, A2 ++ A', cl] rfl
                  have HF := Lib.hid (And.intro hr10 (And.intro hJ3 (HRZ.out.keep hS10.below)))
                  clear hr10 hJ3 hS10 HM
                  go_wp2_with fail
                  go_roundg m
                  case measure => omega
                  case rel =>
                    refine ⟨k + 1, by omega, by go_num, mergeK keyP q2 pq, A2 ++ A', c9, HF.out.1, HF.out.2.1, ?_, Lib.hid ⟨⟨?_⟩, ?_, ⟨fun x hx => (HL.out.2.2.at_ x hx).mono (List.subset_append_right _ _)⟩⟩, Lib.hid HF.out.2.2⟩
                    · rw [mergeK_length]
                      have := HJ.out.2.2.1
                      have := HJ.out.2.2.2
                      have := HJL.out
                      omega
                    · intro x hx
                      rcases List.mem_append.1 ((mergeK_perm keyP q2 pq).subset hx) with h | h
                      · exact (HL.out.2.2.at_ x h).mono (List.subset_append_right _ _)
                      · exact HP9.out.1.at_ x h
                    · rw [mergeK_map, H3.out.1, HJ.out.2.1]
                      rfl
            | zero =>
              have hk14 : k = 14 := by omega
              have hz : ¬ (k : Int) < 14 := by omega
              have hlv : lk.map Prod.snd = levelC (srt (fN l)) 14 := by rw [HL.out.2.1, hk14]
              have hlen : 2 * q.length - 2 ≤ lk.length := by
                have h1 := level14_length (srt (fN l)) (by rw [HSL.out.2.1]; exact hq2) (by rw [HSL.out.2.1]; exact hqn)
                rw [← hlv, List.length_map, HSL.out.2.1] at h1
                exact h1
              obtain ⟨N, hN⟩ : ∃ N : Nat, N + 2 = 2 * q.length := ⟨2 * q.length - 2, by omega⟩
              have hNi : 2 * (q.length : Int) - 2 = (N : Int) := by omega
              have hN1 : N ≤ lk.length := by omega
              have hN3 : N ≤ 600 := by omega
              have hN2 : 2 ≤ N := by omega
              obtain ⟨g8, hg8⟩ := hr8.head (by omega)
              subst hg8
              have hcap8 := hr8.cap
              have hNc : (N : Int) ≤ (cap8 : Int) := by omega
              have hNc2 : N ≤ cap8 := by omega
              have hS9 := hS.pick [2, 0, 1] (by decide) [cl, c8, A'] rfl
              have HLV := Lib.hid (And.intro hlv (And.intro hN (And.intro hr8 hS9)))
              have HL0 : Hid (RowC 3 1 (.slice (some ⟨g, 0, none⟩) l.length l.length) l.length (iv (mkI (fun s => ((sumC (Coin.cnt s) ((lk.map Prod.snd).take 0) : Nat) : Int)) l.length)) cl) := HRO
              clear hk14 hlv hlen hr8 hS hS9 hk hcap8
              go_wp2_with fail
              go_loopg [108] N (fun m s108 wx => ∃ i2 : Nat, i2 + m = N ∧ s108 = .int .i64 (i2 : Int) ∧ ∃ clx, Hid (RowC 3 1 (.slice (some ⟨g, 0, none⟩) l.length l.length) l.length (iv (mkI (fun s => ((sumC (Coin.cnt s) ((lk.map Prod.snd).take i2) : Nat) : Int)) l.length)) clx ∧ St w.heap.size w wx [clx, c8, A']))
              case atStart => exact ⟨0, by omega, rfl, cl, Lib.hid ⟨HL0.out, HLV.out.2.2.2⟩⟩
              case round =>
                obtain ⟨i2, hi2, rfl, clx, HQ2⟩ := hrel
                cases gk with
                | zero =>
                  have hiN : i2 = N := by omega
                  have hz2 : ¬ (i2 : Int) < (N : Int) := by omega
                  have HIN := Lib.hid hiN
                  clear hi2 hiN
                  go_wp2_with fail
                  go_ret2
                  refine .inr ⟨H.out.2.1, _, clx, rfl, ?_, HQ2.out.2.pick [0] (by decide) [clx] rfl⟩
                  have h1 := HQ2.out.1
                  rw [mkI_congr _ (fun s => (lenP (fN l) s : Int)) _ (fun s _ => by
                    unfold lenP
                    have h3 := HSL.out.2.1
                    have h4 := HLV.out.2.1
                    rw [if_neg (by omega), HIN.out, HLV.out.1, show 2 * (srt (fN l)).length - 2 = N from by omega])] at h1
                  exact h1
                | succ m2 =>
                  have hiN : (i2 : Int) < (N : Int) := by omega
                  have hiN2 : i2 < N := by omega
                  obtain ⟨x, hx⟩ : ∃ x, lk[i2]? = some x := ⟨_, List.getElem?_eq_getElem (by omega)⟩
                  have hcp := HLV.out.2.2.1.cellAt HQ2.out.2 1 rfl (pv_get lk i2 x hx)
                  obtain ⟨b1, b2, b3⟩ := HSL.out.2.2 14 x.2 (by rw [← HLV.out.1]; exact List.mem_map.2 ⟨x, List.mem_of_getElem? hx, rfl⟩)
                  have hbd : ∀ s, sumC (Coin.cnt s) ((lk.map Prod.snd).take i2) + x.2.size ≤ 1000000000 := by
                    intro s
                    have h1 := sumC_cnt_le s (2 ^ 14) ((lk.map Prod.snd).take i2) (by
                      intro y hy
                      exact (HSL.out.2.2 14 y (by rw [← HLV.out.1]; exact List.mem_of_mem_take hy)).2.2)
                    have h2 : ((lk.map Prod.snd).take i2).length ≤ 600 := by rw [List.length_take]; omega
                    have h3 := Nat.mul_le_mul_right (2 ^ 14) h2
                    omega
                  have HC2 := Lib.hid (count_any (F := [c8, A']) (n := l.length) 1 rfl (by omega) x.2 x.1 clx wr (fun s => sumC (Coin.cnt s) ((lk.map Prod.snd).take i2)) (HL.out.1.at_ x (List.mem_of_getElem? hx)) HQ2.out.1 HQ2.out.2 b1 hbd)
                  have hstep : ∀ s, sumC (Coin.cnt s) ((lk.map Prod.snd).take i2) + x.2.cnt s = sumC (Coin.cnt s) ((lk.map Prod.snd).take (i2 + 1)) := by
                    intro s
                    rw [List.take_add_one, List.getElem?_map, hx, sumC_append]
                    simp [sumC]
                  have HST := Lib.hid hstep
                  clear hstep hbd hx b1 b2 b3
                  go_wp2_with fail
                  refine HC2.out.mono ?_
                  rintro e w7 ⟨rfl, c7, hr7, hS7⟩
                  have HF : Hid (RowC 3 1 (.slice (some ⟨g, 0, none⟩) l.length l.length) l.length (iv (mkI (fun s => ((sumC (Coin.cnt s) ((lk.map Prod.snd).take (i2 + 1)) : Nat) : Int)) l.length)) c7 ∧ St w.heap.size w w7 [c7, c8, A']) := Lib.hid ⟨by
                    rw [mkI_congr _ _ _ (fun s _ => by rw [← HST.out s])]
                    exact hr7, hS7⟩
                  clear hr7 hS7
                  go_wp2_with fail
                  go_roundg m2
                  case measure => omega
                  case rel => exact ⟨i2 + 1, by omega, by go_num, c7, HF⟩
theorem of_any (l : List Int) (v : Value) (w : World) (hn : l.length ≤ 1000000) (hb : Rd w 1 v l.length (iv l)) : Calls Try.prog 8 #[v] w (OfOut l w) := by
  cases h : badL l with
  | true => exact of_bad l v w hn hb h
  | false => exact of_good l v w hb h
end Go.Proofs.Ytmjkacfhhnnlnaa

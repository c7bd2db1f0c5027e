/-
  The walk of BwtSame.
-/
import Derived.Test.YtdgpbgdpdmikaabBwtBegun
import Derived.Test.YtdgpbgdpdmikaabShort
set_option linter.unusedVariables false
set_option linter.unusedSimpArgs false
namespace Go.Proofs.Ytdgpbgdpdmikaab
open Go.RowKit
set_option maxRecDepth 100000
@[go_sem] theorem zero256 (w : World) : (zeroValue 34).run Try.prog w = .ok (.agg (arrN 256 fun _ => 0)) w := zero_arr (by kernel_rfl) w
/-- How often each byte stands. -/
def sm1 (s : List Nat) (k : Nat) : Int := (s.count k : Nat)
theorem sm1_step (s : List Nat) (i : Nat) (h : i < s.length) : (fun j => if j = ch s i then sm1 (s.take i) (ch s i) + 1 else sm1 (s.take i) j) = sm1 (s.take (i + 1)) := by
  funext j
  unfold sm1
  rw [take_succ_ch s i h, List.count_append]
  by_cases e : j = ch s i
  · subst e; simp
  · have : [ch s i].count j = 0 := by rw [List.count_eq_zero]; simpa using e
    rw [if_neg e, this]
    simp
def sm2 (s t : List Nat) (i k : Nat) : Int := sm1 s k - sm1 (t.take i) k
theorem sm2_step (s t : List Nat) (i : Nat) (h : i < t.length) : (fun j => if j = ch t i then sm2 s t i (ch t i) - 1 else sm2 s t i j) = sm2 s t (i + 1) := by
  funext j
  have := congrFun (sm1_step t i h) j
  unfold sm2
  rw [← this]
  by_cases e : j = ch t i
  · subst e; simp; omega
  · simp [e]
theorem sm_bound (s : List Nat) (n k : Nat) (h : s.length ≤ n) : 0 ≤ sm1 s k ∧ sm1 s k ≤ n := by
  unfold sm1
  have := count_bound k s n h
  omega
set_option maxHeartbeats 2000000 in
theorem BwtSame_walk (w : World) (v : Value) (bs0 : List UInt8) (h : Rd w 1 v bs0.length (bv bs0)) (sz : bs0.length ≤ 140737488351232) :
    Calls Try.prog 6 #[v] w fun e w' => e = .returned (.bool true) ∧ Below w.heap.size w w' := by
  go_enter Try.func6, Try.ntmps6
  go_wp2_with fail
  refine (begun9 _).mono ?_
  rintro e w1 ⟨rfl, hb⟩
  have hS := (St.init w).mono hb
  have hr := h.keep hb
  clear hb
  go_wp2_with fail
  refine (short_gen v bs0 400 w1 hr (by omega)).mono ?_
  rintro e w2 ⟨v', rfl, hgen, rfl⟩
  have hr' := hgen w h
  clear hr h hgen
  have hnb : (bs0.take 400).length ≤ 400 := by simp; omega
  generalize bs0.take 400 = b at *
  clear sz
  obtain ⟨aob, capb, rfl⟩ := hr'.shape
  have HRD := Lib.hid hr'
  have HS := Lib.hid hS
  clear hr' hS
  go_wp2_with fail
  refine (forward_any b _ w1 (by omega) (HRD.out.st HS.out)).mono ?_
  rintro e w2 ⟨T, v2, c2, L, hsa, rfl, hr2, hL, hS2⟩
  have hg := FwdOut.good hsa hL
  obtain ⟨ao2, cap2, rfl⟩ := hr2.shape
  have hS3 := HS.out.join hS2
  have hLl : L.length = b.length := by have h1 := hsa.one; rw [nb_length] at h1; have := congrArg List.length hL; rw [nb_length, fwdN_length h1, nb_length] at this; exact this
  have hix : atF b.length T ≤ b.length := by unfold atF; have h1 := hsa.one; rw [nb_length] at h1; have := h1.idx_lt (Nat.zero_le _); rw [nb_length] at this; omega
  have H2 := Lib.hid (And.intro hsa (And.intro hL (And.intro hg (And.intro hr2 hS3))))
  have HL := Lib.hid (And.intro hLl hix)
  clear hsa hr2 hL hS2 hg hS3 hLl hix
  have hle : ∀ (s : List UInt8) i, ch (nb s) i ≤ 255 := by
    intro s i
    rcases Nat.lt_or_ge i (nb s).length with q | q
    · exact nb_le s _ (ch_mem _ i q)
    · unfold ch; rw [List.getD_eq_getElem?_getD, List.getElem?_eq_none q]; simp
  have HLE := Lib.hid hle
  have HNB := Lib.hid (And.intro (nb_length b) (nb_length L))
  clear hle
  have hS4 := H2.out.2.2.2.2.alloc (.cells (arrN 256 fun _ => 0) 34)
  have hpr : Hid ((nb L).Perm (nb b)) := Lib.hid (by
    have h1 := H2.out.1.one
    rw [nb_length] at h1
    rw [H2.out.2.1]
    exact fwdN_perm h1)
  go_wp2_with fail
  go_loopg [7] b.length (fun m s7 wr => ∃ i : Nat, i + m = b.length ∧ s7 = .int .i64 (i : Int) ∧ St w.heap.size w wr [[(w2.heap.size, .cells (arrN 256 (sm1 ((nb b).take i))) 34 (0, 0))], c2])
  case atStart => exact ⟨0, by omega, rfl, hS4⟩
  case round =>
    clear hS4
    obtain ⟨i, hi, rfl, hS⟩ := hrel
    cases gk with
    | succ m =>
      have hib : i < b.length := by omega
      have hii : (i : Int) < (b.length : Int) := by omega
      obtain ⟨ad, rfl, hc⟩ := (HRD.out.st hS).at (bv_get b i _ (List.getElem?_eq_getElem hib))
      rw [← nb_at b i _ (List.getElem?_eq_getElem hib)] at hc
      have hx := HLE.out b i
      have hxi : ((ch (nb b) i : Nat) : Int) < 256 := by omega
      have hld := hS.cell 0 rfl (List.mem_singleton.2 rfl) (ch (nb b) i)
      rw [arrN_get _ _ _ (by omega)] at hld
      have hfr := hS.free 0 rfl (List.mem_singleton.2 rfl) (ch (nb b) i)
      obtain ⟨b1, b2⟩ := sm_bound ((nb b).take i) 1000 (ch (nb b) i) (by have := HNB.out.1; rw [List.length_take]; omega)
      have HST := Lib.hid (hS.store 0 rfl (ch (nb b) i) (.int .i64 (sm1 ((nb b).take i) (ch (nb b) i) + 1)))
      rw [arrN_set, sm1_step (nb b) i (by rw [HNB.out.1]; exact hib)] at HST
      generalize sm1 ((nb b).take i) (ch (nb b) i) = z at *
      go_wp2_with fail
      go_roundg m
      case measure => omega
      case rel => exact ⟨i + 1, by omega, by go_num, HST.out⟩
    | zero =>
      obtain rfl : i = b.length := by omega
      have hz : ¬ (b.length : Int) < (b.length : Int) := by omega
      rw [List.take_of_length_le (by rw [HNB.out.1]; exact Nat.le_refl _)] at hS
      have hS0 : St w.heap.size w wr [[(w2.heap.size, .cells (arrN 256 (sm2 (nb b) (nb L) 0)) 34 (0, 0))], c2] := by
        rw [show sm2 (nb b) (nb L) 0 = sm1 (nb b) from by funext k; unfold sm2 sm1; simp]
        exact hS
      clear hi hS
      go_wp2_with fail
      go_loopg [8] L.length (fun m s8 wr => ∃ i : Nat, i + m = L.length ∧ s8 = .int .i64 (i : Int) ∧ St w.heap.size w wr [[(w2.heap.size, .cells (arrN 256 (sm2 (nb b) (nb L) i)) 34 (0, 0))], c2])
      case atStart => exact ⟨0, by omega, rfl, hS0⟩
      case round =>
        clear hS0
        obtain ⟨i, hi, rfl, hS⟩ := hrel
        cases gk with
        | succ m =>
          have hib : i < L.length := by omega
          have hli : (i : Int) < 400 := by have := HL.out.1; omega
          have hii : (i : Int) < (L.length : Int) := by omega
          obtain ⟨ad, rfl, hc⟩ := (H2.out.2.2.2.1.rd hS 1 rfl).at (bv_get L i _ (List.getElem?_eq_getElem hib))
          rw [← nb_at L i _ (List.getElem?_eq_getElem hib)] at hc
          have hx := HLE.out L i
          have hxi : ((ch (nb L) i : Nat) : Int) < 256 := by omega
          have hld := hS.cell 0 rfl (List.mem_singleton.2 rfl) (ch (nb L) i)
          rw [arrN_get _ _ _ (by omega)] at hld
          have hfr := hS.free 0 rfl (List.mem_singleton.2 rfl) (ch (nb L) i)
          obtain ⟨b1, b2⟩ := sm_bound (nb b) 1000 (ch (nb L) i) (by have := HNB.out.1; omega)
          obtain ⟨b3, b4⟩ := sm_bound ((nb L).take i) 1000 (ch (nb L) i) (by have := HNB.out.2; have := HL.out.1; rw [List.length_take]; omega)
          have b5 : -1000 ≤ sm2 (nb b) (nb L) i (ch (nb L) i) ∧ sm2 (nb b) (nb L) i (ch (nb L) i) ≤ 1000 := by unfold sm2; omega
          obtain ⟨b6, b7⟩ := b5
          have HST := Lib.hid (hS.store 0 rfl (ch (nb L) i) (.int .i64 (sm2 (nb b) (nb L) i (ch (nb L) i) - 1)))
          rw [arrN_set, sm2_step (nb b) (nb L) i (by rw [HNB.out.2]; exact hib)] at HST
          generalize sm2 (nb b) (nb L) i (ch (nb L) i) = z at *
          clear b1 b2 b3 b4
          go_wp2_with fail
          go_roundg m
          case measure => omega
          case rel => exact ⟨i + 1, by omega, by go_num, HST.out⟩
        | zero =>
          obtain rfl : i = L.length := by omega
          have hz : ¬ (L.length : Int) < (L.length : Int) := by omega
          have hS0 : St w.heap.size w wr [[(w2.heap.size, .cells (arrN 256 fun _ => 0) 34 (0, 0))], c2] := by
            rw [show (fun _ => 0 : Nat → Int) = sm2 (nb b) (nb L) L.length from by
              funext k
              unfold sm2 sm1
              rw [List.take_of_length_le (by rw [HNB.out.2]; exact Nat.le_refl _), hpr.out.count_eq k]
              omega]
            exact hS
          clear hi hS
          go_wp2_with fail
          go_loopg [9] 256 (fun m s9 wr => ∃ i : Nat, i + m = 256 ∧ s9 = .int .i64 (i : Int) ∧ St w.heap.size w wr [[(w2.heap.size, .cells (arrN 256 fun _ => 0) 34 (0, 0))], c2])
          case atStart => exact ⟨0, by omega, rfl, hS0⟩
          case round =>
            clear hS0
            obtain ⟨i, hi, rfl, hS⟩ := hrel
            cases gk with
            | succ m =>
              have hii : (i : Int) < 256 := by omega
              have hld := hS.cell 0 rfl (List.mem_singleton.2 rfl) i
              rw [arrN_get _ _ _ (by omega)] at hld
              go_wp2_with fail
              go_roundg m
              case measure => omega
              case rel => exact ⟨i + 1, by omega, by go_num, hS⟩
            | zero =>
              obtain rfl : i = 256 := by omega
              have hz : ¬ (256 : Int) < 256 := by omega
              have hl2 := HL.out.1
              have hx1 := HL.out.2
              have hat1 : min 1 b.length ≤ atF b.length T := by
                rcases Nat.eq_zero_or_pos b.length with q | q
                · rw [q]; exact Nat.zero_le _
                · unfold atF
                  rw [List.idxOf_cons]
                  have : (b.length == 0) = false := beq_eq_false_iff_ne.2 (by omega)
                  rw [this]
                  simp
                  omega
              have q1 : ((L.length : Int) == (b.length : Int)) = true := by rw [hl2]; simp
              have q2 : min 1 (b.length : Int) ≤ (atF b.length T : Int) := by omega
              have q3 : (atF b.length T : Int) ≤ (b.length : Int) := by omega
              have HE := Lib.hid hS.below
              clear hl2 hat1 hS
              generalize atF b.length T = A at *
              go_wp2_with fail
              all_goals first
                | omega
                | (go_ret; exact ⟨by simp, HE.out⟩)
end Go.Proofs.Ytdgpbgdpdmikaab

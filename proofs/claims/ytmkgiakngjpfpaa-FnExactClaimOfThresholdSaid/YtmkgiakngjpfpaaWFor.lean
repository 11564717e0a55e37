/- The weights of a table, as the program and as the reference find them. No conditions. -/
import Derived.Test.YtmkgiakngjpfpaaWeights
import Derived.Deep.LoopGhost
set_option linter.unusedVariables false
set_option linter.unusedSimpArgs false
namespace Go.Proofs.Ytmkgiakngjpfpaa
open Go.RowKit

theorem i_size1 (a : Int) (h0 : -100 ≤ a) (h1 : a ≤ 100) (w : World) : Ret Try.prog 46 #[.int .i64 a] w (.int .i64 (sz a)) := by
  unfold Ret
  go_enter Try.func46, Try.ntmps46
  go_wp2
  all_goals (go_ret; exact ⟨ret_eq (congrArg (Value.int .i64) (by unfold sz; omega)), bl⟩)
set_option maxHeartbeats 400000 in
theorem i_sumOfSizes (A : Option Addr) (c : Nat) (xs : List Int) (w : World) (hr : RdC w A (ints xs)) (hb : small 3 xs) (hl : xs.length ≤ 4) :
    Ret Try.prog 33 #[.slice A xs.length c] w (.int .i64 (ssz xs)) := by
  unfold Ret
  go_enter Try.func33, Try.ntmps33
  go_wp2_with fail
  go_loopw [3, 8] (fun s i wr => ∃ k : Nat, k ≤ xs.length ∧ i = .int .i64 k ∧ s = .int .i64 (sszTo xs k) ∧ ∃ c : BW w, wr = c.val) (fun _ i _ => xs.length - (intOf i).toNat)
  case atStart => exact ⟨0, Nat.zero_le _, rfl, rfl, ⟨w, Below.refl _ _⟩, rfl⟩
  case round =>
    obtain ⟨k, hk, rfl, rfl, cw, rfl⟩ := hrel
    by_cases hlt : k < xs.length
    · obtain ⟨ad, rfl, hc⟩ := (hr.bw cw).int hlt
      have hs := sszTo_le hb k
      have hb1 := hb k
      have hsz := sz_le hb k
      have e : xs[k] = xs.getD k 0 := by simp [hlt]
      have hw : sszTo xs k + sz xs[k] = sszTo xs (k + 1) := by rw [e]; rfl
      rw [← e] at hb1 hsz
      have HW := Lib.hid hw; clear hw e
      go_wp2_with (go_at_call 46; (with_reducible refine Ret.on (i_size1 _ (by omega) (by omega) _) ?_); intro c2)
      go_roundw
      case rel => exact ⟨k + 1, by omega, by go_num, by rw [HW.out], c2, rfl⟩
      case measure => simp [intOf]; omega
    · have : k = xs.length := by omega
      subst this
      go_wp2_with fail
      go_ret
      exact ⟨rfl, cw.out⟩
/-- A table of at most m variables. -/
def isSm (b x m : Int) : Bool := isTab b x && decide (b ≤ m)
theorem isSm_nat {n W m : Nat} (hn : n ≤ 5) (hm : n ≤ m) (hW : W < 2 ^ 2 ^ n) : isSm n W m = true := by unfold isSm; rw [isTab_nat hn hW]; simp; omega
theorem isSm_out {b x : Int} {m : Nat} (h : isSm b x m = true) : ∃ n W : Nat, b = n ∧ x = W ∧ n ≤ 5 ∧ n ≤ m ∧ W < 2 ^ 2 ^ n := by
  unfold isSm at h
  rw [Bool.and_eq_true] at h
  obtain ⟨n, W, rfl, rfl, h1, h2⟩ := isTab_out h.1
  have := of_decide_eq_true h.2
  exact ⟨n, W, rfl, rfl, h1, by omega, h2⟩
theorem i_isSmall (b x m : Int) (w : World) : Ret Try.prog 21 #[.agg #[.int .i64 b, .int .i64 x], .int .i64 m] w (.bool (isSm b x m)) := by
  unfold Ret isSm
  have hu := Try.underlying24
  have hc0 : ∀ c : BW (w.alloc (Obj.cells #[Value.int IntKind.i64 b, Value.int IntKind.i64 x] 24)), c.val.cell? ⟨w.heap.size, 0, none⟩ = some (.int .i64 b) := fun c => c.cell (by go_simp)
  cases ht : isTab b x with
  | false =>
    go_enter Try.func21, Try.ntmps21
    go_wp2_with (go_at_call 30; (with_reducible refine Ret.go (i_IsTable _ _ _) ?_); intro c)
    go_ret
    exact ⟨rfl, bl⟩
  | true =>
    go_enter Try.func21, Try.ntmps21
    go_wp2_with (go_at_call 30; (with_reducible refine Ret.go (i_IsTable _ _ _) ?_); intro c)
    go_ret
    exact ⟨rfl, bl⟩
/-- Behind j digits from the end. -/
def fillW (n c j : Nat) : List Int := List.replicate (n - j) 0 ++ (wl n c).drop (n - j)
theorem fillW_length {n c j : Nat} (h : j ≤ n) : (fillW n c j).length = n := by rw [fillW, List.length_append, List.length_replicate, List.length_drop, wl_length]; omega
theorem fillW_get {n c j i : Nat} (h : j ≤ n) (hi : i < n) : (fillW n c j).getD i 0 = if i < n - j then 0 else (dig c (n - 1 - i) : Int) - 3 := by
  unfold fillW
  rw [List.getD_eq_getElem?_getD]
  by_cases h1 : i < n - j
  · rw [if_pos h1, List.getElem?_append_left (by simp; omega), List.getElem?_replicate, if_pos h1, Option.getD_some]
  · rw [if_neg h1, List.getElem?_append_right (by simp; omega), List.getElem?_drop, List.length_replicate, show n - j + (i - (n - j)) = i by omega]
    simp [wl, hi]
theorem fillW_step {n c j : Nat} (h : j < n) : (fillW n c j).set (n - 1 - j) ((dig c j : Int) - 3) = fillW n c (j + 1) := by
  refine odo_ext (n := n) (by rw [List.length_set, fillW_length (by omega)]) (fillW_length (by omega)) fun i hi => ?_
  rw [getD_set _ _ _ _ (by rw [fillW_length (by omega)]; omega), fillW_get (by omega) hi, fillW_get (by omega) hi]
  by_cases e : n - 1 - j = i
  · rw [if_pos e, if_neg (by omega), show n - 1 - i = j by omega]
  · rw [if_neg e]; split <;> split <;> first | rfl | omega
theorem fillW_all (n c : Nat) : fillW n c n = wl n c := by simp [fillW]
theorem fillW_none (n c : Nat) : fillW n c 0 = List.replicate n 0 := by simp [fillW, wl_length]
/-- The sum of the sizes of the last j. -/
def ssW (n c : Nat) : Nat → Int
  | 0 => 0
  | j + 1 => ssW n c j + sz ((dig c j : Int) - 3)
theorem ssW_le (n c : Nat) : ∀ j, 0 ≤ ssW n c j ∧ ssW n c j ≤ 3 * j
  | 0 => by simp [ssW]
  | j + 1 => by have := ssW_le n c j; have := dig_lt c j; unfold ssW sz; omega
theorem ssW_sum (n c : Nat) : ∀ j, j ≤ n → ssW n c j + sszTo (wl n c) (n - j) = sszTo (wl n c) n
  | 0, _ => by simp [ssW]
  | j + 1, h => by
    have ih := ssW_sum n c j (by omega)
    obtain ⟨m, hm⟩ : ∃ m, n - j = m + 1 := ⟨n - j - 1, by omega⟩
    have e : sszTo (wl n c) (m + 1) = sszTo (wl n c) m + sz ((wl n c).getD m 0) := rfl
    rw [hm, e, wl_get (by omega), show n - 1 - m = j by omega] at ih
    rw [show n - (j + 1) = m by omega]
    unfold ssW
    omega
theorem ssW_all (n c : Nat) : ssW n c n = ssz (wl n c) := by have := ssW_sum n c n (Nat.le_refl _); rw [Nat.sub_self] at this; unfold ssz; rw [wl_length, ← this]; simp [sszTo]
theorem pow7_le {n : Nat} (h : n ≤ 4) : 7 ^ n ≤ 2401 := Nat.pow_le_pow_right (by decide) h
theorem run_make7 (n : Nat) (hn : n ≤ 5) : ∀ wx : World, (Instr.makeSlice 25 (.int .i64 (n : Int)) (.int .i64 (n : Int))).run Try.prog wx = .ok (.slice (some ⟨wx.heap.size, 0, none⟩) n n) (wx.alloc (.cells (madeCells #[.int .i64 0] n) 3)) :=
  fun wx => run_make_row' (P := Try.prog) 25 3 (.int .i64 0) 8 Try.underlying25 info_int rfl .i64 .i64 n (by omega) (by omega) wx

set_option maxHeartbeats 3200000 in
theorem s_WeightsFor (n W : Nat) (hn : n ≤ 4) (hW : W < 2 ^ 2 ^ n) (w : World) :
    Calls Try.prog 19 #[.agg #[.int .i64 n, .int .i64 W]] w fun e w' => ∃ v, e = .returned (.tuple #[v, .int .i64 (weights n W).2.1, .bool (weights n W).2.2]) ∧ w'.ownsRow w.heap.size 3 1 v (weights n W).1.length (ints (weights n W).1) ∧ Below w.heap.size w w' := by
  have hu := Try.underlying24
  have hu2 := Try.underlying25
  have hmk := run_make7 n (by omega)
  obtain ⟨T, hT⟩ : ∃ T, T = 7 ^ n := ⟨_, rfl⟩
  have hT2 : T ≤ 2401 := by rw [hT]; exact pow7_le hn
  have HW := Lib.hid hW; have HT := Lib.hid hT; clear hW hT
  have hq : ∀ W', Ret Try.prog 24 #[.agg #[.int .i64 n, .int .i64 W]] W' (.bool true) := fun W' => by have := s_IsTable n W W'; rwa [isTab_nat (by omega) HW.out] at this
  obtain ⟨hc0, hc1⟩ := box2 w (.int .i64 n) (.int .i64 W) 24
  go_enter Try.func19, Try.ntmps19
  go_wp2_with (go_at_call 24; (with_reducible refine Ret.go (hq _) ?_); intro c0)
  go_loop [5, 6] (fun t i => ∃ k : Nat, k ≤ n ∧ i = .int .i64 k ∧ t = .int .i64 ((7 ^ k : Nat) : Int)) (fun _ i => n - (intOf i).toNat)
  case atStart => exact ⟨0, Nat.zero_le _, rfl, rfl⟩
  case round =>
    obtain ⟨k, hk, rfl, rfl⟩ := hrel
    by_cases hlt : k < n
    · obtain ⟨p, hp⟩ : ∃ p : Nat, p = 7 ^ k := ⟨_, rfl⟩
      have hp2 : p ≤ 2401 := by rw [hp]; exact pow7_le (by omega)
      rw [← hp]
      have HP := Lib.hid hp; clear hp
      go_wp2_with fail
      go_round
      case rel => exact ⟨k + 1, by omega, by go_num, by rw [HP.out, Nat.pow_succ]; go_num⟩
      case measure => simp [intOf]; omega
    · obtain rfl : n = k := by omega
      rw [← HT.out]
      go_wp2_with fail
      go_loopw [7, 8, 9, 10] (fun vb size lim code wr => ∃ c : Nat, c ≤ T ∧ code = .int .i64 c ∧ size = .int .i64 (wbest n W c).2.2 ∧ lim = .int .i64 (wbest n W c).2.1 ∧ wr.ownsRow (w.heap.size + 1) 3 1 vb (wbest n W c).1.length (ints (wbest n W c).1) ∧ ∃ cw : BW (w.alloc (Obj.cells #[Value.int IntKind.i64 n, Value.int IntKind.i64 W] 24)), wr = cw.val) (fun _ _ _ i _ => T - (intOf i).toNat)
      case atStart =>
        refine ⟨0, Nat.zero_le _, rfl, rfl, rfl, ?_, ⟨_, c0.out.alloc c0.out.size _⟩, rfl⟩
        exact World.ownsRow_lit c0.val #[] 0 (by have := c0.out.size; simpa using this) (by decide) rfl
      case round =>
        obtain ⟨c, hc, rfl, rfl, rfl, hown, cw, rfl⟩ := hrel
        by_cases hlt2 : c < T
        · have hsz : w.heap.size < cw.val.heap.size := Nat.lt_of_succ_le (by simpa using cw.out.size)
          have hd0 := hc0 cw
          have hrow := Row.make cw.val n
          have HR := Lib.hid hrow; clear hrow
          go_wp2_with fail
          have hown1 := hown.alloc (Obj.cells (madeCells #[Value.int IntKind.i64 0] n) 3)
          obtain ⟨g, hg⟩ : ∃ g, g = cw.val.heap.size := ⟨_, rfl⟩
          obtain ⟨c1, hc1'⟩ := cw.alloc (Obj.cells (madeCells #[Value.int IntKind.i64 0] n) 3)
          have hne := own_lt hown (Nat.le_of_eq hg.symm)
          rw [← hc1', ← hg] at HR
          rw [← hc1'] at hown1
          rw [← hc1', ← hg]
          rw [← hg] at hsz
          clear hc1' hg hown hd0
          have HN := Lib.hid hne; clear hne
          go_loopw [12, 13, 14] (fun x sm i wr => ∃ j t : Nat, t + j = n ∧ x = .int .i64 ((c / 7 ^ j : Nat) : Int) ∧ sm = .int .i64 (ssW n c j) ∧ i = .int .i64 ((t : Int) - 1) ∧ Hid (Row wr g (fillW n c j)) ∧ wr.ownsRow (w.heap.size + 1) 3 1 u7 (wbest n W c).1.length (ints (wbest n W c).1) ∧ ∃ cw : BW (w.alloc (Obj.cells #[Value.int IntKind.i64 n, Value.int IntKind.i64 W] 24)), wr = cw.val) (fun _ _ i _ => (intOf i + 1).toNat)
          case atStart => exact ⟨0, n, rfl, by simp, rfl, rfl, by rw [fillW_none]; exact HR, hown1, c1, rfl⟩
          case round =>
            obtain ⟨j, t, htj, rfl, rfl, rfl, hrow, hown2, c2, rfl⟩ := hrel
            cases t with
            | zero =>
              obtain rfl : n = j := by omega
              rw [show ((0 : Nat) : Int) - 1 = -1 by omega, ssW_all]
              have hrow1 := hrow.out
              rw [fillW_all] at hrow1
              have hz2 := ssz_wl hn c
              have hwl := wl_length n c
              have hfits : ∀ c3 : BW c2.val, Ret Try.prog 29 #[.agg #[.int .i64 n, .int .i64 W], .slice (some ⟨g, 0, none⟩) n n] c3.val (.tuple #[.int .i64 (thr n W (wl n c)).1, .bool (thr n W (wl n c)).2]) := fun c3 => by
                have := s_l16Fits n W hn HW.out (some ⟨g, 0, none⟩) n (wl n c) c3.val (hrow1.rd.bw c3) (wl_small n c) (wl_length n c)
                rwa [wl_length] at this
              have hself := hfits ⟨c2.val, Below.refl _ _⟩
              have HR1 := Lib.hid hrow1; have HL := Lib.hid hwl
              clear hrow hrow1 hwl HR hown1
              by_cases hq1 : ssz (wl n c) < (wbest n W c).2.2
              · cases hq2 : (thr n W (wl n c)).2 with
                | true =>
                  rw [hq2] at hself
                  have hb2 := wbest_yes hq1 hq2
                  have HB2 := Lib.hid hb2; clear hb2 hq2
                  go_wp2_with (go_at_call 29; (with_reducible refine Ret.onB hself ?_); intro c3 hb3)
                  go_roundw
                  case rel =>
                    refine ⟨c + 1, by omega, by go_num, by rw [HB2.out], by rw [HB2.out], ?_, c3, rfl⟩
                    rw [HB2.out]
                    have hr3 := HR1.out.later hb3
                    have := hr3.own (base := w.heap.size + 1) (by omega) (by rw [HL.out]; omega)
                    rw [HL.out] at this ⊢
                    exact this
                  case measure => simp [intOf]; omega
                | false =>
                  rw [hq2] at hself
                  have hb2 := wbest_no (n := n) (W := W) (c := c) (by rw [hq2]; simp)
                  have HB2 := Lib.hid hb2; clear hb2 hq2
                  go_wp2_with (go_at_call 29; (with_reducible refine Ret.onB hself ?_); intro c3 hb3)
                  go_roundw
                  case rel => exact ⟨c + 1, by omega, by go_num, by rw [HB2.out], by rw [HB2.out], by rw [HB2.out]; exact own_later hown2 hb3, c3, rfl⟩
                  case measure => simp [intOf]; omega
              · have hb2 := wbest_no (n := n) (W := W) (c := c) (fun h => hq1 h.1)
                have HB2 := Lib.hid hb2; clear hb2
                have hq3 : (wbest n W c).2.2 ≤ ssz (wl n c) := by omega
                go_wp2_with fail
                go_roundw
                case rel => exact ⟨c + 1, by omega, by go_num, by rw [HB2.out], by rw [HB2.out], by rw [HB2.out]; exact hown2, c2, rfl⟩
                case measure => simp [intOf]; omega
            | succ u =>
              rw [show ((u + 1 : Nat) : Int) - 1 = u by omega]
              have hcell := hrow.out.cell (i := u) (by rw [fillW_length (by omega)]; omega)
              have hfree := hrow.out.free u
              have hun : u < n := by omega
              have hnu : u = n - 1 - j := by omega
              have hjn : j < n := by omega
              have hset := hrow.out.set u ((dig c j : Int) - 3)
              rw [hnu, fillW_step hjn, ← hnu] at hset
              obtain ⟨p, hp⟩ : ∃ p, p = c / 7 ^ j := ⟨_, rfl⟩
              have hpc : p ≤ c := by rw [hp]; exact Nat.div_le_self _ _
              have hdp : (dig c j : Int) = (p : Int) % 7 := by rw [hp]; unfold dig; omega
              have hss := ssW_le n c j
              have hss1 : ssW n c (j + 1) = ssW n c j + sz ((p : Int) % 7 - 3) := by rw [← hdp]; rfl
              have hown3 := own_set hown2 (i := u) (.int .i64 ((p : Int) % 7 - 3)) HN.out
              rw [hdp] at hset
              rw [← hp]
              have HP := Lib.hid hp; have HS := Lib.hid hset; have HD := Lib.hid hdp; have HU := Lib.hid hnu; have HS1 := Lib.hid hss1; have HTJ := Lib.hid htj
              clear hp hset hdp hnu hss1 hrow htj
              go_wp2_with fail
              go_quiet (fail)
              go_wp2_with fail
              go_roundw
              case rel =>
                obtain ⟨c3, hc3⟩ := c2.set (p := ⟨g, u, none⟩) (.int .i64 ((p : Int) % 7 - 3)) (by show (w.alloc _).heap.size ≤ g; simp; omega)
                obtain ⟨c4, hc4⟩ := c3.drewN nq
                refine ⟨j + 1, u, by have := HTJ.out; omega, ?_, ?_, rfl, HS, hown3, c4, by rw [hc4, hc3]⟩
                · rw [Nat.pow_succ, ← Nat.div_div_eq_div_mul, ← HP.out]; rfl
                · rw [HS1.out]; unfold sz; exact congrArg (Value.int .i64) (by split <;> omega)
              case measure => simp [intOf]
        · obtain rfl : T = c := by omega
          have hw3 : weights n W = ((wbest n W T).1, (wbest n W T).2.1, decide ((wbest n W T).2.2 < 100)) := by rw [HT.out]; rfl
          have H3 := Lib.hid hw3; clear hw3
          go_wp2_with fail
          go_ret3
          refine ⟨u7, ?_, ?_, below_box cw⟩
          · rw [H3.out]; rfl
          · rw [H3.out]; exact own_mono hown (by omega)
set_option maxHeartbeats 1600000 in
theorem s_WeightsFor_no (b x : Int) (h : isSm b x 4 = false) (w : World) :
    Calls Try.prog 19 #[.agg #[.int .i64 b, .int .i64 x]] w fun e w' => ∃ v, e = .returned (.tuple #[v, .int .i64 0, .bool false]) ∧ w'.ownsRow w.heap.size 3 1 v 0 [] ∧ Below w.heap.size w w' := by
  have hu := Try.underlying24
  have hu2 := Try.underlying25
  obtain ⟨hc0, hc1⟩ := box2 w (.int .i64 b) (.int .i64 x) 24
  cases ht : isTab b x with
  | false =>
    have hq : ∀ W', Ret Try.prog 24 #[.agg #[.int .i64 b, .int .i64 x]] W' (.bool false) := fun W' => by have := s_IsTable b x W'; rwa [ht] at this
    clear h ht
    go_enter Try.func19, Try.ntmps19
    go_wp2_with (go_at_call 24; (with_reducible refine Ret.go (hq _) ?_); intro c0)
    go_ret3
    exact ⟨_, rfl, World.ownsRow_lit _ #[] 0 (by have := (below_box c0).size; omega) (by decide) rfl, bl_alloc (below_box c0) _⟩
  | true =>
    have hq : ∀ W', Ret Try.prog 24 #[.agg #[.int .i64 b, .int .i64 x]] W' (.bool true) := fun W' => by have := s_IsTable b x W'; rwa [ht] at this
    have h4 : 4 < b := by unfold isSm at h; rw [ht, Bool.true_and, decide_eq_false_iff_not] at h; omega
    clear h ht
    go_enter Try.func19, Try.ntmps19
    go_wp2_with (go_at_call 24; (with_reducible refine Ret.go (hq _) ?_); intro c0)
    go_ret3
    exact ⟨_, rfl, World.ownsRow_lit _ #[] 0 (by have := (below_box c0).size; omega) (by decide) rfl, bl_alloc (below_box c0) _⟩
theorem dig_six {n c j : Nat} (h : j < n) : (odo n c j).getD (n - 1 - j) 0 = (dig c j : Int) - 3 := by
  rw [odo_get (by omega) (by omega), if_pos (by omega), show n - 1 - (n - 1 - j) = j by omega]
theorem below_next {w V W : World} (h : Below w.heap.size w V) (k : Below V.heap.size V W) : Below w.heap.size w W := h.trans (k.mono h.size)
set_option maxHeartbeats 3200000 in
theorem i_WeightsFor (n W : Nat) (hn : n ≤ 4) (hW : W < 2 ^ 2 ^ n) (w : World) :
    Calls Try.prog 22 #[.agg #[.int .i64 n, .int .i64 W]] w fun e w' => ∃ v, e = .returned (.tuple #[v, .int .i64 (weights n W).2.1, .bool (weights n W).2.2]) ∧ w'.ownsRow w.heap.size 3 1 v (weights n W).1.length (ints (weights n W).1) ∧ Below w.heap.size w w' := by
  have hu := Try.underlying24
  have hu2 := Try.underlying25
  obtain ⟨T, hT⟩ : ∃ T, T = 7 ^ n := ⟨_, rfl⟩
  have hT2 : T ≤ 2401 := by rw [hT]; exact pow7_le hn
  have hT0 : 0 < T := by rw [hT]; exact Nat.pow_pos (by decide)
  have HW := Lib.hid hW; have HT := Lib.hid hT; clear hW hT
  have hq : ∀ W', Ret Try.prog 21 #[.agg #[.int .i64 n, .int .i64 W], .int .i64 4] W' (.bool true) := fun W' => by have := i_isSmall n W 4 W'; rwa [show isSm n W 4 = true from isSm_nat (m := 4) (by omega) hn HW.out] at this
  obtain ⟨hc0, hc1⟩ := box2 w (.int .i64 n) (.int .i64 W) 24
  go_enter Try.func22, Try.ntmps22
  have hlt := fun c : BW (w.alloc (Obj.cells #[Value.int IntKind.i64 n, Value.int IntKind.i64 W] 24)) => box_lt c
  go_wp2_with (first | (go_at_call 21; (with_reducible refine Ret.go (hq _) ?_); intro c0) | (go_at_call 31; refine Calls.mono (slices_Repeat _ (-3) n (by omega) _ (show Row (c0.val.alloc (.cells (ints [-3]).toArray 3)) c0.val.heap.size [-3] from heap_alloc_new _ _).rd) ?_; rintro e w2 ⟨g, hg, rfl, hrow, hb⟩; rw [List.length_replicate]))
  rw [← wl_zero] at hrow
  have hb2 := bl_then (bl_alloc c0.out (Obj.cells #[Value.int .i64 (-3)] 3)) hb
  have hg2 : w.heap.size + 1 ≤ g := by have := c0.out.size; simp at this hg; omega
  go_loopg [6, 7, 8] T (fun m vb bd fd wr => ∃ c : Nat, 0 < m ∧ c + m = T ∧ bd = .int .i64 (wbest n W c).2.1 ∧ fd = .bool (decide ((wbest n W c).2.2 < 100)) ∧ Hid (Row wr g (wl n c)) ∧ wr.ownsRow (w.heap.size + 1) 3 1 vb (wbest n W c).1.length (ints (wbest n W c).1) ∧ Hid (vb.ownBlock ≠ some g) ∧ ∃ cw : BW (w.alloc (Obj.cells #[Value.int IntKind.i64 n, Value.int IntKind.i64 W] 24)), wr = cw.val)
  case atStart => exact ⟨0, hT0, by omega, rfl, rfl, hrow, World.ownsRow_nil _ _ _ _, (by intro h; cases h), ⟨w2, hb2⟩, rfl⟩
  case round =>
    obtain ⟨c, hm0, hcm, rfl, rfl, hrow1, hown, hne, cw, rfl⟩ := hrel
    have hwl := wl_length n c
    have hz2 := ssz_wl hn c
    have hself : Ret Try.prog 32 #[.agg #[.int .i64 n, .int .i64 W], .slice (some ⟨g, 0, none⟩) n n] cw.val (.tuple #[.int .i64 (thr n W (wl n c)).1, .bool (thr n W (wl n c)).2]) := by
      have := i_threshold W (some ⟨g, 0, none⟩) n (wl n c) (by rw [hwl]; exact hn) (by rw [hwl]; exact HW.out) cw.val hrow1.out.rd (wl_small n c)
      rwa [hwl] at this
    have hinv := wbest_inv (W := W) hn c
    have HL := Lib.hid hwl
    obtain ⟨m, hmm⟩ : ∃ m, m = gk := ⟨_, rfl⟩
    subst hmm
    obtain ⟨vb, hvb⟩ : ∃ vb, vb = u6 := ⟨_, rfl⟩
    subst hvb
    have hsum1 : ∀ W', Below cw.val.heap.size cw.val W' → Ret Try.prog 33 #[.slice (some ⟨g, 0, none⟩) n n] W' (.int .i64 (ssz (wl n c))) := fun W' hb => by
      have := i_sumOfSizes (some ⟨g, 0, none⟩) n (wl n c) W' (hrow1.out.later hb).rd (wl_small n c) (by rw [hwl]; exact hn)
      rwa [hwl] at this
    have hclone : ∀ W', Below cw.val.heap.size cw.val W' → RetOwn 34 #[.slice (some ⟨g, 0, none⟩) n n] W' 3 1 n (ints (wl n c)) := fun W' hb => by
      have := slices_Clone (some ⟨g, 0, none⟩) n (wl n c) W' (hrow1.out.later hb).rd (by rw [hwl]; omega) (fun h => by cases h)
      unfold RetI at this
      rwa [hwl] at this
    clear hwl
    cases hq2 : (thr n W (wl n c)).2 with
    | false =>
      rw [hq2] at hself
      have hb2 := wbest_no (n := n) (W := W) (c := c) (by rw [hq2]; simp)
      have hown2' := hown
      rw [← hb2] at hown2'
      have HB := Lib.hid hb2; have HN := hne; clear hb2 hq2 hinv hsum1 hclone
      go_wp2_with (first | (go_at_call 32; (with_reducible refine Ret.onB hself ?_); intro c6 hb3))
      have HR2 := Lib.hid (hrow1.out.later hb3)
      have hown2 := own_later hown2' hb3
      clear hown2' hown hrow1 hself hne hb3
      go_loopw [11] (fun i wr => ∃ j t : Nat, t + j = n ∧ i = .int .i64 ((t : Int) - 1) ∧ Hid (c % 7 ^ j = 7 ^ j - 1) ∧ Hid (Row wr g (odo n c j)) ∧ wr.ownsRow (w.heap.size + 1) 3 1 vb (wbest n W (c + 1)).1.length (ints (wbest n W (c + 1)).1) ∧ ∃ cw : BW (w.alloc (Obj.cells #[Value.int IntKind.i64 n, Value.int IntKind.i64 W] 24)), wr = cw.val) (fun i _ => (intOf i + 1).toNat)
      case atStart => exact ⟨0, n, rfl, rfl, by show c % 1 = 0; omega, by rw [odo_zero]; exact HR2, hown2, c6, rfl⟩
      case round =>
        obtain ⟨j, t, htj, rfl, hlow, hrow3, hown3, c7, rfl⟩ := hrel
        cases t with
        | zero =>
          obtain rfl : n = j := by omega
          rw [show ((0 : Nat) : Int) - 1 = -1 by omega]
          have hlast := last_code (by rw [← HT.out]; omega) hlow.out
          rw [← HT.out] at hlast
          have hw3 : weights n W = ((wbest n W (c + 1)).1, (wbest n W (c + 1)).2.1, decide ((wbest n W (c + 1)).2.2 < 100)) := by rw [hlast, HT.out]; rfl
          have H3 := Lib.hid hw3; clear hw3 hlast
          go_wp2_with fail
          go_ret3
          refine ⟨vb, ?_, ?_, below_box c7⟩
          · rw [H3.out, HB.out]; rfl
          · rw [H3.out]; exact own_mono hown3 (by omega)
        | succ u =>
          rw [show ((u + 1 : Nat) : Int) - 1 = u by omega]
          have hun : u < n := by omega
          have hjn : j < n := by omega
          have hnu : u = n - 1 - j := by omega
          have hcell := hrow3.out.cell (i := u) (by rw [odo_length (by omega)]; omega)
          rw [hnu, dig_six hjn, ← hnu] at hcell
          have hfree := hrow3.out.free u
          have hd7 := dig_lt c j
          by_cases hd6 : dig c j = 6
          · have hset := hrow3.out.set u (-3)
            rw [hnu, odo_step hjn, ← hnu] at hset
            have hlow1 := low_six hlow.out hd6
            have hown4 := own_set hown3 (i := u) (.int .i64 (-3)) HN.out
            have hd66 : (dig c j : Int) - 3 = 3 := by omega
            rw [hd66] at hcell
            have HS := Lib.hid hset; have HU := Lib.hid hnu; have HTJ := Lib.hid htj; have HL1 := Lib.hid hlow1; have HD := Lib.hid hd6
            clear hset hnu htj hlow1 hd6 hd66 hrow3
            go_wp2_with fail
            go_roundw
            case rel =>
              obtain ⟨c8, hc8⟩ := c7.set (p := ⟨g, u, none⟩) (.int .i64 (-3)) (by show (w.alloc _).heap.size ≤ g; simp; omega)
              exact ⟨j + 1, u, by have := HTJ.out; omega, rfl, HL1, HS, hown4, c8, by rw [hc8]⟩
            case measure => simp [intOf]
          · have hset := hrow3.out.set u ((dig c j : Int) - 3 + 1)
            rw [hnu, odo_end hjn hlow.out hd6, ← hnu] at hset
            have hnl := not_last hjn (by rw [← HT.out]; omega) hlow.out hd6
            rw [← HT.out] at hnl
            have hown4 := own_set hown3 (i := u) (.int .i64 ((dig c j : Int) - 3 + 1)) HN.out
            have hd66 : (((dig c j : Int) - 3) == 3) = false := by simp; omega
            have HS := Lib.hid hset; have HU := Lib.hid hnu; have HTJ := Lib.hid htj
            clear hset hnu htj hrow3
            go_wp2_with fail
            go_roundg (m - 1)
            case measure => omega
            case rel =>
              obtain ⟨c8, hc8⟩ := c7.set (p := ⟨g, u, none⟩) (.int .i64 ((dig c j : Int) - 3 + 1)) (by show (w.alloc _).heap.size ≤ g; simp; omega)
              exact ⟨c + 1, by omega, by omega, by rw [HB.out], by rw [HB.out], HS, hown4, HN, c8, by rw [hc8]⟩
    | true =>
      rw [hq2] at hself
      by_cases hlt1 : ssz (wl n c) < (wbest n W c).2.2
      · have hb2 := wbest_yes hlt1 hq2
        rcases hinv with h | ⟨d, hd, h⟩
        · have hf : decide ((wbest n W c).2.2 < 100) = false := by rw [h]; rfl
          have e100 : decide (ssz (wl n c) < 100) = true := by simp; omega
          have HB := Lib.hid hb2; have HF := Lib.hid hf; have HE := Lib.hid e100; clear hb2 e100 h hq2
          go_wp2_with (first | (go_at_call 32; (with_reducible refine Ret.onB hself ?_); intro c3 hb3) | (go_at_call 34; (refine RetOwn.onB (hclone _ hb3) ?_); intro c6 vb6 ho6 hb6))
          have hcc := hb3
          have hccs := hcc.trans (hb6.mono hcc.size)
          have HR2 := Lib.hid (hrow1.out.later hccs)
          have hown2 : c6.val.ownsRow (w.heap.size + 1) 3 1 vb6 (wbest n W (c + 1)).1.length (ints (wbest n W (c + 1)).1) := by
            rw [HB.out]
            show c6.val.ownsRow _ _ _ _ (wl n c).length (ints (wl n c))
            rw [HL.out]
            have h1 := cw.out.size
            have h2 := hcc.size
            exact own_mono ho6 (by simp at h1; omega)
          have HN : Hid (vb6.ownBlock ≠ some g) := own_far ho6 (Nat.lt_of_lt_of_le hrow1.out.lt hcc.size)
          clear hown hrow1 hself hne hb3 hb6 ho6 hcc hccs hsum1 hclone
          go_loopw [11] (fun i wr => ∃ j t : Nat, t + j = n ∧ i = .int .i64 ((t : Int) - 1) ∧ Hid (c % 7 ^ j = 7 ^ j - 1) ∧ Hid (Row wr g (odo n c j)) ∧ wr.ownsRow (w.heap.size + 1) 3 1 vb6 (wbest n W (c + 1)).1.length (ints (wbest n W (c + 1)).1) ∧ ∃ cw : BW (w.alloc (Obj.cells #[Value.int IntKind.i64 n, Value.int IntKind.i64 W] 24)), wr = cw.val) (fun i _ => (intOf i + 1).toNat)
          case atStart => exact ⟨0, n, rfl, rfl, by show c % 1 = 0; omega, by rw [odo_zero]; exact HR2, hown2, c6, rfl⟩
          case round =>
            obtain ⟨j, t, htj, rfl, hlow, hrow3, hown3, c7, rfl⟩ := hrel
            cases t with
            | zero =>
              obtain rfl : n = j := by omega
              rw [show ((0 : Nat) : Int) - 1 = -1 by omega]
              have hlast := last_code (by rw [← HT.out]; omega) hlow.out
              rw [← HT.out] at hlast
              have hw3 : weights n W = ((wbest n W (c + 1)).1, (wbest n W (c + 1)).2.1, decide ((wbest n W (c + 1)).2.2 < 100)) := by rw [hlast, HT.out]; rfl
              have H3 := Lib.hid hw3; clear hw3 hlast
              go_wp2_with fail
              go_ret3
              refine ⟨vb6, ?_, ?_, below_box c7⟩
              · rw [H3.out, HB.out]; rw [HE.out]; rfl
              · rw [H3.out]; exact own_mono hown3 (by omega)
            | succ u =>
              rw [show ((u + 1 : Nat) : Int) - 1 = u by omega]
              have hun : u < n := by omega
              have hjn : j < n := by omega
              have hnu : u = n - 1 - j := by omega
              have hcell := hrow3.out.cell (i := u) (by rw [odo_length (by omega)]; omega)
              rw [hnu, dig_six hjn, ← hnu] at hcell
              have hfree := hrow3.out.free u
              have hd7 := dig_lt c j
              by_cases hd6 : dig c j = 6
              · have hset := hrow3.out.set u (-3)
                rw [hnu, odo_step hjn, ← hnu] at hset
                have hlow1 := low_six hlow.out hd6
                have hown4 := own_set hown3 (i := u) (.int .i64 (-3)) HN.out
                have hd66 : (dig c j : Int) - 3 = 3 := by omega
                rw [hd66] at hcell
                have HS := Lib.hid hset; have HU := Lib.hid hnu; have HTJ := Lib.hid htj; have HL1 := Lib.hid hlow1; have HD := Lib.hid hd6
                clear hset hnu htj hlow1 hd6 hd66 hrow3
                go_wp2_with fail
                go_roundw
                case rel =>
                  obtain ⟨c8, hc8⟩ := c7.set (p := ⟨g, u, none⟩) (.int .i64 (-3)) (by show (w.alloc _).heap.size ≤ g; simp; omega)
                  exact ⟨j + 1, u, by have := HTJ.out; omega, rfl, HL1, HS, hown4, c8, by rw [hc8]⟩
                case measure => simp [intOf]
              · have hset := hrow3.out.set u ((dig c j : Int) - 3 + 1)
                rw [hnu, odo_end hjn hlow.out hd6, ← hnu] at hset
                have hnl := not_last hjn (by rw [← HT.out]; omega) hlow.out hd6
                rw [← HT.out] at hnl
                have hown4 := own_set hown3 (i := u) (.int .i64 ((dig c j : Int) - 3 + 1)) HN.out
                have hd66 : (((dig c j : Int) - 3) == 3) = false := by simp; omega
                have HS := Lib.hid hset; have HU := Lib.hid hnu; have HTJ := Lib.hid htj
                clear hset hnu htj hrow3
                go_wp2_with fail
                go_roundg (m - 1)
                case measure => omega
                case rel =>
                  obtain ⟨c8, hc8⟩ := c7.set (p := ⟨g, u, none⟩) (.int .i64 ((dig c j : Int) - 3 + 1)) (by show (w.alloc _).heap.size ≤ g; simp; omega)
                  exact ⟨c + 1, by omega, by omega, by rw [HB.out], by rw [HB.out]; rw [HE.out], HS, hown4, HN, c8, by rw [hc8]⟩
        · have hf : decide ((wbest n W c).2.2 < 100) = true := by rw [h]; simp; have := ssz_wl hn d; omega
          have e100 : decide (ssz (wl n c) < 100) = true := by simp; omega
          obtain ⟨A, cc, hv, hrd⟩ := own_rd hown
          have hsum2 : ∀ W', Below cw.val.heap.size cw.val W' → Ret Try.prog 33 #[vb] W' (.int .i64 (wbest n W c).2.2) := fun W' hb => by
            rw [hv]
            have := i_sumOfSizes A cc (wbest n W c).1 W' (hrd.later hb) (by rw [h]; exact wl_small n d) (by rw [h]; show (wl n d).length ≤ 4; rw [wl_length]; exact hn)
            rwa [show ssz (wbest n W c).1 = (wbest n W c).2.2 by rw [h]] at this
          clear hrd hv
          have HB := Lib.hid hb2; have HF := Lib.hid hf; have HE := Lib.hid e100; clear hb2 e100 h hq2
          go_wp2_with (first | (go_at_call 32; (with_reducible refine Ret.onB hself ?_); intro c3 hb3) | (go_at_call 33; (with_reducible refine Ret.onB (hsum1 _ hb3) ?_); intro c4 hb4) | (go_at_call 33; (with_reducible refine Ret.onB (hsum2 _ (hb3.trans (hb4.mono hb3.size))) ?_); intro c5 hb5) | (go_at_call 34; (refine RetOwn.onB (hclone _ ((hb3.trans (hb4.mono hb3.size)).trans (hb5.mono (hb3.trans (hb4.mono hb3.size)).size))) ?_); intro c6 vb6 ho6 hb6))
          have hcc := ((hb3.trans (hb4.mono hb3.size)).trans (hb5.mono (hb3.trans (hb4.mono hb3.size)).size))
          have hccs := hcc.trans (hb6.mono hcc.size)
          have HR2 := Lib.hid (hrow1.out.later hccs)
          have hown2 : c6.val.ownsRow (w.heap.size + 1) 3 1 vb6 (wbest n W (c + 1)).1.length (ints (wbest n W (c + 1)).1) := by
            rw [HB.out]
            show c6.val.ownsRow _ _ _ _ (wl n c).length (ints (wl n c))
            rw [HL.out]
            have h1 := cw.out.size
            have h2 := hcc.size
            exact own_mono ho6 (by simp at h1; omega)
          have HN : Hid (vb6.ownBlock ≠ some g) := own_far ho6 (Nat.lt_of_lt_of_le hrow1.out.lt hcc.size)
          clear hown hrow1 hself hne hb3 hb6 ho6 hcc hccs hsum1 hclone
          go_loopw [11] (fun i wr => ∃ j t : Nat, t + j = n ∧ i = .int .i64 ((t : Int) - 1) ∧ Hid (c % 7 ^ j = 7 ^ j - 1) ∧ Hid (Row wr g (odo n c j)) ∧ wr.ownsRow (w.heap.size + 1) 3 1 vb6 (wbest n W (c + 1)).1.length (ints (wbest n W (c + 1)).1) ∧ ∃ cw : BW (w.alloc (Obj.cells #[Value.int IntKind.i64 n, Value.int IntKind.i64 W] 24)), wr = cw.val) (fun i _ => (intOf i + 1).toNat)
          case atStart => exact ⟨0, n, rfl, rfl, by show c % 1 = 0; omega, by rw [odo_zero]; exact HR2, hown2, c6, rfl⟩
          case round =>
            obtain ⟨j, t, htj, rfl, hlow, hrow3, hown3, c7, rfl⟩ := hrel
            cases t with
            | zero =>
              obtain rfl : n = j := by omega
              rw [show ((0 : Nat) : Int) - 1 = -1 by omega]
              have hlast := last_code (by rw [← HT.out]; omega) hlow.out
              rw [← HT.out] at hlast
              have hw3 : weights n W = ((wbest n W (c + 1)).1, (wbest n W (c + 1)).2.1, decide ((wbest n W (c + 1)).2.2 < 100)) := by rw [hlast, HT.out]; rfl
              have H3 := Lib.hid hw3; clear hw3 hlast
              go_wp2_with fail
              go_ret3
              refine ⟨vb6, ?_, ?_, below_box c7⟩
              · rw [H3.out, HB.out]; rw [HE.out]; rfl
              · rw [H3.out]; exact own_mono hown3 (by omega)
            | succ u =>
              rw [show ((u + 1 : Nat) : Int) - 1 = u by omega]
              have hun : u < n := by omega
              have hjn : j < n := by omega
              have hnu : u = n - 1 - j := by omega
              have hcell := hrow3.out.cell (i := u) (by rw [odo_length (by omega)]; omega)
              rw [hnu, dig_six hjn, ← hnu] at hcell
              have hfree := hrow3.out.free u
              have hd7 := dig_lt c j
              by_cases hd6 : dig c j = 6
              · have hset := hrow3.out.set u (-3)
                rw [hnu, odo_step hjn, ← hnu] at hset
                have hlow1 := low_six hlow.out hd6
                have hown4 := own_set hown3 (i := u) (.int .i64 (-3)) HN.out
                have hd66 : (dig c j : Int) - 3 = 3 := by omega
                rw [hd66] at hcell
                have HS := Lib.hid hset; have HU := Lib.hid hnu; have HTJ := Lib.hid htj; have HL1 := Lib.hid hlow1; have HD := Lib.hid hd6
                clear hset hnu htj hlow1 hd6 hd66 hrow3
                go_wp2_with fail
                go_roundw
                case rel =>
                  obtain ⟨c8, hc8⟩ := c7.set (p := ⟨g, u, none⟩) (.int .i64 (-3)) (by show (w.alloc _).heap.size ≤ g; simp; omega)
                  exact ⟨j + 1, u, by have := HTJ.out; omega, rfl, HL1, HS, hown4, c8, by rw [hc8]⟩
                case measure => simp [intOf]
              · have hset := hrow3.out.set u ((dig c j : Int) - 3 + 1)
                rw [hnu, odo_end hjn hlow.out hd6, ← hnu] at hset
                have hnl := not_last hjn (by rw [← HT.out]; omega) hlow.out hd6
                rw [← HT.out] at hnl
                have hown4 := own_set hown3 (i := u) (.int .i64 ((dig c j : Int) - 3 + 1)) HN.out
                have hd66 : (((dig c j : Int) - 3) == 3) = false := by simp; omega
                have HS := Lib.hid hset; have HU := Lib.hid hnu; have HTJ := Lib.hid htj
                clear hset hnu htj hrow3
                go_wp2_with fail
                go_roundg (m - 1)
                case measure => omega
                case rel =>
                  obtain ⟨c8, hc8⟩ := c7.set (p := ⟨g, u, none⟩) (.int .i64 ((dig c j : Int) - 3 + 1)) (by show (w.alloc _).heap.size ≤ g; simp; omega)
                  exact ⟨c + 1, by omega, by omega, by rw [HB.out], by rw [HB.out]; rw [HE.out], HS, hown4, HN, c8, by rw [hc8]⟩
      · have hb2 := wbest_no (n := n) (W := W) (c := c) (fun h => hlt1 h.1)
        rcases hinv with h | ⟨d, hd, h⟩
        · exact absurd (show ssz (wl n c) < (wbest n W c).2.2 by rw [h]; show ssz (wl n c) < 100; omega) hlt1
        · have hf : decide ((wbest n W c).2.2 < 100) = true := by rw [h]; simp; have := ssz_wl hn d; omega
          have hge : (wbest n W c).2.2 ≤ ssz (wl n c) := by omega
          obtain ⟨A, cc, hv, hrd⟩ := own_rd hown
          have hsum2 : ∀ W', Below cw.val.heap.size cw.val W' → Ret Try.prog 33 #[vb] W' (.int .i64 (wbest n W c).2.2) := fun W' hb => by
            rw [hv]
            have := i_sumOfSizes A cc (wbest n W c).1 W' (hrd.later hb) (by rw [h]; exact wl_small n d) (by rw [h]; show (wl n d).length ≤ 4; rw [wl_length]; exact hn)
            rwa [show ssz (wbest n W c).1 = (wbest n W c).2.2 by rw [h]] at this
          clear hrd hv
          have hown2' := hown
          rw [← hb2] at hown2'
          have HB := Lib.hid hb2; have HN := hne; clear hb2 hq2 h
          go_wp2_with (first | (go_at_call 32; (with_reducible refine Ret.onB hself ?_); intro c3 hb3) | (go_at_call 33; (with_reducible refine Ret.onB (hsum1 _ hb3) ?_); intro c4 hb4) | (go_at_call 33; (with_reducible refine Ret.onB (hsum2 _ (hb3.trans (hb4.mono hb3.size))) ?_); intro c6 hb5))
          have hcc := (hb3.trans (hb4.mono hb3.size)).trans (hb5.mono (hb3.trans (hb4.mono hb3.size)).size)
          have HR2 := Lib.hid (hrow1.out.later hcc)
          have hown2 := own_later hown2' hcc
          clear hown2' hown hrow1 hself hne hb3 hb4 hb5 hcc hsum1 hclone hsum2
          go_loopw [11] (fun i wr => ∃ j t : Nat, t + j = n ∧ i = .int .i64 ((t : Int) - 1) ∧ Hid (c % 7 ^ j = 7 ^ j - 1) ∧ Hid (Row wr g (odo n c j)) ∧ wr.ownsRow (w.heap.size + 1) 3 1 vb (wbest n W (c + 1)).1.length (ints (wbest n W (c + 1)).1) ∧ ∃ cw : BW (w.alloc (Obj.cells #[Value.int IntKind.i64 n, Value.int IntKind.i64 W] 24)), wr = cw.val) (fun i _ => (intOf i + 1).toNat)
          case atStart => exact ⟨0, n, rfl, rfl, by show c % 1 = 0; omega, by rw [odo_zero]; exact HR2, hown2, c6, rfl⟩
          case round =>
            obtain ⟨j, t, htj, rfl, hlow, hrow3, hown3, c7, rfl⟩ := hrel
            cases t with
            | zero =>
              obtain rfl : n = j := by omega
              rw [show ((0 : Nat) : Int) - 1 = -1 by omega]
              have hlast := last_code (by rw [← HT.out]; omega) hlow.out
              rw [← HT.out] at hlast
              have hw3 : weights n W = ((wbest n W (c + 1)).1, (wbest n W (c + 1)).2.1, decide ((wbest n W (c + 1)).2.2 < 100)) := by rw [hlast, HT.out]; rfl
              have H3 := Lib.hid hw3; clear hw3 hlast
              go_wp2_with fail
              go_ret3
              refine ⟨vb, ?_, ?_, below_box c7⟩
              · rw [H3.out, HB.out]; rw [hf]; rfl
              · rw [H3.out]; exact own_mono hown3 (by omega)
            | succ u =>
              rw [show ((u + 1 : Nat) : Int) - 1 = u by omega]
              have hun : u < n := by omega
              have hjn : j < n := by omega
              have hnu : u = n - 1 - j := by omega
              have hcell := hrow3.out.cell (i := u) (by rw [odo_length (by omega)]; omega)
              rw [hnu, dig_six hjn, ← hnu] at hcell
              have hfree := hrow3.out.free u
              have hd7 := dig_lt c j
              by_cases hd6 : dig c j = 6
              · have hset := hrow3.out.set u (-3)
                rw [hnu, odo_step hjn, ← hnu] at hset
                have hlow1 := low_six hlow.out hd6
                have hown4 := own_set hown3 (i := u) (.int .i64 (-3)) HN.out
                have hd66 : (dig c j : Int) - 3 = 3 := by omega
                rw [hd66] at hcell
                have HS := Lib.hid hset; have HU := Lib.hid hnu; have HTJ := Lib.hid htj; have HL1 := Lib.hid hlow1; have HD := Lib.hid hd6
                clear hset hnu htj hlow1 hd6 hd66 hrow3
                go_wp2_with fail
                go_roundw
                case rel =>
                  obtain ⟨c8, hc8⟩ := c7.set (p := ⟨g, u, none⟩) (.int .i64 (-3)) (by show (w.alloc _).heap.size ≤ g; simp; omega)
                  exact ⟨j + 1, u, by have := HTJ.out; omega, rfl, HL1, HS, hown4, c8, by rw [hc8]⟩
                case measure => simp [intOf]
              · have hset := hrow3.out.set u ((dig c j : Int) - 3 + 1)
                rw [hnu, odo_end hjn hlow.out hd6, ← hnu] at hset
                have hnl := not_last hjn (by rw [← HT.out]; omega) hlow.out hd6
                rw [← HT.out] at hnl
                have hown4 := own_set hown3 (i := u) (.int .i64 ((dig c j : Int) - 3 + 1)) HN.out
                have hd66 : (((dig c j : Int) - 3) == 3) = false := by simp; omega
                have HS := Lib.hid hset; have HU := Lib.hid hnu; have HTJ := Lib.hid htj
                clear hset hnu htj hrow3
                go_wp2_with fail
                go_roundg (m - 1)
                case measure => omega
                case rel =>
                  obtain ⟨c8, hc8⟩ := c7.set (p := ⟨g, u, none⟩) (.int .i64 ((dig c j : Int) - 3 + 1)) (by show (w.alloc _).heap.size ≤ g; simp; omega)
                  exact ⟨c + 1, by omega, by omega, by rw [HB.out], by rw [HB.out, hf], HS, hown4, HN, c8, by rw [hc8]⟩
end Go.Proofs.Ytmkgiakngjpfpaa

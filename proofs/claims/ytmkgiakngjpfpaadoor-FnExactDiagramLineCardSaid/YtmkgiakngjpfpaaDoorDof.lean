/- The reference's tests ahead of a diagram: is it constant, is it an order. No conditions. -/
import Derived.Test.YtmkgiakngjpfpaaDoorBld
import Derived.Test.YtmkgiakngjpfpaaDoorPermS
set_option linter.unusedVariables false
set_option linter.unusedSimpArgs false
set_option maxRecDepth 100000
namespace Go.Proofs.YtmkgiakngjpfpaaDoor
open Go.RowKit

theorem s_l2Full (n : Nat) (hn : n ≤ 5) (w : World) : Ret Tryd.prog 106 #[.int .i64 n] w (.int .i64 (full n)) := by
  unfold Ret
  obtain ⟨s, hs⟩ : ∃ s : Nat, s = 2 ^ n := ⟨_, rfl⟩
  have hs32 : s ≤ 32 := by rw [hs]; exact pow_small hn
  obtain ⟨S, hS⟩ : ∃ S : Nat, S = 2 ^ s := ⟨_, rfl⟩
  have hS32 : S ≤ 4294967296 := by rw [hS]; exact two_pow_le hs32
  have hS1 : 1 ≤ S := by rw [hS]; exact Nat.two_pow_pos _
  have e1 : IntKind.u64.wrap (2 ^ n) = (s : Int) := by
    rw [hs, IntKind.wrap_u64, show ((2 : Int) ^ n) = ((2 ^ n : Nat) : Int) by simp]; have := pow_small hn; omega
  have e2 : wrap64 (2 ^ s) = (S : Int) := by rw [hS]; exact shl_one' _ (by omega)
  have e4 : wrap64 ((S : Int) - 1) = ((S - 1 : Nat) : Int) := by rw [show ((S : Int) - 1) = ((S - 1 : Nat) : Int) by omega]; exact wrap64_nat _ (by omega)
  have ef : full n = S - 1 := by unfold full; rw [hS, hs]
  have HS := Lib.hid (And.intro hs (And.intro hS ef)); clear hs hS ef
  go_enter Tryd.func106, Tryd.ntmps106
  go_wp2
  go_ret
  refine ⟨ret_eq ?_, bl⟩
  rw [HS.out.2.2]
  simp [e1, e2, e4] <;> omega
set_option maxHeartbeats 800000 in
theorem s_IsConstant (n F : Nat) (hn : n ≤ 5) (hF : F < 2 ^ 2 ^ n) (w : World) : Ret Tryd.prog 79 #[.agg #[.int .i64 n, .int .i64 F]] w (.bool (isConst n F)) := by
  unfold Ret
  have hu := Tryd.underlying30
  have hq : ∀ W', Ret Tryd.prog 70 #[.agg #[.int .i64 n, .int .i64 F]] W' (.bool true) := fun W' => by have := s_IsTable n F W'; rwa [isTab_nat hn hF] at this
  obtain ⟨hc0, hc1⟩ := box2 w (.int .i64 n) (.int .i64 F) 30
  have HF := Lib.hid hF; clear hF
  cases h0 : (F == 0) with
  | true =>
    have hz : ((F : Int) == 0) = true := by
      have : F = 0 := by simpa using h0
      simp [this]
    have H0 := Lib.hid h0; clear h0
    go_enter Tryd.func79, Tryd.ntmps79
    go_wp2_with fail
    refine wp_region_bw (by kernel_rfl) (by kernel_rfl) ?_
    repeat (quiet_step (first | (go_at_call 70; (with_reducible exact (hq _).bw))))
    refine wpQuiet_nil ?_
    intro c
    go_wp2_with fail
    go_ret
    exact ⟨ret_eq (congrArg Value.bool (by unfold isConst; rw [H0.out]; rfl)), bl⟩
  | false =>
    have hz : ((F : Int) == 0) = false := by
      have : F ≠ 0 := by simpa using h0
      simp; omega
    have hb : (((F : Nat) : Int) == ((full n : Nat) : Int)) = (F == full n) := by rw [Bool.eq_iff_iff]; simp; omega
    have H0 := Lib.hid (And.intro h0 hb); clear h0 hb
    go_enter Tryd.func79, Tryd.ntmps79
    go_wp2_with fail
    refine wp_region_bw (by kernel_rfl) (by kernel_rfl) ?_
    repeat (quiet_step (first | (go_at_call 70; (with_reducible exact (hq _).bw)) | (go_at_call 106; (with_reducible exact (s_l2Full n hn _).bw))))
    refine wpQuiet_nil ?_
    intro c
    go_wp2_with fail
    go_ret
    exact ⟨ret_eq (congrArg Value.bool (by unfold isConst; rw [H0.out.1, Bool.false_or]; exact H0.out.2)), bl⟩
/-- An order of n variables. -/
def IsOrd (n : Nat) (p : List Nat) : Prop := p.length = n ∧ (∀ x ∈ p, x < n) ∧ p.Nodup
theorem getD_ord {p : List Nat} {n k : Nat} (h : ∀ x ∈ p, x < n) (hk : k < p.length) : p.getD k 0 < n := by
  rw [List.getD_eq_getElem?_getD, List.getElem?_eq_getElem hk]
  exact h _ (List.getElem_mem hk)
theorem ord_ne {p : List Nat} {j k : Nat} (h : p.Nodup) (hj : j < k) (hk : k < p.length) : p.getD j 0 ≠ p.getD k 0 := by
  rw [List.getD_eq_getElem?_getD, List.getD_eq_getElem?_getD, List.getElem?_eq_getElem hk, List.getElem?_eq_getElem (by omega)]
  intro e
  have := List.pairwise_iff_getElem.1 h j k (by omega) hk hj
  exact this e
set_option maxHeartbeats 1600000 in
theorem s_l3Perm (A : Option Addr) (c : Nat) (n : Nat) (p : List Nat) (w : World) (hr : RdC w A (ints (natI p))) (hp : IsOrd n p) (hn : n ≤ 1000) : Ret Tryd.prog 78 #[.slice A p.length c, .int .i64 n] w (.bool true) := by
  unfold Ret
  obtain ⟨hl, hx, hnd⟩ := hp
  subst hl
  have HX := Lib.hid (And.intro hx hnd); clear hx hnd
  go_enter Tryd.func78, Tryd.ntmps78
  go_wp2_with fail
  go_loopw [5] (fun i wr => ∃ k : Nat, k ≤ p.length ∧ i = .int .i64 k ∧ ∃ cw : BW w, wr = cw.val) (fun i _ => p.length - (intOf i).toNat)
  case atStart => exact ⟨0, Nat.zero_le _, rfl, ⟨w, Below.refl _ _⟩, rfl⟩
  case round =>
    obtain ⟨k, hk, rfl, cw, rfl⟩ := hrel
    by_cases hlt : k < p.length
    · obtain ⟨ad, rfl, hc⟩ := (hr.bw cw).int (i := k) (by rw [natI_length]; exact hlt)
      rw [natI_get hlt] at hc
      have hy := getD_ord HX.out.1 hlt
      obtain ⟨y, hyd⟩ : ∃ y, y = p.getD k 0 := ⟨_, rfl⟩
      rw [← hyd] at hc hy
      have hin : ∀ W, Ret Tryd.prog 22 #[.int .i64 y, .int .i64 0, .int .i64 ((p.length : Int) - 1)] W (.bool true) := fun W => by
        have := s_l1In y 0 ((p.length : Int) - 1) W
        rwa [show inR y 0 ((p.length : Int) - 1) = true by unfold inR; simp; omega] at this
      have HY := Lib.hid hyd; clear hyd
      go_wp2_with (go_at_call 22; (with_reducible refine Ret.on (hin _) ?_); intro c2)
      go_loopw [6] (fun i wr => ∃ j : Nat, j ≤ k ∧ i = .int .i64 j ∧ ∃ cw : BW w, wr = cw.val) (fun i _ => k - (intOf i).toNat)
      case atStart => exact ⟨0, Nat.zero_le _, rfl, c2, rfl⟩
      case round =>
        obtain ⟨j, hj, rfl, c3, rfl⟩ := hrel
        by_cases hlj : j < k
        · obtain ⟨ad1, hA1, hc1⟩ := (hr.bw c3).int (i := k) (by rw [natI_length]; exact hlt)
          cases hA1
          obtain ⟨ad2, hA2, hc2⟩ := (hr.bw c3).int (i := j) (by rw [natI_length]; omega)
          cases hA2
          rw [natI_get hlt, ← HY.out] at hc1
          rw [natI_get (by omega)] at hc2
          have hne := ord_ne HX.out.2 hlj hlt
          rw [← HY.out] at hne
          obtain ⟨z, hz⟩ : ∃ z, z = p.getD j 0 := ⟨_, rfl⟩
          rw [← hz] at hc2 hne
          have hne2 : (((z : Nat) : Int) == ((y : Nat) : Int)) = false := by simp; omega
          have hjl : (j : Int) < p.length := by omega
          have HZ := Lib.hid (And.intro hz hne); clear hz hne
          go_wp2_with fail
          go_quiet (fail)
          go_wp2_with fail
          go_roundw
          case rel =>
            obtain ⟨c8, hc8⟩ := c3.drewN nq
            exact ⟨j + 1, by omega, by go_num, c8, by rw [hc8]⟩
          case measure => simp [intOf]; omega
        · obtain rfl : j = k := by omega
          go_wp2_with fail
          go_roundw
          case rel => exact ⟨j + 1, by omega, by go_num, c3, rfl⟩
          case measure => simp [intOf]; omega
    · obtain rfl : k = p.length := by omega
      go_wp2_with fail
      go_ret
      exact ⟨rfl, cw.out⟩
end Go.Proofs.YtmkgiakngjpfpaaDoor

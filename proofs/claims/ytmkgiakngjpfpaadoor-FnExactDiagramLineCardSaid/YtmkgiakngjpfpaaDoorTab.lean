/- What the small functions of a table compute: is it a table, a value, its size. No conditions. -/
import Derived.Test.YtmkgiakngjpfpaaDoorKit
import Derived.Test.YtmkgiakngjpfpaaDoorBits
import Derived.Test.YtmkgiakngjpfpaaDoorSlice
set_option linter.unusedVariables false
set_option linter.unusedSimpArgs false
set_option maxRecDepth 100000
namespace Go.Proofs.YtmkgiakngjpfpaaDoor
open Go.RowKit

theorem at_int {W x : Nat} (hW : W < 9223372036854775808) : bits .and .i64 ((W : Int) / 2 ^ min ((x : Int)).toNat 64) 1 = (bitAt W x : Int) := by
  rw [shr_nat W x hW, show (1 : Int) = ((1 : Nat) : Int) from rfl, i64_and _ _ (by rw [Nat.shiftRight_eq_div_pow]; exact Nat.lt_of_le_of_lt (Nat.div_le_self ..) hW) (by decide), bitAt_eq]

theorem at_int' {W x : Nat} (hW : W < 9223372036854775808) : bits .and .i64 ((W : Int) / 2 ^ x) 1 = (bitAt W x : Int) := by
  rw [shr_nat' W x, show (1 : Int) = ((1 : Nat) : Int) from rfl, i64_and _ _ (by rw [Nat.shiftRight_eq_div_pow]; exact Nat.lt_of_le_of_lt (Nat.div_le_self ..) hW) (by decide), bitAt_eq]

theorem i_isBits (b : Int) (w : World) : Ret Tryd.prog 25 #[.int .i64 b] w (.bool (okBits b)) := by
  unfold Ret
  go_enter Tryd.func25, Tryd.ntmps25
  go_wp2
  all_goals (go_ret; exact ⟨by simp [okBits] <;> omega, Below.refl _ _⟩)
theorem i_size (n s : Nat) (x : Int) (h : n ≤ 5) (hs : s = 2 ^ n) (w : World) : Ret Tryd.prog 90 #[.agg #[.int .i64 n, .int .i64 x]] w (.int .i64 s) := by
  subst hs
  unfold Ret
  have hu := Tryd.underlying30
  have e := shl_one' n (by omega)
  go_enter Tryd.func90, Tryd.ntmps90
  go_wp2
  go_ret
  exact ⟨ret_eq (by rw [← e]; rfl), (Below.refl _ _).alloc (Nat.le_refl _) _⟩
theorem i_at (n : Int) (W x : Nat) (h : W < 4294967296) (w : World) : Ret Tryd.prog 91 #[.agg #[.int .i64 n, .int .i64 W], .int .i64 x] w (.int .i64 (bitAt W x)) := by
  unfold Ret
  have hu := Tryd.underlying30
  have e := at_int (W := W) (x := x) (by omega)
  go_enter Tryd.func91, Tryd.ntmps91
  go_wp2
  go_ret
  exact ⟨ret_eq (by simp at e ⊢; exact e), (Below.refl _ _).alloc (Nat.le_refl _) _⟩
theorem i_IsTable (b x : Int) (w : World) : Ret Tryd.prog 89 #[.agg #[.int .i64 b, .int .i64 x]] w (.bool (isTab b x)) := by
  unfold Ret
  have hu := Tryd.underlying30
  have hc0 : ∀ c : BW (w.alloc (Obj.cells #[Value.int IntKind.i64 b, Value.int IntKind.i64 x] 30)), c.val.cell? ⟨w.heap.size, 0, none⟩ = some (.int .i64 b) := fun c => c.cell (by go_simp)
  have hc1 : ∀ c : BW (w.alloc (Obj.cells #[Value.int IntKind.i64 b, Value.int IntKind.i64 x] 30)), c.val.cell? ⟨w.heap.size, 1, none⟩ = some (.int .i64 x) := fun c => c.cell (by go_simp)
  cases h1 : okBits b with
  | false =>
    rw [isTab_bits h1]
    go_enter Tryd.func89, Tryd.ntmps89
    go_wp2_with fail
    refine wp_region_bw (by kernel_rfl) (by kernel_rfl) ?_
    repeat (quiet_step (first | (go_at_call 25; exact (i_isBits _ _).bw)))
    refine wpQuiet_nil ?_
    intro c
    go_wp2
    go_ret
    exact ⟨rfl, ((Below.refl _ _).alloc (Nat.le_refl _) _).trans (c.out.mono (by simp))⟩
  | true =>
    obtain ⟨n, rfl, h2⟩ := okBits_out h1
    by_cases h3 : 0 ≤ x
    · obtain ⟨W, rfl⟩ := Int.eq_ofNat_of_zero_le h3
      obtain ⟨s, hs⟩ : ∃ s, s = 2 ^ n := ⟨_, rfl⟩
      have e : ((W : Int) / 2 ^ min (s : Int).toNat 64 == 0) = isTab n W := by
        rw [hs, Int.toNat_natCast, Nat.min_eq_left (by have := pow_small h2; omega), shr_nat', isTab_word h2, Bool.eq_iff_iff]
        simp only [beq_iff_eq, decide_eq_true_eq, ← shr_zero]; omega
      have HS := Lib.hid hs; clear hs
      go_enter Tryd.func89, Tryd.ntmps89
      go_wp2_with fail
      refine wp_region_bw (by kernel_rfl) (by kernel_rfl) ?_
      repeat (quiet_step (first | (go_at_call 25; exact (i_isBits _ _).bw) | (go_at_call 90; exact (i_size _ _ _ h2 HS.out _).bw)))
      refine wpQuiet_nil ?_
      intro c
      go_wp2
      go_ret
      exact ⟨ret_eq (congrArg Value.bool e), ((Below.refl _ _).alloc (Nat.le_refl _) _).trans (c.out.mono (by simp))⟩
    · rw [isTab_neg (by omega)]
      have h4 : decide (0 ≤ x) = false := decide_eq_false h3
      go_enter Tryd.func89, Tryd.ntmps89
      go_wp2_with fail
      refine wp_region_bw (by kernel_rfl) (by kernel_rfl) ?_
      repeat (quiet_step (first | (go_at_call 25; exact (i_isBits _ _).bw)))
      refine wpQuiet_nil ?_
      intro c
      go_wp2
      go_ret
      exact ⟨rfl, ((Below.refl _ _).alloc (Nat.le_refl _) _).trans (c.out.mono (by simp))⟩
def inR (a b c : Int) : Bool := decide (b ≤ a ∧ a ≤ c)
theorem s_l1In (a b c : Int) (w : World) : Ret Tryd.prog 22 #[.int .i64 a, .int .i64 b, .int .i64 c] w (.bool (inR a b c)) := by
  unfold Ret
  go_enter Tryd.func22, Tryd.ntmps22
  go_wp2
  all_goals (go_ret; exact ⟨ret_eq (congrArg Value.bool (by unfold inR; simp <;> omega)), bl⟩)
theorem inR_bits (b : Int) : inR b 0 5 = okBits b := rfl
set_option maxHeartbeats 800000 in
theorem s_IsTable (b x : Int) (w : World) : Ret Tryd.prog 70 #[.agg #[.int .i64 b, .int .i64 x]] w (.bool (isTab b x)) := by
  unfold Ret
  have hu := Tryd.underlying30
  have hc0 : ∀ c : BW (w.alloc (Obj.cells #[Value.int IntKind.i64 b, Value.int IntKind.i64 x] 30)), c.val.cell? ⟨w.heap.size, 0, none⟩ = some (.int .i64 b) := fun c => c.cell (by go_simp)
  have hc1 : ∀ c : BW (w.alloc (Obj.cells #[Value.int IntKind.i64 b, Value.int IntKind.i64 x] 30)), c.val.cell? ⟨w.heap.size, 1, none⟩ = some (.int .i64 x) := fun c => c.cell (by go_simp)
  cases h1 : okBits b with
  | false =>
    have hq : ∀ W, Ret Tryd.prog 22 #[.int .i64 b, .int .i64 0, .int .i64 5] W (.bool false) := fun W => by have := s_l1In b 0 5 W; rwa [inR_bits, h1] at this
    rw [isTab_bits h1]
    clear h1
    go_enter Tryd.func70, Tryd.ntmps70
    go_wp2_with fail
    refine wp_region_bw (by kernel_rfl) (by kernel_rfl) ?_
    repeat (quiet_step (first | (go_at_call 22; (with_reducible exact (hq _).bw)) | (go_at_call 22; exact (s_l1In _ _ _ _).bw)))
    refine wpQuiet_nil ?_
    intro c
    go_wp2_with fail
    go_ret
    exact ⟨rfl, bl⟩
  | true =>
    obtain ⟨n, rfl, h2⟩ := okBits_out h1
    have hq : ∀ W, Ret Tryd.prog 22 #[.int .i64 n, .int .i64 0, .int .i64 5] W (.bool true) := fun W => by have := s_l1In n 0 5 W; rwa [inR_bits, h1] at this
    obtain ⟨s, hs⟩ : ∃ s, s = 2 ^ n := ⟨_, rfl⟩
    have hs32 : s ≤ 32 := by rw [hs]; exact pow_small h2
    obtain ⟨S, hS⟩ : ∃ S, S = 2 ^ s := ⟨_, rfl⟩
    have hS32 : S ≤ 4294967296 := by rw [hS]; exact two_pow_le hs32
    have hS1 : 1 ≤ S := by rw [hS]; exact Nat.two_pow_pos _
    have e1 : IntKind.u64.wrap (2 ^ n) = (s : Int) := by
      rw [hs, IntKind.wrap_u64, show ((2 : Int) ^ n) = ((2 ^ n : Nat) : Int) by simp]; have := pow_small h2; omega
    have e2 : IntKind.i64.wrap (2 ^ s) = (S : Int) := by
      rw [hS, show ((2 : Int) ^ s) = ((2 ^ s : Nat) : Int) by simp]; exact wrap_i64 _ (by omega) (by omega)
    have e4 : IntKind.i64.wrap ((S : Int) - 1) = (S : Int) - 1 := wrap_i64 _ (by omega) (by omega)
    have e3 : inR x 0 ((S : Int) - 1) = isTab n x := by
      have e : ((2 : Int) ^ 2 ^ n) = ((2 ^ 2 ^ n : Nat) : Int) := by simp
      unfold inR isTab
      rw [Int.toNat_natCast, e, ← hs, ← hS]
      apply decide_eq_decide.2
      omega
    have E3 := Lib.hid e3; have HS := Lib.hid hs; have HS2 := Lib.hid hS; clear e3 hs hS h1
    go_enter Tryd.func70, Tryd.ntmps70
    go_wp2_with fail
    refine wp_region_bw (by kernel_rfl) (by kernel_rfl) ?_
    repeat (quiet_step (first | (go_at_call 22; (with_reducible exact (hq _).bw)) | (go_at_call 22; exact (s_l1In _ _ _ _).bw)))
    refine wpQuiet_nil ?_
    intro c
    go_wp2_with fail
    go_ret
    exact ⟨ret_eq (congrArg Value.bool E3.out), bl⟩
end Go.Proofs.YtmkgiakngjpfpaaDoor

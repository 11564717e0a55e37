/- Tables of few variables: the program's test. No conditions. -/
import Derived.Test.YtmkgiakngjpfpaaDoorTab
set_option linter.unusedVariables false
set_option linter.unusedSimpArgs false
set_option maxRecDepth 100000
namespace Go.Proofs.YtmkgiakngjpfpaaDoor
open Go.RowKit

/-- A table of at most m variables. -/
def isSm (b x m : Int) : Bool := isTab b x && decide (b ≤ m)
theorem isSm_nat {n W m : Nat} (hn : n ≤ 5) (hm : n ≤ m) (hW : W < 2 ^ 2 ^ n) : isSm n W m = true := by unfold isSm; rw [isTab_nat hn hW]; simp; omega
theorem isSm_out {b x : Int} {m : Nat} (h : isSm b x m = true) : ∃ n W : Nat, b = n ∧ x = W ∧ n ≤ 5 ∧ n ≤ m ∧ W < 2 ^ 2 ^ n := by
  unfold isSm at h
  rw [Bool.and_eq_true] at h
  obtain ⟨n, W, rfl, rfl, h1, h2⟩ := isTab_out h.1
  have := of_decide_eq_true h.2
  exact ⟨n, W, rfl, rfl, h1, by omega, h2⟩
theorem i_isSmall (b x m : Int) (w : World) : Ret Tryd.prog 73 #[.agg #[.int .i64 b, .int .i64 x], .int .i64 m] w (.bool (isSm b x m)) := by
  unfold Ret isSm
  have hu := Tryd.underlying30
  have hc0 : ∀ c : BW (w.alloc (Obj.cells #[Value.int IntKind.i64 b, Value.int IntKind.i64 x] 30)), c.val.cell? ⟨w.heap.size, 0, none⟩ = some (.int .i64 b) := fun c => c.cell (by go_simp)
  cases ht : isTab b x with
  | false =>
    go_enter Tryd.func73, Tryd.ntmps73
    go_wp2_with (go_at_call 89; (with_reducible refine Ret.go (i_IsTable _ _ _) ?_); intro c)
    go_ret
    exact ⟨rfl, bl⟩
  | true =>
    go_enter Tryd.func73, Tryd.ntmps73
    go_wp2_with (go_at_call 89; (with_reducible refine Ret.go (i_IsTable _ _ _) ?_); intro c)
    go_ret
    exact ⟨rfl, bl⟩
end Go.Proofs.YtmkgiakngjpfpaaDoor

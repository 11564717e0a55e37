/- The law FnExactDiagramLine returns true for every table, and leaves what was there as it was. Condition: the table of powers of ten is as it was laid. -/
import Derived.Test.YtmkgiakngjpfpaaDoorDline
import Derived.Test.YtmkgiakngjpfpaaDoorLawC
set_option linter.unusedVariables false
set_option linter.unusedSimpArgs false
set_option maxRecDepth 100000
namespace Go.Proofs.YtmkgiakngjpfpaaDoor
open Go.RowKit

theorem law_DiagramLine (b x : Int) (w : World) (ht : Pow w) : Ret Tryd.prog 5 #[.agg #[.int .i64 b, .int .i64 x]] w (.bool true) := by
  unfold Ret
  have hu := Tryd.underlying30
  have hu1 := Tryd.underlying29
  have hS := fun W => s_DiagramLine b x W
  have hI := fun W => i_DiagramLine b x W
  generalize diaLine b x = t at hS hI
  obtain ⟨hc0, hc1⟩ := box2 w (.int .i64 b) (.int .i64 x) 29
  have HT := Lib.hid ht; have HI := Lib.hid hI; clear ht hI
  go_enter Tryd.func5, Tryd.ntmps5
  go_wp2_with (first | (go_at_call 13; first | ((with_reducible refine Ret.go (l_toTable _ _ _) ?_); intro c0)) | (go_at_call 18; (with_reducible refine Ret.on (hS _) ?_); intro c1) | (go_at_call 19; (with_reducible refine Ret.go (HI.out _ (HT.out.later bl)) ?_); intro c3))
  go_ret
  exact ⟨rfl, bl⟩
end Go.Proofs.YtmkgiakngjpfpaaDoor

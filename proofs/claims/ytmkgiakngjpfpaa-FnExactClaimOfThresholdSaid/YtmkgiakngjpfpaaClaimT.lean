/- The claim of a threshold, as the program and as the reference make it. No conditions. -/
import Derived.Test.YtmkgiakngjpfpaaLawC
import Derived.Test.YtmkgiakngjpfpaaWFor
import Derived.Test.YtmkgiakngjpfpaaContra
set_option linter.unusedVariables false
set_option linter.unusedSimpArgs false
namespace Go.Proofs.Ytmkgiakngjpfpaa
open Go.RowKit

structure Cl where
  kind : Int
  bits : Int
  word : Int
  num : Int
  side : Int
  text : ByteArray
  list : List Int
  ok : Bool
def noCl : Cl := ⟨0, 0, 0, 0, 0, ⟨#[]⟩, [], false⟩
/-- f returns a claim, its list in new memory. -/
def RetCl (f : FuncId) (args : Array Value) (w : World) (c : Cl) : Prop := Calls Try.prog f args w fun e w' => ∃ v, e = .returned (.tuple #[.agg (claimV c.kind c.bits c.word c.num c.side c.text v), .bool c.ok]) ∧ w'.ownsRow w.heap.size 3 1 v c.list.length (ints c.list) ∧ Below w.heap.size w w'
def clThr (b x : Int) : Cl :=
  if isSm b x 4 then
    (if (weights b.toNat x.toNat).2.2 then ⟨2, b, x, (weights b.toNat x.toNat).2.1, 0, ⟨#[]⟩, (weights b.toNat x.toNat).1, true⟩
     else if (contra b.toNat x.toNat).2 then ⟨3, b, x, 0, 0, ⟨#[]⟩, (contra b.toNat x.toNat).1, true⟩ else noCl)
  else noCl
set_option maxHeartbeats 1600000 in
theorem i_ClaimOfThreshold (b x : Int) (w : World) : RetCl 12 #[.agg #[.int .i64 b, .int .i64 x]] w (clThr b x) := by
  unfold RetCl
  have hu := Try.underlying24
  have hu2 := Try.underlying27
  obtain ⟨hA, hB⟩ := twoBoxes w (.int .i64 b) (.int .i64 x) 24 27 (.int .i64 0) (.int .i64 0) (.int .i64 0) (.int .i64 0) (.int .i64 0) (.string ⟨#[]⟩) (.slice none 0 0)
  have hc := hA.all2
  have hd := hB.all7
  have hf := hB.frees
  cases hs : isSm b x 4 with
  | false =>
    have hq : ∀ W', Ret Try.prog 21 #[.agg #[.int .i64 b, .int .i64 x], .int .i64 4] W' (.bool false) := fun W' => by have := i_isSmall b x 4 W'; rwa [hs] at this
    have hz : clThr b x = noCl := by unfold clThr; rw [hs]; rfl
    rw [hz]
    clear hs hz
    go_enter Try.func12, Try.ntmps12
    go_wp2_with (first | (go_at_call 21; (with_reducible refine Ret.go (hq _) ?_); intro c0))
    have hfin := (set7_blk (hB.later c0.out) (.int .i64 0) (.int .i64 0) (.int .i64 0) (.int .i64 0) (.int .i64 0) (.string ⟨#[]⟩) (.slice none 0 0)).all7 ⟨_, Below.refl _ _⟩
    unfold set7 at hfin
    refine bodyPost_ret (v := .tuple #[.agg #[.int .i64 0, .int .i64 0, .int .i64 0, .int .i64 0, .int .i64 0, .string ⟨#[]⟩, .slice none 0 0], .bool false]) (by simp [results, Try.results12, go_sem, hfin]) rfl ⟨_, rfl, World.ownsRow_nil _ _ _ _, ?_⟩
    exact set7_below (below_two c0) (by omega) _ _ _ _ _ _ _
  | true =>
    obtain ⟨n, W, rfl, rfl, hn5, hn, hW⟩ := isSm_out (m := 4) hs
    have hq : ∀ W', Ret Try.prog 21 #[.agg #[.int .i64 n, .int .i64 W], .int .i64 4] W' (.bool true) := fun W' => by have := i_isSmall n W 4 W'; rwa [hs] at this
    have hz : clThr n W = if (weights n W).2.2 then ⟨2, n, W, (weights n W).2.1, 0, ⟨#[]⟩, (weights n W).1, true⟩ else if (contra n W).2 then ⟨3, n, W, 0, 0, ⟨#[]⟩, (contra n W).1, true⟩ else noCl := by
      unfold clThr; rw [hs]; rfl
    rw [hz]
    clear hs hz
    cases hw : (weights n W).2.2 with
    | true =>
      have HW := Lib.hid hw; have HWW := Lib.hid hW; clear hw hW
      go_enter Try.func12, Try.ntmps12
      go_wp2_with (first | (go_at_call 21; (with_reducible refine Ret.go (hq _) ?_); intro c0) | (go_at_call 22; refine (i_WeightsFor n W hn HWW.out _).mono ?_; rw [HW.out]; rintro e w2 ⟨v, rfl, ho, hb⟩; obtain ⟨A, cc, rfl, hrd⟩ := own_rd ho; obtain ⟨c2, rfl⟩ : ∃ c2 : BW ((w.alloc (Obj.cells #[Value.int IntKind.i64 n, Value.int IntKind.i64 W] 24)).alloc (Obj.cells #[Value.int .i64 0, Value.int .i64 0, Value.int .i64 0, Value.int .i64 0, Value.int .i64 0, Value.string ⟨#[]⟩, Value.slice none 0 0] 27)), w2 = c2.val := ⟨⟨w2, bl_then c0.out hb⟩, rfl⟩))
      have hfin := (set7_blk (hB.later c2.out) (.int .i64 2) (.int .i64 n) (.int .i64 W) (.int .i64 (weights n W).2.1) (.int .i64 0) (.string ⟨#[]⟩) (.slice A (weights n W).1.length cc)).all7 ⟨_, Below.refl _ _⟩
      unfold set7 at hfin
      refine bodyPost_ret (v := .tuple #[.agg #[.int .i64 2, .int .i64 n, .int .i64 W, .int .i64 (weights n W).2.1, .int .i64 0, .string ⟨#[]⟩, .slice A (weights n W).1.length cc], .bool true]) (by simp [results, Try.results12, go_sem, hfin]) rfl ⟨_, rfl, own_mono (set7_own ho (by have := two_lt c0; omega) _ _ _ _ _ _ _) (by have := two_lt c0; omega), ?_⟩
      exact set7_below (below_two c2) (by omega) _ _ _ _ _ _ _
    | false =>
      cases hk : (contra n W).2 with
      | true =>
        have HW := Lib.hid hw; have HWW := Lib.hid hW; have HK := Lib.hid hk; clear hw hW hk
        go_enter Try.func12, Try.ntmps12
        go_wp2_with (first | (go_at_call 21; (with_reducible refine Ret.go (hq _) ?_); intro c0) | (go_at_call 22; refine (i_WeightsFor n W hn HWW.out _).mono ?_; rw [HW.out]; rintro e w1 ⟨v, rfl, ho1, hb1⟩; obtain ⟨A1, cc1, rfl, hrd1⟩ := own_rd ho1; obtain ⟨c1, rfl⟩ : ∃ c1 : BW ((w.alloc (Obj.cells #[Value.int IntKind.i64 n, Value.int IntKind.i64 W] 24)).alloc (Obj.cells #[Value.int .i64 0, Value.int .i64 0, Value.int .i64 0, Value.int .i64 0, Value.int .i64 0, Value.string ⟨#[]⟩, Value.slice none 0 0] 27)), w1 = c1.val := ⟨⟨w1, bl_then c0.out hb1⟩, rfl⟩) | (go_at_call 23; refine (i_Contradiction n W hn5 HWW.out _).mono ?_; rw [HK.out]; rintro e w2 ⟨v, rfl, ho, hb⟩; obtain ⟨A, cc, rfl, hrd⟩ := own_rd ho; obtain ⟨c2, rfl⟩ : ∃ c2 : BW ((w.alloc (Obj.cells #[Value.int IntKind.i64 n, Value.int IntKind.i64 W] 24)).alloc (Obj.cells #[Value.int .i64 0, Value.int .i64 0, Value.int .i64 0, Value.int .i64 0, Value.int .i64 0, Value.string ⟨#[]⟩, Value.slice none 0 0] 27)), w2 = c2.val := ⟨⟨w2, bl_then c1.out hb⟩, rfl⟩))
        have hfin := (set7_blk (hB.later c2.out) (.int .i64 3) (.int .i64 n) (.int .i64 W) (.int .i64 0) (.int .i64 0) (.string ⟨#[]⟩) (.slice A (contra n W).1.length cc)).all7 ⟨_, Below.refl _ _⟩
        unfold set7 at hfin
        refine bodyPost_ret (v := .tuple #[.agg #[.int .i64 3, .int .i64 n, .int .i64 W, .int .i64 0, .int .i64 0, .string ⟨#[]⟩, .slice A (contra n W).1.length cc], .bool true]) (by simp [results, Try.results12, go_sem, hfin]) rfl ⟨_, rfl, own_mono (set7_own ho (by have := two_lt c1; omega) _ _ _ _ _ _ _) (by have := two_lt c1; omega), ?_⟩
        exact set7_below (below_two c2) (by omega) _ _ _ _ _ _ _
      | false =>
        have HW := Lib.hid hw; have HWW := Lib.hid hW; have HK := Lib.hid hk; clear hw hW hk
        go_enter Try.func12, Try.ntmps12
        go_wp2_with (first | (go_at_call 21; (with_reducible refine Ret.go (hq _) ?_); intro c0) | (go_at_call 22; refine (i_WeightsFor n W hn HWW.out _).mono ?_; rw [HW.out]; rintro e w1 ⟨v, rfl, ho1, hb1⟩; obtain ⟨A1, cc1, rfl, hrd1⟩ := own_rd ho1; obtain ⟨c1, rfl⟩ : ∃ c1 : BW ((w.alloc (Obj.cells #[Value.int IntKind.i64 n, Value.int IntKind.i64 W] 24)).alloc (Obj.cells #[Value.int .i64 0, Value.int .i64 0, Value.int .i64 0, Value.int .i64 0, Value.int .i64 0, Value.string ⟨#[]⟩, Value.slice none 0 0] 27)), w1 = c1.val := ⟨⟨w1, bl_then c0.out hb1⟩, rfl⟩) | (go_at_call 23; refine (i_Contradiction n W hn5 HWW.out _).mono ?_; rw [HK.out]; rintro e w2 ⟨v, rfl, ho, hb⟩; obtain ⟨A, cc, rfl, hrd⟩ := own_rd ho; obtain ⟨c2, rfl⟩ : ∃ c2 : BW ((w.alloc (Obj.cells #[Value.int IntKind.i64 n, Value.int IntKind.i64 W] 24)).alloc (Obj.cells #[Value.int .i64 0, Value.int .i64 0, Value.int .i64 0, Value.int .i64 0, Value.int .i64 0, Value.string ⟨#[]⟩, Value.slice none 0 0] 27)), w2 = c2.val := ⟨⟨w2, bl_then c1.out hb⟩, rfl⟩))
        have hfin := (set7_blk (hB.later c2.out) (.int .i64 0) (.int .i64 0) (.int .i64 0) (.int .i64 0) (.int .i64 0) (.string ⟨#[]⟩) (.slice none 0 0)).all7 ⟨_, Below.refl _ _⟩
        unfold set7 at hfin
        refine bodyPost_ret (v := .tuple #[.agg #[.int .i64 0, .int .i64 0, .int .i64 0, .int .i64 0, .int .i64 0, .string ⟨#[]⟩, .slice none 0 0], .bool false]) (by simp [results, Try.results12, go_sem, hfin]) rfl ⟨_, rfl, World.ownsRow_nil _ _ _ _, ?_⟩
        exact set7_below (below_two c2) (by omega) _ _ _ _ _ _ _
set_option maxHeartbeats 1600000 in
theorem s_ClaimOfThreshold (b x : Int) (w : World) : RetCl 11 #[.agg #[.int .i64 b, .int .i64 x]] w (clThr b x) := by
  unfold RetCl
  have hu := Try.underlying24
  have hu2 := Try.underlying27
  obtain ⟨hA, hB⟩ := twoBoxes w (.int .i64 b) (.int .i64 x) 24 27 (.int .i64 0) (.int .i64 0) (.int .i64 0) (.int .i64 0) (.int .i64 0) (.string ⟨#[]⟩) (.slice none 0 0)
  have hc := hA.all2
  have hd := hB.all7
  have hf := hB.frees
  cases hs : isSm b x 4 with
  | false =>
    have hz : clThr b x = noCl := by unfold clThr; rw [hs]; rfl
    rw [hz]
    clear hz
    cases ht : isTab b x with
    | false =>
      have HS := Lib.hid hs; have HT := Lib.hid ht; clear hs ht
      go_enter Try.func11, Try.ntmps11
      go_wp2_with (first | (go_at_call 19; refine (s_WeightsFor_no b x HS.out _).mono ?_; rintro e w1 ⟨v, rfl, ho1, hb1⟩; obtain ⟨A1, cc1, rfl, hrd1⟩ := own_rd ho1; obtain ⟨c1, rfl⟩ : ∃ c1 : BW ((w.alloc (Obj.cells #[Value.int IntKind.i64 b, Value.int IntKind.i64 x] 24)).alloc (Obj.cells #[Value.int .i64 0, Value.int .i64 0, Value.int .i64 0, Value.int .i64 0, Value.int .i64 0, Value.string ⟨#[]⟩, Value.slice none 0 0] 27)), w1 = c1.val := ⟨⟨w1, bl_then (Below.refl _ _) hb1⟩, rfl⟩) | (go_at_call 20; refine (s_Contradiction_no b x HT.out _).mono ?_; rintro e w2 ⟨v, rfl, ho, hb⟩; obtain ⟨A, cc, rfl, hrd⟩ := own_rd ho; obtain ⟨c2, rfl⟩ : ∃ c2 : BW ((w.alloc (Obj.cells #[Value.int IntKind.i64 b, Value.int IntKind.i64 x] 24)).alloc (Obj.cells #[Value.int .i64 0, Value.int .i64 0, Value.int .i64 0, Value.int .i64 0, Value.int .i64 0, Value.string ⟨#[]⟩, Value.slice none 0 0] 27)), w2 = c2.val := ⟨⟨w2, bl_then c1.out hb⟩, rfl⟩))
      have hfin := (set7_blk (hB.later c2.out) (.int .i64 0) (.int .i64 0) (.int .i64 0) (.int .i64 0) (.int .i64 0) (.string ⟨#[]⟩) (.slice none 0 0)).all7 ⟨_, Below.refl _ _⟩
      unfold set7 at hfin
      refine bodyPost_ret (v := .tuple #[.agg #[.int .i64 0, .int .i64 0, .int .i64 0, .int .i64 0, .int .i64 0, .string ⟨#[]⟩, .slice none 0 0], .bool false]) (by simp [results, Try.results11, go_sem, hfin]) rfl ⟨_, rfl, World.ownsRow_nil _ _ _ _, ?_⟩
      exact set7_below (below_two c2) (by omega) _ _ _ _ _ _ _
    | true =>
      obtain ⟨n, W, rfl, rfl, hn5, hW⟩ := isTab_out ht
      have h4 : ¬ n ≤ 4 := fun h => by rw [show isSm n W 4 = true from isSm_nat (m := 4) hn5 h hW] at hs; cases hs
      have h4' : (4 : Int) < n := by omega
      have HS := Lib.hid hs; have HWW := Lib.hid hW; clear hs ht hW h4
      cases hk : (contra n W).2 <;>
      · have HK := Lib.hid hk; clear hk
        go_enter Try.func11, Try.ntmps11
        go_wp2_with (first | (go_at_call 19; refine (s_WeightsFor_no n W HS.out _).mono ?_; rintro e w1 ⟨v, rfl, ho1, hb1⟩; obtain ⟨A1, cc1, rfl, hrd1⟩ := own_rd ho1; obtain ⟨c1, rfl⟩ : ∃ c1 : BW ((w.alloc (Obj.cells #[Value.int IntKind.i64 n, Value.int IntKind.i64 W] 24)).alloc (Obj.cells #[Value.int .i64 0, Value.int .i64 0, Value.int .i64 0, Value.int .i64 0, Value.int .i64 0, Value.string ⟨#[]⟩, Value.slice none 0 0] 27)), w1 = c1.val := ⟨⟨w1, bl_then (Below.refl _ _) hb1⟩, rfl⟩) | (go_at_call 20; refine (s_Contradiction n W hn5 HWW.out _).mono ?_; rw [HK.out]; rintro e w2 ⟨v, rfl, ho, hb⟩; obtain ⟨A, cc, rfl, hrd⟩ := own_rd ho; obtain ⟨c2, rfl⟩ : ∃ c2 : BW ((w.alloc (Obj.cells #[Value.int IntKind.i64 n, Value.int IntKind.i64 W] 24)).alloc (Obj.cells #[Value.int .i64 0, Value.int .i64 0, Value.int .i64 0, Value.int .i64 0, Value.int .i64 0, Value.string ⟨#[]⟩, Value.slice none 0 0] 27)), w2 = c2.val := ⟨⟨w2, bl_then c1.out hb⟩, rfl⟩))
        have hfin := (set7_blk (hB.later c2.out) (.int .i64 0) (.int .i64 0) (.int .i64 0) (.int .i64 0) (.int .i64 0) (.string ⟨#[]⟩) (.slice none 0 0)).all7 ⟨_, Below.refl _ _⟩
        unfold set7 at hfin
        refine bodyPost_ret (v := .tuple #[.agg #[.int .i64 0, .int .i64 0, .int .i64 0, .int .i64 0, .int .i64 0, .string ⟨#[]⟩, .slice none 0 0], .bool false]) (by simp [results, Try.results11, go_sem, hfin]) rfl ⟨_, rfl, World.ownsRow_nil _ _ _ _, ?_⟩
        exact set7_below (below_two c2) (by omega) _ _ _ _ _ _ _
  | true =>
    obtain ⟨n, W, rfl, rfl, hn5, hn, hW⟩ := isSm_out (m := 4) hs
    have hz : clThr n W = if (weights n W).2.2 then ⟨2, n, W, (weights n W).2.1, 0, ⟨#[]⟩, (weights n W).1, true⟩ else if (contra n W).2 then ⟨3, n, W, 0, 0, ⟨#[]⟩, (contra n W).1, true⟩ else noCl := by
      unfold clThr; rw [hs]; rfl
    rw [hz]
    clear hs hz
    cases hw : (weights n W).2.2 with
    | true =>
      have HW := Lib.hid hw; have HWW := Lib.hid hW; clear hw hW
      go_enter Try.func11, Try.ntmps11
      go_wp2_with (first | (go_at_call 19; refine (s_WeightsFor n W hn HWW.out _).mono ?_; rw [HW.out]; rintro e w1 ⟨v, rfl, ho1, hb1⟩; obtain ⟨A1, cc1, rfl, hrd1⟩ := own_rd ho1; obtain ⟨c1, rfl⟩ : ∃ c1 : BW ((w.alloc (Obj.cells #[Value.int IntKind.i64 n, Value.int IntKind.i64 W] 24)).alloc (Obj.cells #[Value.int .i64 0, Value.int .i64 0, Value.int .i64 0, Value.int .i64 0, Value.int .i64 0, Value.string ⟨#[]⟩, Value.slice none 0 0] 27)), w1 = c1.val := ⟨⟨w1, bl_then (Below.refl _ _) hb1⟩, rfl⟩))
      have hfin := (set7_blk (hB.later c1.out) (.int .i64 2) (.int .i64 n) (.int .i64 W) (.int .i64 (weights n W).2.1) (.int .i64 0) (.string ⟨#[]⟩) (.slice A1 (weights n W).1.length cc1)).all7 ⟨_, Below.refl _ _⟩
      unfold set7 at hfin
      refine bodyPost_ret (v := .tuple #[.agg #[.int .i64 2, .int .i64 n, .int .i64 W, .int .i64 (weights n W).2.1, .int .i64 0, .string ⟨#[]⟩, .slice A1 (weights n W).1.length cc1], .bool true]) (by simp [results, Try.results11, go_sem, hfin]) rfl ⟨_, rfl, own_mono (set7_own ho1 (by simp) _ _ _ _ _ _ _) (by simp; omega), ?_⟩
      exact set7_below (below_two c1) (by omega) _ _ _ _ _ _ _
    | false =>
      cases hk : (contra n W).2 with
      | true =>
        have HW := Lib.hid hw; have HWW := Lib.hid hW; have HK := Lib.hid hk; clear hw hW hk
        go_enter Try.func11, Try.ntmps11
        go_wp2_with (first | (go_at_call 19; refine (s_WeightsFor n W hn HWW.out _).mono ?_; rw [HW.out]; rintro e w1 ⟨v, rfl, ho1, hb1⟩; obtain ⟨A1, cc1, rfl, hrd1⟩ := own_rd ho1; obtain ⟨c1, rfl⟩ : ∃ c1 : BW ((w.alloc (Obj.cells #[Value.int IntKind.i64 n, Value.int IntKind.i64 W] 24)).alloc (Obj.cells #[Value.int .i64 0, Value.int .i64 0, Value.int .i64 0, Value.int .i64 0, Value.int .i64 0, Value.string ⟨#[]⟩, Value.slice none 0 0] 27)), w1 = c1.val := ⟨⟨w1, bl_then (Below.refl _ _) hb1⟩, rfl⟩) | (go_at_call 20; refine (s_Contradiction n W hn5 HWW.out _).mono ?_; rw [HK.out]; rintro e w2 ⟨v, rfl, ho, hb⟩; obtain ⟨A, cc, rfl, hrd⟩ := own_rd ho; obtain ⟨c2, rfl⟩ : ∃ c2 : BW ((w.alloc (Obj.cells #[Value.int IntKind.i64 n, Value.int IntKind.i64 W] 24)).alloc (Obj.cells #[Value.int .i64 0, Value.int .i64 0, Value.int .i64 0, Value.int .i64 0, Value.int .i64 0, Value.string ⟨#[]⟩, Value.slice none 0 0] 27)), w2 = c2.val := ⟨⟨w2, bl_then c1.out hb⟩, rfl⟩))
        have hfin := (set7_blk (hB.later c2.out) (.int .i64 3) (.int .i64 n) (.int .i64 W) (.int .i64 0) (.int .i64 0) (.string ⟨#[]⟩) (.slice A (contra n W).1.length cc)).all7 ⟨_, Below.refl _ _⟩
        unfold set7 at hfin
        refine bodyPost_ret (v := .tuple #[.agg #[.int .i64 3, .int .i64 n, .int .i64 W, .int .i64 0, .int .i64 0, .string ⟨#[]⟩, .slice A (contra n W).1.length cc], .bool true]) (by simp [results, Try.results11, go_sem, hfin]) rfl ⟨_, rfl, own_mono (set7_own ho (by have := two_lt c1; omega) _ _ _ _ _ _ _) (by have := two_lt c1; omega), ?_⟩
        exact set7_below (below_two c2) (by omega) _ _ _ _ _ _ _
      | false =>
        have HW := Lib.hid hw; have HWW := Lib.hid hW; have HK := Lib.hid hk; clear hw hW hk
        go_enter Try.func11, Try.ntmps11
        go_wp2_with (first | (go_at_call 19; refine (s_WeightsFor n W hn HWW.out _).mono ?_; rw [HW.out]; rintro e w1 ⟨v, rfl, ho1, hb1⟩; obtain ⟨A1, cc1, rfl, hrd1⟩ := own_rd ho1; obtain ⟨c1, rfl⟩ : ∃ c1 : BW ((w.alloc (Obj.cells #[Value.int IntKind.i64 n, Value.int IntKind.i64 W] 24)).alloc (Obj.cells #[Value.int .i64 0, Value.int .i64 0, Value.int .i64 0, Value.int .i64 0, Value.int .i64 0, Value.string ⟨#[]⟩, Value.slice none 0 0] 27)), w1 = c1.val := ⟨⟨w1, bl_then (Below.refl _ _) hb1⟩, rfl⟩) | (go_at_call 20; refine (s_Contradiction n W hn5 HWW.out _).mono ?_; rw [HK.out]; rintro e w2 ⟨v, rfl, ho, hb⟩; obtain ⟨A, cc, rfl, hrd⟩ := own_rd ho; obtain ⟨c2, rfl⟩ : ∃ c2 : BW ((w.alloc (Obj.cells #[Value.int IntKind.i64 n, Value.int IntKind.i64 W] 24)).alloc (Obj.cells #[Value.int .i64 0, Value.int .i64 0, Value.int .i64 0, Value.int .i64 0, Value.int .i64 0, Value.string ⟨#[]⟩, Value.slice none 0 0] 27)), w2 = c2.val := ⟨⟨w2, bl_then c1.out hb⟩, rfl⟩))
        have hfin := (set7_blk (hB.later c2.out) (.int .i64 0) (.int .i64 0) (.int .i64 0) (.int .i64 0) (.int .i64 0) (.string ⟨#[]⟩) (.slice none 0 0)).all7 ⟨_, Below.refl _ _⟩
        unfold set7 at hfin
        refine bodyPost_ret (v := .tuple #[.agg #[.int .i64 0, .int .i64 0, .int .i64 0, .int .i64 0, .int .i64 0, .string ⟨#[]⟩, .slice none 0 0], .bool false]) (by simp [results, Try.results11, go_sem, hfin]) rfl ⟨_, rfl, World.ownsRow_nil _ _ _ _, ?_⟩
        exact set7_below (below_two c2) (by omega) _ _ _ _ _ _ _
end Go.Proofs.Ytmkgiakngjpfpaa

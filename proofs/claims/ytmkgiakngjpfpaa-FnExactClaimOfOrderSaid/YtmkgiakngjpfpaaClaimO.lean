/- The claim of an order, as the program and as the reference make it. No conditions. -/
import Derived.Test.YtmkgiakngjpfpaaLawC
import Derived.Test.YtmkgiakngjpfpaaOrd
set_option linter.unusedVariables false
set_option linter.unusedSimpArgs false
namespace Go.Proofs.Ytmkgiakngjpfpaa
open Go.RowKit

def clOrd (b x : Int) : Cl :=
  if isSm b x 4 then ⟨6, b, x, (ordF b.toNat x.toNat (bestI b.toNat x.toNat) : Nat), 0, ⟨#[]⟩, natI (ordAt b.toNat (bestI b.toNat x.toNat)), true⟩ else noCl
theorem clOrd_len (b x : Int) : (clOrd b x).list.length ≤ 100 := by
  unfold clOrd
  cases hs : isSm b x 4 with
  | false => simp [noCl]
  | true =>
    obtain ⟨n, W, rfl, rfl, hn5, hn, hW⟩ := isSm_out (m := 4) hs
    have h := (ordAt_ord hn (bestAt_lt (ordF n W) (ordNum n) (ordNum_pos hn))).1
    simp only [if_true, Int.toNat_natCast, natI_length]
    have : (ordAt n (bestI n W)).length = n := h
    omega
set_option maxHeartbeats 1600000 in
theorem i_ClaimOfOrder (b x : Int) (w : World) : RetCl 7 #[.agg #[.int .i64 b, .int .i64 x]] w (clOrd b x) := by
  unfold RetCl
  have hu := Try.underlying24
  have hu2 := Try.underlying27
  obtain ⟨hA, hB⟩ := twoBoxes w (.int .i64 b) (.int .i64 x) 24 27 (.int .i64 0) (.int .i64 0) (.int .i64 0) (.int .i64 0) (.int .i64 0) (.string ⟨#[]⟩) (.slice none 0 0)
  have hc := hA.all2
  have hd := hB.all7
  have hf := hB.frees
  cases hs : isSm b x 4 with
  | false =>
    have hz : clOrd b x = noCl := by unfold clOrd; rw [hs]; rfl
    rw [hz]
    have HS := Lib.hid hs; clear hs hz
    go_enter Try.func7, Try.ntmps7
    go_wp2_with (go_at_call 14; refine (i_LeastOrder_no b x HS.out _).mono ?_; rintro e w1 ⟨v, rfl, ho1, hb1⟩; obtain ⟨A1, cc1, rfl, hrd1⟩ := own_rd ho1; obtain ⟨c1, rfl⟩ : ∃ c1 : BW ((w.alloc (Obj.cells #[Value.int IntKind.i64 b, Value.int IntKind.i64 x] 24)).alloc (Obj.cells #[Value.int .i64 0, Value.int .i64 0, Value.int .i64 0, Value.int .i64 0, Value.int .i64 0, Value.string ⟨#[]⟩, Value.slice none 0 0] 27)), w1 = c1.val := ⟨⟨w1, bl_then (Below.refl _ _) hb1⟩, rfl⟩)
    have hfin := (set7_blk (hB.later c1.out) (.int .i64 0) (.int .i64 0) (.int .i64 0) (.int .i64 0) (.int .i64 0) (.string ⟨#[]⟩) (.slice none 0 0)).all7 ⟨_, Below.refl _ _⟩
    unfold set7 at hfin
    refine bodyPost_ret (v := .tuple #[.agg #[.int .i64 0, .int .i64 0, .int .i64 0, .int .i64 0, .int .i64 0, .string ⟨#[]⟩, .slice none 0 0], .bool false]) (by simp [results, Try.results7, go_sem, hfin]) rfl ⟨_, rfl, World.ownsRow_nil _ _ _ _, ?_⟩
    exact set7_below (below_two c1) (by omega) _ _ _ _ _ _ _
  | true =>
    obtain ⟨n, W, rfl, rfl, hn5, hn, hW⟩ := isSm_out (m := 4) hs
    have hz : clOrd n W = ⟨6, n, W, (ordF n W (bestI n W) : Nat), 0, ⟨#[]⟩, natI (ordAt n (bestI n W)), true⟩ := by unfold clOrd; rw [hs]; rfl
    rw [hz]
    have hcall := i_LeastOrder n W hn hW
    generalize ordF n W (bestI n W) = num at hcall ⊢
    generalize ordAt n (bestI n W) = l at hcall ⊢
    dsimp only
    rw [natI_length]
    have HC := Lib.hid hcall; clear hcall hs hz hW
    go_enter Try.func7, Try.ntmps7
    go_wp2_with (go_at_call 14; refine (HC.out _).mono ?_; rintro e w1 ⟨v, rfl, ho1, hb1⟩; obtain ⟨A1, cc1, rfl, hrd1⟩ := own_rd ho1; obtain ⟨c1, rfl⟩ : ∃ c1 : BW ((w.alloc (Obj.cells #[Value.int IntKind.i64 n, Value.int IntKind.i64 W] 24)).alloc (Obj.cells #[Value.int .i64 0, Value.int .i64 0, Value.int .i64 0, Value.int .i64 0, Value.int .i64 0, Value.string ⟨#[]⟩, Value.slice none 0 0] 27)), w1 = c1.val := ⟨⟨w1, bl_then (Below.refl _ _) hb1⟩, rfl⟩)
    have hfin := (set7_blk (hB.later c1.out) (.int .i64 6) (.int .i64 n) (.int .i64 W) (.int .i64 num) (.int .i64 0) (.string ⟨#[]⟩) (.slice A1 l.length cc1)).all7 ⟨_, Below.refl _ _⟩
    unfold set7 at hfin
    refine bodyPost_ret (v := .tuple #[.agg #[.int .i64 6, .int .i64 n, .int .i64 W, .int .i64 num, .int .i64 0, .string ⟨#[]⟩, .slice A1 l.length cc1], .bool true]) (by simp [results, Try.results7, go_sem, hfin]) rfl ⟨_, rfl, own_mono (set7_own ho1 (by simp) _ _ _ _ _ _ _) (by simp; omega), ?_⟩
    exact set7_below (below_two c1) (by omega) _ _ _ _ _ _ _
set_option maxHeartbeats 1600000 in
theorem s_ClaimOfOrder (b x : Int) (w : World) : RetCl 5 #[.agg #[.int .i64 b, .int .i64 x]] w (clOrd b x) := by
  unfold RetCl
  have hu := Try.underlying24
  have hu2 := Try.underlying27
  obtain ⟨hA, hB⟩ := twoBoxes w (.int .i64 b) (.int .i64 x) 24 27 (.int .i64 0) (.int .i64 0) (.int .i64 0) (.int .i64 0) (.int .i64 0) (.string ⟨#[]⟩) (.slice none 0 0)
  have hc := hA.all2
  have hd := hB.all7
  have hf := hB.frees
  cases hs : isSm b x 4 with
  | false =>
    have hz : clOrd b x = noCl := by unfold clOrd; rw [hs]; rfl
    rw [hz]
    have HS := Lib.hid hs; clear hs hz
    go_enter Try.func5, Try.ntmps5
    go_wp2_with (go_at_call 13; refine (s_LeastOrder_no b x HS.out _).mono ?_; rintro e w1 ⟨v, rfl, ho1, hb1⟩; obtain ⟨A1, cc1, rfl, hrd1⟩ := own_rd ho1; obtain ⟨c1, rfl⟩ : ∃ c1 : BW ((w.alloc (Obj.cells #[Value.int IntKind.i64 b, Value.int IntKind.i64 x] 24)).alloc (Obj.cells #[Value.int .i64 0, Value.int .i64 0, Value.int .i64 0, Value.int .i64 0, Value.int .i64 0, Value.string ⟨#[]⟩, Value.slice none 0 0] 27)), w1 = c1.val := ⟨⟨w1, bl_then (Below.refl _ _) hb1⟩, rfl⟩)
    have hfin := (set7_blk (hB.later c1.out) (.int .i64 0) (.int .i64 0) (.int .i64 0) (.int .i64 0) (.int .i64 0) (.string ⟨#[]⟩) (.slice none 0 0)).all7 ⟨_, Below.refl _ _⟩
    unfold set7 at hfin
    refine bodyPost_ret (v := .tuple #[.agg #[.int .i64 0, .int .i64 0, .int .i64 0, .int .i64 0, .int .i64 0, .string ⟨#[]⟩, .slice none 0 0], .bool false]) (by simp [results, Try.results5, go_sem, hfin]) rfl ⟨_, rfl, World.ownsRow_nil _ _ _ _, ?_⟩
    exact set7_below (below_two c1) (by omega) _ _ _ _ _ _ _
  | true =>
    obtain ⟨n, W, rfl, rfl, hn5, hn, hW⟩ := isSm_out (m := 4) hs
    have hz : clOrd n W = ⟨6, n, W, (ordF n W (bestI n W) : Nat), 0, ⟨#[]⟩, natI (ordAt n (bestI n W)), true⟩ := by unfold clOrd; rw [hs]; rfl
    rw [hz]
    have hcall := s_LeastOrder n W hn hW
    generalize ordF n W (bestI n W) = num at hcall ⊢
    generalize ordAt n (bestI n W) = l at hcall ⊢
    dsimp only
    rw [natI_length]
    have HC := Lib.hid hcall; clear hcall hs hz hW
    go_enter Try.func5, Try.ntmps5
    go_wp2_with (go_at_call 13; refine (HC.out _).mono ?_; rintro e w1 ⟨v, rfl, ho1, hb1⟩; obtain ⟨A1, cc1, rfl, hrd1⟩ := own_rd ho1; obtain ⟨c1, rfl⟩ : ∃ c1 : BW ((w.alloc (Obj.cells #[Value.int IntKind.i64 n, Value.int IntKind.i64 W] 24)).alloc (Obj.cells #[Value.int .i64 0, Value.int .i64 0, Value.int .i64 0, Value.int .i64 0, Value.int .i64 0, Value.string ⟨#[]⟩, Value.slice none 0 0] 27)), w1 = c1.val := ⟨⟨w1, bl_then (Below.refl _ _) hb1⟩, rfl⟩)
    have hfin := (set7_blk (hB.later c1.out) (.int .i64 6) (.int .i64 n) (.int .i64 W) (.int .i64 num) (.int .i64 0) (.string ⟨#[]⟩) (.slice A1 l.length cc1)).all7 ⟨_, Below.refl _ _⟩
    unfold set7 at hfin
    refine bodyPost_ret (v := .tuple #[.agg #[.int .i64 6, .int .i64 n, .int .i64 W, .int .i64 num, .int .i64 0, .string ⟨#[]⟩, .slice A1 l.length cc1], .bool true]) (by simp [results, Try.results5, go_sem, hfin]) rfl ⟨_, rfl, own_mono (set7_own ho1 (by simp) _ _ _ _ _ _ _) (by simp; omega), ?_⟩
    exact set7_below (below_two c1) (by omega) _ _ _ _ _ _ _
end Go.Proofs.Ytmkgiakngjpfpaa

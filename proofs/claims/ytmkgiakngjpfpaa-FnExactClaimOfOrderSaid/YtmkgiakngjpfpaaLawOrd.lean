/- The law FnExactClaimOfOrder returns true for every table, and leaves what was there as it was. No conditions. -/
import Derived.Test.YtmkgiakngjpfpaaClaimO
set_option linter.unusedVariables false
set_option linter.unusedSimpArgs false
namespace Go.Proofs.Ytmkgiakngjpfpaa
open Go.RowKit

set_option maxHeartbeats 3200000 in
theorem law_ClaimOfOrder (b x : Int) (w : World) : Ret Try.prog 3 #[.agg #[.int .i64 b, .int .i64 x]] w (.bool true) := by
  unfold Ret
  have hu := Try.underlying24
  have hu1 := Try.underlying23
  have hu2 := Try.underlying27
  have hS := fun W => s_ClaimOfOrder b x W
  have hI := fun W => i_ClaimOfOrder b x W
  have hlen := clOrd_len b x
  generalize clOrd b x = cl at hS hI hlen
  obtain ⟨kd, cb, cx, num, side, text, xs, ok⟩ := cl
  unfold RetCl claimV at hS hI
  dsimp only at hS hI hlen
  obtain ⟨hc0, hc1⟩ := box2 w (.int .i64 b) (.int .i64 x) 23
  have hblt := fun c : BW (w.alloc (Obj.cells #[Value.int IntKind.i64 b, Value.int IntKind.i64 x] 23)) => box_lt c
  go_enter Try.func3, Try.ntmps3
  go_wp2_with (first | (go_at_call 6; (with_reducible refine Ret.go (l_toTable _ _ _) ?_); intro c0) | (go_at_call 5; refine (hS _).mono ?_; rintro e w1 ⟨v1, rfl, ho1, hb1⟩; obtain ⟨A1, cc1, rfl, hrd1⟩ := own_rd ho1; obtain ⟨c1, rfl⟩ : ∃ c1 : BW (w.alloc (Obj.cells #[Value.int IntKind.i64 b, Value.int IntKind.i64 x] 23)), w1 = c1.val := ⟨⟨w1, bl_then c0.out hb1⟩, rfl⟩))
  have hlt1 := hblt c1
  have hF1 := ((Blk.new w #[.int .i64 b, .int .i64 x] 23).later c1.out).alloc (Obj.cells #[Value.int IntKind.i64 kd, Value.int IntKind.i64 cb, Value.int IntKind.i64 cx, Value.int IntKind.i64 num, Value.int IntKind.i64 side, Value.string text, Value.slice A1 xs.length cc1] 27)
  have hC1 := Blk.new c1.val #[.int .i64 kd, .int .i64 cb, .int .i64 cx, .int .i64 num, .int .i64 side, .string text, .slice A1 xs.length cc1] 27
  have hr1 := hrd1.later (bl_alloc (Below.refl _ _) (Obj.cells #[Value.int IntKind.i64 kd, Value.int IntKind.i64 cb, Value.int IntKind.i64 cx, Value.int IntKind.i64 num, Value.int IntKind.i64 side, Value.string text, Value.slice A1 xs.length cc1] 27))
  have hbl1 := bl_alloc (below_box c1) (Obj.cells #[Value.int IntKind.i64 kd, Value.int IntKind.i64 cb, Value.int IntKind.i64 cx, Value.int IntKind.i64 num, Value.int IntKind.i64 side, Value.string text, Value.slice A1 xs.length cc1] 27)
  generalize hW1 : c1.val.alloc (Obj.cells #[Value.int IntKind.i64 kd, Value.int IntKind.i64 cb, Value.int IntKind.i64 cx, Value.int IntKind.i64 num, Value.int IntKind.i64 side, Value.string text, Value.slice A1 xs.length cc1] 27) = W1 at *
  clear hW1
  obtain ⟨B1, hB1⟩ : ∃ B1, B1 = c1.val.heap.size := ⟨_, rfl⟩
  rw [← hB1] at hC1 hlt1 ⊢
  clear hB1 hrd1 hb1 ho1 hblt hc0 hc1
  have hB1W := hC1.lt
  refine (hI _).mono ?_
  rintro e w3 ⟨v3, rfl, ho3, hb3⟩
  obtain ⟨c3, rfl⟩ : ∃ c3 : BW W1, w3 = c3.val := ⟨⟨w3, bl_then c0.out hb3⟩, rfl⟩
  obtain ⟨A3, cc3, rfl, hrd3⟩ := own_rd ho3
  have hF2 := (hF1.later c3.out).alloc (Obj.cells #[Value.int IntKind.i64 kd, Value.int IntKind.i64 cb, Value.int IntKind.i64 cx, Value.int IntKind.i64 num, Value.int IntKind.i64 side, Value.string text, Value.slice A3 xs.length cc3] 27)
  have hC2 := (hC1.later c3.out).alloc (Obj.cells #[Value.int IntKind.i64 kd, Value.int IntKind.i64 cb, Value.int IntKind.i64 cx, Value.int IntKind.i64 num, Value.int IntKind.i64 side, Value.string text, Value.slice A3 xs.length cc3] 27)
  have hC3 := Blk.new c3.val #[.int .i64 kd, .int .i64 cb, .int .i64 cx, .int .i64 num, .int .i64 side, .string text, .slice A3 xs.length cc3] 27
  have hr13 := (hr1.later c3.out).later (bl_alloc (Below.refl _ _) (Obj.cells #[Value.int IntKind.i64 kd, Value.int IntKind.i64 cb, Value.int IntKind.i64 cx, Value.int IntKind.i64 num, Value.int IntKind.i64 side, Value.string text, Value.slice A3 xs.length cc3] 27))
  have hr3 := hrd3.later (bl_alloc (Below.refl _ _) (Obj.cells #[Value.int IntKind.i64 kd, Value.int IntKind.i64 cb, Value.int IntKind.i64 cx, Value.int IntKind.i64 num, Value.int IntKind.i64 side, Value.string text, Value.slice A3 xs.length cc3] 27))
  have ho4 := own_mono (ho3.alloc (Obj.cells #[Value.int IntKind.i64 kd, Value.int IntKind.i64 cb, Value.int IntKind.i64 cx, Value.int IntKind.i64 num, Value.int IntKind.i64 side, Value.string text, Value.slice A3 xs.length cc3] 27)) c0.out.size
  have hbl3 := bl_alloc c3.out (Obj.cells #[Value.int IntKind.i64 kd, Value.int IntKind.i64 cb, Value.int IntKind.i64 cx, Value.int IntKind.i64 num, Value.int IntKind.i64 side, Value.string text, Value.slice A3 xs.length cc3] 27)
  have hne3 : (Value.slice A3 xs.length cc3).ownBlock ≠ some c3.val.heap.size := own_lt ho3 (Nat.le_refl _)
  have hlt3 := Nat.lt_of_lt_of_le hB1W c3.out.size
  have hcc3 := (hC1.later c3.out).all7 ⟨_, Below.refl _ _⟩
  dsimp only at hcc3
  have HN := Lib.hid hne3; clear hne3
  go_wp2_with fail
  generalize hW2 : c3.val.alloc (Obj.cells #[Value.int IntKind.i64 kd, Value.int IntKind.i64 cb, Value.int IntKind.i64 cx, Value.int IntKind.i64 num, Value.int IntKind.i64 side, Value.string text, Value.slice A3 xs.length cc3] 27) = W2 at *
  obtain ⟨B3, hB3⟩ : ∃ B3, B3 = c3.val.heap.size := ⟨_, rfl⟩
  have hB31 : W1.heap.size ≤ B3 := by rw [hB3]; exact c3.out.size
  rw [← hB3] at hC3 HN ⊢
  clear hB3 hW2 hrd3 ho3 hb3 hlt3 hcc3
  have hc2 := hC2.all7
  have hc3 := hC3.all7

  have hE := l_eqClaim kd cb cx num side text A3 A1 cc3 cc1 xs W2 hr3 hr13 (by omega)
  unfold claimV at hE
  have hM : ∀ c : BW W2, Calls Try.prog 9 #[.agg #[.int .i64 kd, .int .i64 cb, .int .i64 cx, .int .i64 num, .int .i64 side, .string text, .slice A3 xs.length cc3], .int .i64 1] c.val fun e w' => e = .returned (.int .i64 ((1 + xs.length : Nat) : Int)) ∧ w'.ownsRow W1.heap.size 3 1 (.slice A3 xs.length cc3) xs.length (ints (marks 1 xs.length)) ∧ c.val.grownBy w' (Value.slice A3 xs.length cc3).ownBlock :=
    fun c => l_markClaim kd cb cx num side text (.slice A3 xs.length cc3) xs 1 W1.heap.size c.val (own_bw ho4 c) (by omega)
  go_wp2_with (first | (go_at_call 8; (with_reducible refine Ret.go hE ?_); intro c4))
  refine (hM _).mono ?_
  rintro e M ⟨rfl, ho5, hg5⟩
  have hbM := hbl3.trans (c4.out.mono hbl3.size)
  have hbM2 : Below W1.heap.size W1 M := hbM.grown hg5 hbM.size (fun k hk => (ho5.lt k hk).1)
  have hF3 := hF1.later hbM2
  have hC4 := hC1.later hbM2
  have hC5 := (hC3.later c4.out).grown hg5 (fun e => HN.out e.symm)
  have hr5 := hr1.later hbM2
  obtain ⟨A5, cc5, e5, hr6⟩ := own_rd ho5
  obtain ⟨rfl, -, rfl⟩ : A3 = A5 ∧ xs.length = xs.length ∧ cc3 = cc5 := by simpa using e5
  clear e5 hM hE hC2 hF2 hc2 hc3 hr13 hr3 ho4 hbl3 hbM hg5 HN
  have hf := hF3.all2
  have hc4 := hC4.all7
  have hc5 := hC5.all7
  have hf0 := hf ⟨M, Below.refl _ _⟩
  have hc50 := hc5 ⟨M, Below.refl _ _⟩
  dsimp only at hf0 hc50
  have hltM := Nat.lt_of_lt_of_le hC5.lt (Nat.le_refl _)
  obtain ⟨q, hq⟩ : ∃ q, q = 1 + xs.length := ⟨_, rfl⟩
  have hq2 : q ≤ 1000 := by omega
  have hH : ∀ c : BW M, Ret Try.prog 10 #[.agg #[.int .i64 kd, .int .i64 cb, .int .i64 cx, .int .i64 num, .int .i64 side, .string text, .slice A3 xs.length cc3], .int .i64 1] c.val (.int .i64 (q : Int)) := fun c => by rw [hq]; exact l_heldClaim kd cb cx num side text A3 cc3 1 xs.length c.val (hr6.bw c) (by omega)
  have hH0 := hH ⟨M, Below.refl _ _⟩
  dsimp only at hH0
  rw [← hq]
  have HQ := Lib.hid hq; clear hq
  go_wp2_with (first | (go_at_call 10; (with_reducible refine Ret.go hH0 ?_); intro c6) | (go_at_call 6; (with_reducible refine Ret.on (l_toTable _ _ _) ?_); intro c7))
  refine (hI _).mono ?_
  rintro e w8 ⟨v8, rfl, ho8, hb8⟩
  obtain ⟨c8, rfl⟩ : ∃ c8 : BW M, w8 = c8.val := ⟨⟨w8, bl_then c7.out hb8⟩, rfl⟩
  obtain ⟨A8, cc8, rfl, hrd8⟩ := own_rd ho8
  have hX1 := (hC4.later c8.out).alloc (Obj.cells #[Value.int IntKind.i64 kd, Value.int IntKind.i64 cb, Value.int IntKind.i64 cx, Value.int IntKind.i64 num, Value.int IntKind.i64 side, Value.string text, Value.slice A8 xs.length cc8] 27)
  have hX3 := (hC5.later c8.out).alloc (Obj.cells #[Value.int IntKind.i64 kd, Value.int IntKind.i64 cb, Value.int IntKind.i64 cx, Value.int IntKind.i64 num, Value.int IntKind.i64 side, Value.string text, Value.slice A8 xs.length cc8] 27)
  have hX8 := Blk.new c8.val #[.int .i64 kd, .int .i64 cb, .int .i64 cx, .int .i64 num, .int .i64 side, .string text, .slice A8 xs.length cc8] 27
  have hy1 := hc4 c8
  have hlt8 := Nat.lt_of_lt_of_le hltM c8.out.size
  have hlt81 : B1 < c8.val.heap.size := Nat.lt_of_lt_of_le hC4.lt c8.out.size
  have hr18 := (hr5.later c8.out).later (bl_alloc (Below.refl _ _) (Obj.cells #[Value.int IntKind.i64 kd, Value.int IntKind.i64 cb, Value.int IntKind.i64 cx, Value.int IntKind.i64 num, Value.int IntKind.i64 side, Value.string text, Value.slice A8 xs.length cc8] 27))
  have hr88 := hrd8.later (bl_alloc (Below.refl _ _) (Obj.cells #[Value.int IntKind.i64 kd, Value.int IntKind.i64 cb, Value.int IntKind.i64 cx, Value.int IntKind.i64 num, Value.int IntKind.i64 side, Value.string text, Value.slice A8 xs.length cc8] 27))
  have hr68 := (hr6.later c8.out).later (bl_alloc (Below.refl _ _) (Obj.cells #[Value.int IntKind.i64 kd, Value.int IntKind.i64 cb, Value.int IntKind.i64 cx, Value.int IntKind.i64 num, Value.int IntKind.i64 side, Value.string text, Value.slice A8 xs.length cc8] 27))
  have hblX := bl_alloc (bl_then (bl_then hbl1 hbM2) c8.out) (Obj.cells #[Value.int IntKind.i64 kd, Value.int IntKind.i64 cb, Value.int IntKind.i64 cx, Value.int IntKind.i64 num, Value.int IntKind.i64 side, Value.string text, Value.slice A8 xs.length cc8] 27)
  have hE := l_eqClaim kd cb cx num side text A8 A1 cc8 cc1 xs _ hr88 hr18 (by omega)
  unfold claimV at hE
  clear hrd8 hb8 ho8
  go_wp2_with fail
  generalize hW4 : c8.val.alloc (Obj.cells #[Value.int IntKind.i64 kd, Value.int IntKind.i64 cb, Value.int IntKind.i64 cx, Value.int IntKind.i64 num, Value.int IntKind.i64 side, Value.string text, Value.slice A8 xs.length cc8] 27) = W4 at *
  clear hW4
  have hx1 := hX1.all7
  have hx3 := hX3.all7
  have hH9 : ∀ c : BW W4, Ret Try.prog 10 #[.agg #[.int .i64 kd, .int .i64 cb, .int .i64 cx, .int .i64 num, .int .i64 side, .string text, .slice A3 xs.length cc3], .int .i64 1] c.val (.int .i64 (q : Int)) := fun c => by rw [HQ.out]; exact l_heldClaim kd cb cx num side text A3 cc3 1 xs.length c.val (hr68.bw c) (by omega)
  go_wp2_with (first | (go_at_call 8; (with_reducible refine Ret.go hE ?_); intro c9) | (go_at_call 10; (with_reducible refine Ret.on (hH9 _) ?_); intro c10))
  go_ret
  exact ⟨rfl, bl_bw hblX _⟩
end Go.Proofs.Ytmkgiakngjpfpaa

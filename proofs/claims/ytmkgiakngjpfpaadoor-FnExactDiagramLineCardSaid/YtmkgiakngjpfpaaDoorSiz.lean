/- The diagram of a table for an order, of both: its nodes, their number. No conditions. -/
import Derived.Test.YtmkgiakngjpfpaaDoorWalk
set_option linter.unusedVariables false
set_option linter.unusedSimpArgs false
set_option maxRecDepth 100000
namespace Go.Proofs.YtmkgiakngjpfpaaDoor
open Go.RowKit Go.Maps

/-- The nodes of a word for an order. -/
def nodesOf (n W : Nat) (p : List Nat) : List Nd := (bld n p [] W).2
theorem nodesOf_len {n W : Nat} {p : List Nat} (hn : n ≤ 5) (ho : IsOrd n p) : (nodesOf n W p).length ≤ 32 := by
  have h := bld_len (n := n) p [] W
  have h2 : 2 ^ p.length ≤ 2 ^ 5 := Nat.pow_le_pow_right (by decide) (by rw [ho.1]; exact hn)
  unfold nodesOf
  simp at h
  omega
theorem pow_ord {n : Nat} {p : List Nat} (hn : n ≤ 5) (ho : IsOrd n p) : ([] : List Nd).length + 2 ^ p.length ≤ 100000 := by
  have h2 : 2 ^ p.length ≤ 2 ^ 5 := Nat.pow_le_pow_right (by decide) (by rw [ho.1]; exact hn)
  show 0 + 2 ^ p.length ≤ 100000
  omega
theorem start_dst (n : Nat) (o : Value) (w : World) (o1 : Obj) :
    DSt n (w.heap.size + 1 + 1) (w.heap.size + 1) (w.heap.size + 1 + 1 + 1) o (((w.alloc o1).alloc (.map #[] 0)).alloc (.cells #[o, .slice none 0 0, .map (some (w.heap.size + 1))] 101)) [] (.slice none 0 0) := by
  refine ⟨?_, World.ownsRow_nil _ _ _ _, ⟨.map [], ?_, MapOk.nil n⟩, by omega, by omega, by omega⟩
  · have := Blk.new ((w.alloc o1).alloc (.map #[] 0)) #[o, .slice none 0 0, .map (some (w.heap.size + 1))] 101
    rwa [show ((w.alloc o1).alloc (.map #[] 0)).heap.size = w.heap.size + 1 + 1 by simp] at this
  · have := World.ownsMap_made (H := Unit) (w.alloc o1) Tryd.prog 30 (plainElem Tryd.prog 3)
    rw [show (w.alloc o1).heap.size = w.heap.size + 1 by simp] at this
    exact this.alloc _
set_option maxHeartbeats 1600000 in
theorem i_diagram (n W : Nat) (hn : n ≤ 5) (hW : W < 2 ^ 2 ^ n) (ord : List Nat) (ho : IsOrd n ord) (A : Option Addr) (c : Nat) (w : World) (hA : ∀ ad, A = some ad → ad.block < w.heap.size) (hr : RdC w A (ints (natI ord))) :
    Calls Tryd.prog 48 #[.agg #[.int .i64 n, .int .i64 W], .slice A ord.length c] w fun e w' => ∃ v, e = .returned v ∧ w'.ownsRow w.heap.size 94 3 v (nodesOf n W ord).length (ndCells (nodesOf n W ord)) ∧ Below w.heap.size w w' := by
  have hu := Tryd.underlying30
  have hu2 := Tryd.underlying101
  have hmm := @run_makeMap Tryd.prog
  have h0 := start_dst n (.slice A ord.length c) w (Obj.cells #[Value.int IntKind.i64 n, Value.int IntKind.i64 W] 30)
  have hbl : Below w.heap.size w (((w.alloc (Obj.cells #[Value.int IntKind.i64 n, Value.int IntKind.i64 W] 30)).alloc (.map #[] 0)).alloc (.cells #[.slice A ord.length c, .slice none 0 0, .map (some (w.heap.size + 1))] 101)) := bl
  have hcall := i_walk n (w.heap.size + 1 + 1) (w.heap.size + 1) (w.heap.size + 1 + 1 + 1) hn ord ho A c (fun ad h => by have := hA ad h; omega) (ord.length + 1) ord [] W [] (.slice none 0 0) _ (Nat.lt_succ_self _) rfl (by simp) hW h0 (by simp) (hr.later hbl) (pow_ord hn ho)
  have HC := Lib.hid hcall; have HB := Lib.hid hbl; clear hcall hbl h0 hA hr
  go_enter Tryd.func48, Tryd.ntmps48
  go_wp2_with (go_at_call 85; refine HC.out.mono ?_; rintro e w1 ⟨vl, rfl, h1⟩; have hcc := h1.1.blk.cell (j := 1) rfl)
  go_ret
  refine ⟨vl, rfl, own_mono h1.1.nodes (by omega), ?_⟩
  refine HB.out.trans (h1.2.1.below (by simp; omega) fun i hi hx => ?_)
  rcases hx with e | e | e
  · omega
  · omega
  · cases e
set_option maxHeartbeats 1600000 in
theorem s_DiagramOf (n W : Nat) (hn : n ≤ 5) (hW : W < 2 ^ 2 ^ n) (ord : List Nat) (ho : IsOrd n ord) (A : Option Addr) (c : Nat) (w : World) (hA : ∀ ad, A = some ad → ad.block < w.heap.size) (hr : RdC w A (ints (natI ord))) :
    Calls Tryd.prog 39 #[.agg #[.int .i64 n, .int .i64 W], .slice A ord.length c] w fun e w' => ∃ v, e = .returned (.tuple #[v, .bool true]) ∧ w'.ownsRow w.heap.size 94 3 v (nodesOf n W ord).length (ndCells (nodesOf n W ord)) ∧ Below w.heap.size w w' := by
  have hu := Tryd.underlying30
  obtain ⟨hc0, hc1⟩ := box2 w (.int .i64 n) (.int .i64 W) 30
  have hq : ∀ W', Ret Tryd.prog 70 #[.agg #[.int .i64 n, .int .i64 W]] W' (.bool true) := fun W' => by have := s_IsTable n W W'; rwa [isTab_nat hn hW] at this
  have hp : ∀ c1 : BW w, Ret Tryd.prog 78 #[.slice A ord.length c, .int .i64 n] c1.val (.bool true) := fun c1 => s_l3Perm A c n ord c1.val (hr.bw c1) ho (by omega)
  have hk : ∀ W', Ret Tryd.prog 79 #[.agg #[.int .i64 n, .int .i64 W]] W' (.bool (isConst n W)) := fun W' => s_IsConstant n W hn hW W'
  have HR := Lib.hid (And.intro hr hA)
  cases hcst : isConst n W with
  | true =>
    rw [hcst] at hk
    have hb : nodesOf n W ord = [] := by unfold nodesOf; rw [bld_const hcst]
    rw [hb]
    clear hb hcst
    go_enter Tryd.func39, Tryd.ntmps39
    go_wp2_with (first | (go_at_call 70; (with_reducible refine Ret.go (hq _) ?_); intro c1) | (go_at_call 78; (with_reducible refine Ret.on (hp ⟨c1.val, below_box c1⟩) ?_); intro c2) | (go_at_call 79; (with_reducible refine Ret.on (hk _) ?_); intro c3))
    go_ret2
    exact ⟨_, rfl, World.ownsRow_lit c3.val #[] 0 (below_box c3).size (by decide) rfl, bl⟩
  | false =>
    rw [hcst] at hk
    have hcall : ∀ (W' : World) (vl vn : Value), Below w.heap.size w W' → Two W' w.heap.size [] vl vn → Calls Tryd.prog 80 #[.agg #[.int .i64 n, .int .i64 W], .slice A ord.length c, .int .i64 0, .int .i64 0, .int .i64 0, vl, vn] W' (BPost n ord [] W w.heap.size vl vn W') := fun W' vl vn hb h2 => by
      have := s_l19Build n W hn hW ord ho A c w.heap.size hA ord [] 0 0 [] vl vn W' rfl (fun j => by simp) (Nat.two_pow_pos _) (Nat.two_pow_pos _) (fun j h => by simp at h) h2 hb.size (hr.later hb) (pow_ord hn ho)
      rwa [cube_zero hW] at this
    have HC := Lib.hid hcall; clear hcall hcst hr hA ho hW
    go_enter Tryd.func39, Tryd.ntmps39
    go_wp2_with (first | (go_at_call 70; (with_reducible refine Ret.go (hq _) ?_); intro c1) | (go_at_call 78; (with_reducible refine Ret.on (hp ⟨c1.val, below_box c1⟩) ?_); intro c2) | (go_at_call 79; (with_reducible refine Ret.on (hk _) ?_); intro c3))
    have hb3 := below_box c3
    have hs3 := hb3.size
    have h2 : Two ((c3.val.alloc (Obj.cells #[] 94)).alloc (Obj.cells #[] 3)) w.heap.size [] (.slice (some ⟨c3.val.heap.size, 0, none⟩) 0 0) (.slice (some ⟨c3.val.heap.size + 1, 0, none⟩) 0 0) := by
      refine ⟨(World.ownsRow_lit c3.val #[] 0 hs3 (by decide) rfl).alloc _, ?_, by simp [Value.ownBlock], fun k h e => by simp [Value.ownBlock] at h e; omega⟩
      have := World.ownsRow_lit (base := w.heap.size) (e := 3) (c3.val.alloc (Obj.cells #[] 94)) #[] 0 (by simp; omega) (size := 1) (by decide) rfl
      rwa [show (c3.val.alloc (Obj.cells #[] 94)).heap.size = c3.val.heap.size + 1 by simp] at this
    have hx := HC.out _ _ _ (bl_alloc (bl_alloc hb3 _) _) h2
    have HX := Lib.hid hx; clear hx
    have HB := Lib.hid (bl_alloc (bl_alloc hb3 (Obj.cells #[] 94)) (Obj.cells #[] 3))
    go_wp2_with (go_at_call 80; refine HX.out.mono ?_; rintro e w4 ⟨vl4, vn4, rfl, h4⟩)
    go_ret2
    refine ⟨vl4, rfl, h4.1.nodes, HB.out.trans (h4.2.1.below (by simp; omega) fun i hi hx => ?_)⟩
    exact (h2.lt hx).1
set_option maxHeartbeats 1600000 in
theorem s_SizeOfDiagram (n W : Nat) (hn : n ≤ 5) (hW : W < 2 ^ 2 ^ n) (ord : List Nat) (ho : IsOrd n ord) (A : Option Addr) (c : Nat) (w : World) (hA : ∀ ad, A = some ad → ad.block < w.heap.size) (hr : RdC w A (ints (natI ord))) :
    Ret Tryd.prog 77 #[.agg #[.int .i64 n, .int .i64 W], .slice A ord.length c] w (.int .i64 ((nodesOf n W ord).length : Nat)) := by
  unfold Ret
  have hu := Tryd.underlying30
  have hcall := s_DiagramOf n W hn hW ord ho A c (w.alloc (Obj.cells #[Value.int IntKind.i64 n, Value.int IntKind.i64 W] 30)) (fun ad h => by have := hA ad h; simp; omega) (hr.later (bl_alloc (Below.refl _ _) _))
  have HC := Lib.hid hcall; clear hcall hr hA
  go_enter Tryd.func77, Tryd.ntmps77
  go_wp2_with (go_at_call 39; refine HC.out.mono ?_; rintro e w1 ⟨v, rfl, ho1, hb1⟩; obtain ⟨A1, c1, rfl, hrd1⟩ := own_rd ho1)
  go_ret
  exact ⟨rfl, bl_then (bl_alloc (Below.refl _ _) _) hb1⟩
end Go.Proofs.YtmkgiakngjpfpaaDoor

/- What the laws' own helpers do: they compare what is equal, mark it, and find the marks. No conditions. -/
import Derived.Test.YtmkgiakngjpfpaaDoorBlk
set_option linter.unusedVariables false
set_option linter.unusedSimpArgs false
set_option maxRecDepth 100000
namespace Go.Proofs.YtmkgiakngjpfpaaDoor
open Go.RowKit

theorem l_toTable (b x : Int) (w : World) : Ret Tryd.prog 13 #[.agg #[.int .i64 b, .int .i64 x]] w (.agg #[.int .i64 b, .int .i64 x]) := by
  unfold Ret
  have hu := Tryd.underlying30
  have hu2 := Tryd.underlying29
  go_enter Tryd.func13, Tryd.ntmps13
  go_wp2
  refine bodyPost_ret (v := .agg #[.int .i64 b, .int .i64 x]) (by simp [results, Tryd.results13, go_sem]) rfl ⟨rfl, ?_⟩
  exact bl
theorem l_eqTable (b x : Int) (w : World) : Ret Tryd.prog 34 #[.agg #[.int .i64 b, .int .i64 x], .agg #[.int .i64 b, .int .i64 x]] w (.bool true) := by
  unfold Ret
  have hu := Tryd.underlying30
  go_enter Tryd.func34, Tryd.ntmps34
  go_wp2
  go_ret
  exact ⟨rfl, bl⟩
set_option maxHeartbeats 400000 in
theorem l_eqIntS (A A' : Option Addr) (c c' : Nat) (xs : List Int) (w : World) (hr : RdC w A (ints xs)) (hr' : RdC w A' (ints xs)) (hl : xs.length ≤ 1000000) :
    Ret Tryd.prog 35 #[.slice A xs.length c, .slice A' xs.length c'] w (.bool true) := by
  unfold Ret
  go_enter Tryd.func35, Tryd.ntmps35
  go_wp2_with fail
  go_loopw [5] (fun i wr => ∃ k : Nat, k ≤ xs.length ∧ i = .int .i64 k ∧ ∃ cw : BW w, wr = cw.val) (fun i _ => xs.length - (intOf i).toNat)
  case atStart => exact ⟨0, Nat.zero_le _, rfl, ⟨w, Below.refl _ _⟩, rfl⟩
  case round =>
    obtain ⟨k, hk, rfl, cw, rfl⟩ := hrel
    by_cases hlt : k < xs.length
    · obtain ⟨ad, rfl, hc⟩ := (hr.bw cw).int hlt
      obtain ⟨ad', rfl, hc'⟩ := (hr'.bw cw).int hlt
      go_wp2_with fail
      go_quiet (fail)
      go_wp2_with fail
      go_roundw
      case rel =>
        obtain ⟨c8, hc8⟩ := cw.drewN nq
        exact ⟨k + 1, by omega, by go_num, c8, by rw [hc8]⟩
      case measure => simp [intOf]; omega
    · have : k = xs.length := by omega
      subst this
      go_wp2_with fail
      go_ret
      exact ⟨rfl, cw.out⟩
/-- The marks from k on. -/
def marks (k n : Nat) : List Int := (List.range n).map fun i => ((k + i : Nat) : Int)
theorem marks_length (k n : Nat) : (marks k n).length = n := by simp [marks]
theorem marks_get {k n i : Nat} (h : i < n) : (marks k n).getD i 0 = ((k + i : Nat) : Int) := by simp [marks, h, List.getD_eq_getElem?_getD]
set_option maxHeartbeats 400000 in
theorem l_heldIntS (A : Option Addr) (c k n : Nat) (w : World) (hr : RdC w A (ints (marks k n))) (hl : k + n ≤ 1000000000) :
    Ret Tryd.prog 37 #[.slice A n c, .int .i64 k] w (.int .i64 ((k + n : Nat) : Int)) := by
  unfold Ret
  go_enter Tryd.func37, Tryd.ntmps37
  go_wp2
  go_loop [1, 5] (fun q i => ∃ j : Nat, j ≤ n ∧ i = .int .i64 j ∧ q = .int .i64 ((k + j : Nat) : Int)) (fun _ i => n - (intOf i).toNat)
  case atStart => exact ⟨0, Nat.zero_le _, rfl, rfl⟩
  case round =>
    obtain ⟨j, hj, rfl, rfl⟩ := hrel
    by_cases hlt : j < n
    · obtain ⟨ad, rfl, hc⟩ := hr.int (i := j) (by rw [marks_length]; exact hlt)
      rw [marks_get hlt] at hc
      go_wp2
      go_round
      case rel => exact ⟨j + 1, by omega, by go_num, by go_num⟩
      case measure => simp [intOf]; omega
    · obtain rfl : n = j := by omega
      go_wp2
      go_ret
      exact ⟨rfl, bl⟩
/-- What a slice holds when its first j elements have been marked. -/
def markTo (xs : List Int) (k j : Nat) : List Int := marks k j ++ xs.drop j
theorem markTo_step {xs : List Int} {k j : Nat} (h : j < xs.length) : (markTo xs k j).set j ((k + j : Nat) : Int) = markTo xs k (j + 1) := by
  unfold markTo marks
  rw [List.set_append_right _ _ (by simp), List.drop_eq_getElem_cons h, List.range_succ, List.length_map, List.length_range, Nat.sub_self, List.set_cons_zero, List.map_append, List.append_assoc]
  rfl
theorem markTo_length {xs : List Int} {k j : Nat} (h : j ≤ xs.length) : (markTo xs k j).length = xs.length := by simp [markTo, marks]; omega
theorem markTo_all (xs : List Int) (k : Nat) : markTo xs k xs.length = marks k xs.length := by simp [markTo]
theorem ints_set (xs : List Int) (j : Nat) (a : Int) : (ints xs).set j (.int .i64 a) = ints (xs.set j a) := by simp [ints, List.map_set]
set_option maxHeartbeats 800000 in
theorem l_markIntS (v : Value) (xs : List Int) (k base : Nat) (w : World) (ho : w.ownsRow base 3 1 v xs.length (ints xs)) (hl : k + xs.length ≤ 1000000000) :
    Calls Tryd.prog 36 #[v, .int .i64 k] w fun e w' => e = .returned (.int .i64 ((k + xs.length : Nat) : Int)) ∧ w'.ownsRow base 3 1 v xs.length (ints (marks k xs.length)) ∧ w.grownBy w' v.ownBlock := by
  rcases ho.2 with ⟨rfl, h0⟩ | ⟨g, cap, cur, rfl, hb, hg, hrest⟩
  · have h1 := marks_length k 0
    obtain rfl : xs = [] := List.eq_nil_of_length_eq_zero h0
    go_enter Tryd.func36, Tryd.ntmps36
    go_wp2
    refine wp_loop_rounds 1 ?_
    rw [rounds_succ]
    go_wp2
    go_ret
    exact ⟨rfl, World.ownsRow_nil _ _ _ _, World.grownBy.refl _ _⟩
  · clear hg hrest
    obtain ⟨n, hn⟩ : ∃ n, n = xs.length := ⟨_, rfl⟩
    rw [← hn] at ho hl ⊢
    have HN := Lib.hid hn; clear hn
    go_enter Tryd.func36, Tryd.ntmps36
    go_wp2
    go_loopw [1, 5] (fun q i wr => ∃ j : Nat, j ≤ n ∧ i = .int .i64 j ∧ q = .int .i64 ((k + j : Nat) : Int) ∧ wr.ownsRow base 3 1 (.slice (some ⟨g, 0, none⟩) n cap) n (ints (markTo xs k j)) ∧ w.grownBy wr (some g)) (fun _ i _ => n - (intOf i).toNat)
    case atStart => exact ⟨0, Nat.zero_le _, rfl, rfl, by simpa [markTo, marks] using ho, World.grownBy.refl _ _⟩
    case round =>
      obtain ⟨j, hj, rfl, rfl, hown, hgr⟩ := hrel
      by_cases hlt : j < n
      · have hcell := hown.cellAt j (by omega)
        have hlm : j < (markTo xs k j).length := by rw [markTo_length (by rw [← HN.out]; omega), ← HN.out]; exact hlt
        rw [show (ints (markTo xs k j))[j]? = some (.int .i64 ((markTo xs k j).getD j 0)) by simp [ints, hlm, List.getD_eq_getElem?_getD]] at hcell
        have hfree := hown.frozenAt j
        obtain ⟨hs, hgs⟩ := hown.stored j (.int .i64 ((k + j : Nat) : Int))
        rw [ints_set, markTo_step (by rw [← HN.out]; exact hlt)] at hs
        have hgr2 := World.grownBy.trans hgr hgs
        clear hown hgr hgs hlm
        obtain ⟨q, hq⟩ : ∃ q, q = k + j := ⟨_, rfl⟩
        rw [← hq] at hs hgr2 ⊢
        have hq2 : q ≤ 1000000000 := by omega
        have HQ := Lib.hid hq; clear hq
        go_wp2
        go_roundw
        case rel => exact ⟨j + 1, by omega, by go_num, by have := HQ.out; go_num, hs, hgr2⟩
        case measure => simp [intOf]; omega
      · obtain rfl : n = j := by omega
        have hm := markTo_all xs k
        rw [← HN.out] at hm
        rw [hm] at hown
        go_wp2
        go_ret
        exact ⟨rfl, hown, hgr⟩
/-- A claim as a value: its seven cells. -/
def claimV (k b x num side : Int) (text : ByteArray) (v : Value) : Array Value := #[.int .i64 k, .int .i64 b, .int .i64 x, .int .i64 num, .int .i64 side, .string text, v]
structure Cl where
  kind : Int
  bits : Int
  word : Int
  num : Int
  side : Int
  text : ByteArray
  list : List Int
  ok : Bool
def noCl : Cl := ⟨0, 0, 0, 0, 0, ⟨#[]⟩, [], false⟩
/-- f returns a claim, its list in new memory. -/
def RetCl (f : FuncId) (args : Array Value) (w : World) (c : Cl) : Prop := Calls Tryd.prog f args w fun e w' => ∃ v, e = .returned (.tuple #[.agg (claimV c.kind c.bits c.word c.num c.side c.text v), .bool c.ok]) ∧ w'.ownsRow w.heap.size 3 1 v c.list.length (ints c.list) ∧ Below w.heap.size w w'
set_option maxHeartbeats 1600000 in
theorem l_eqClaim (k b x num side : Int) (text : ByteArray) (A A' : Option Addr) (c c' : Nat) (xs : List Int) (w : World) (hr : RdC w A (ints xs)) (hr' : RdC w A' (ints xs)) (hl : xs.length ≤ 1000000) :
    Ret Tryd.prog 15 #[.agg (claimV k b x num side text (.slice A xs.length c)), .agg (claimV k b x num side text (.slice A' xs.length c'))] w (.bool true) := by
  unfold Ret claimV
  have hu := Tryd.underlying33
  have hu2 := Tryd.underlying30
  go_enter Tryd.func15, Tryd.ntmps15
  go_wp2_with fail
  have hb1 := (Blk.new w #[.int .i64 k, .int .i64 b, .int .i64 x, .int .i64 num, .int .i64 side, .string text, .slice A xs.length c] 33).alloc (Obj.cells #[Value.int IntKind.i64 k, Value.int IntKind.i64 b, Value.int IntKind.i64 x, Value.int IntKind.i64 num, Value.int IntKind.i64 side, Value.string text, Value.slice A' xs.length c'] 33)
  have hb2 := Blk.new (w.alloc (Obj.cells #[Value.int IntKind.i64 k, Value.int IntKind.i64 b, Value.int IntKind.i64 x, Value.int IntKind.i64 num, Value.int IntKind.i64 side, Value.string text, Value.slice A xs.length c] 33)) #[.int .i64 k, .int .i64 b, .int .i64 x, .int .i64 num, .int .i64 side, .string text, .slice A' xs.length c'] 33
  have hbl := bl_alloc (bl_alloc (Below.refl w.heap.size w) (Obj.cells #[Value.int IntKind.i64 k, Value.int IntKind.i64 b, Value.int IntKind.i64 x, Value.int IntKind.i64 num, Value.int IntKind.i64 side, Value.string text, Value.slice A xs.length c] 33)) (Obj.cells #[Value.int IntKind.i64 k, Value.int IntKind.i64 b, Value.int IntKind.i64 x, Value.int IntKind.i64 num, Value.int IntKind.i64 side, Value.string text, Value.slice A' xs.length c'] 33)
  rw [show (w.alloc (Obj.cells #[Value.int IntKind.i64 k, Value.int IntKind.i64 b, Value.int IntKind.i64 x, Value.int IntKind.i64 num, Value.int IntKind.i64 side, Value.string text, Value.slice A xs.length c] 33)).heap.size = w.heap.size + 1 by simp] at hb2
  generalize ((w.alloc (Obj.cells #[Value.int IntKind.i64 k, Value.int IntKind.i64 b, Value.int IntKind.i64 x, Value.int IntKind.i64 num, Value.int IntKind.i64 side, Value.string text, Value.slice A xs.length c] 33)).alloc (Obj.cells #[Value.int IntKind.i64 k, Value.int IntKind.i64 b, Value.int IntKind.i64 x, Value.int IntKind.i64 num, Value.int IntKind.i64 side, Value.string text, Value.slice A' xs.length c'] 33)) = W at *
  have f3 := fun c : BW W => hb1.at c (j := 3) rfl
  have f4 := fun c : BW W => hb1.at c (j := 4) rfl
  have f5 := fun c : BW W => hb1.at c (j := 5) rfl
  have f6 := fun c : BW W => hb1.at c (j := 6) rfl
  have g3 := fun c : BW W => hb2.at c (j := 3) rfl
  have g4 := fun c : BW W => hb2.at c (j := 4) rfl
  have g5 := fun c : BW W => hb2.at c (j := 5) rfl
  have g6 := fun c : BW W => hb2.at c (j := 6) rfl
  have hw1 := hr.later hbl
  have hw2 := hr'.later hbl
  clear hb1 hb2
  go_wp2_with (first | (go_at_call 34; (with_reducible refine Ret.go (l_eqTable _ _ _) ?_); intro c1) | (go_at_call 35; (with_reducible refine Ret.on (l_eqIntS A A' c c' xs _ (hw1.bw _) (hw2.bw _) hl) ?_); intro c2))
  go_ret
  exact ⟨rfl, bl_bw hbl _⟩
theorem grown_alloc2 {w W : World} {row : Option Nat} (o : Obj) (h : (w.alloc o).grownBy W row) : w.grownBy W row := World.grownBy.trans (World.grownBy_alloc w o row) h
set_option maxHeartbeats 800000 in
theorem l_markClaim (kd b x num side : Int) (text : ByteArray) (v : Value) (xs : List Int) (k base : Nat) (w : World) (ho : w.ownsRow base 3 1 v xs.length (ints xs)) (hl : k + xs.length ≤ 1000000000) :
    Calls Tryd.prog 16 #[.agg (claimV kd b x num side text v), .int .i64 k] w fun e w' => e = .returned (.int .i64 ((k + xs.length : Nat) : Int)) ∧ w'.ownsRow base 3 1 v xs.length (ints (marks k xs.length)) ∧ w.grownBy w' v.ownBlock := by
  unfold claimV
  have hu := Tryd.underlying33
  go_enter Tryd.func16, Tryd.ntmps16
  go_wp2_with (go_at_call 36; refine (l_markIntS v xs k base _ (ho.alloc _) hl).mono ?_; rintro e w2 ⟨rfl, ho2, hg⟩)
  go_ret
  exact ⟨rfl, ho2, grown_alloc2 _ hg⟩
set_option maxHeartbeats 800000 in
theorem l_heldClaim (kd b x num side : Int) (text : ByteArray) (A : Option Addr) (c k n : Nat) (w : World) (hr : RdC w A (ints (marks k n))) (hl : k + n ≤ 1000000000) :
    Ret Tryd.prog 17 #[.agg (claimV kd b x num side text (.slice A n c)), .int .i64 k] w (.int .i64 ((k + n : Nat) : Int)) := by
  unfold Ret claimV
  have hu := Tryd.underlying33
  obtain ⟨q, hq⟩ : ∃ q, q = k + n := ⟨_, rfl⟩
  have hh : ∀ W, Below w.heap.size w W → Ret Tryd.prog 37 #[.slice A n c, .int .i64 k] W (.int .i64 (q : Int)) := fun W hb => by rw [hq]; exact l_heldIntS A c k n W (hr.later hb) hl
  rw [← hq]
  clear hq hr hl
  go_enter Tryd.func17, Tryd.ntmps17
  go_wp2_with (go_at_call 37; (with_reducible refine Ret.go (hh _ (bl_alloc (Below.refl _ _) _)) ?_); intro c2)
  go_ret
  exact ⟨rfl, bl⟩
end Go.Proofs.YtmkgiakngjpfpaaDoor

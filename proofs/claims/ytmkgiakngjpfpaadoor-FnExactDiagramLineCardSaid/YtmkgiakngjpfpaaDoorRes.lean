/- What the functions of restrictions compute: tables out of function values, what is stuck, what depends. No conditions. -/
import Derived.Test.YtmkgiakngjpfpaaDoorTab
import Derived.Test.YtmkgiakngjpfpaaDoorBlk
import Derived.Test.YtmkgiakngjpfpaaDoorDiaM
import Derived.Deep.RegionHeld3
set_option linter.unusedVariables false
set_option linter.unusedSimpArgs false
set_option maxRecDepth 100000
namespace Go.Proofs.YtmkgiakngjpfpaaDoor
open Go.RowKit

/-- A function value tells a predicate on the numbers below m, in every later world. -/
structure Tells (w : World) (fn : FuncId) (caps : Array Value) (m : Nat) (p : Nat → Bool) : Prop where
  enter : ∀ (args : Array Value) (W : World), Sem.run Tryd.prog (callFunc fn args) W = .ok (.enter fn args) W
  tell : ∀ (c : BW w) (x : Nat), x < m → Ret Tryd.prog fn (#[.int .i64 x] ++ caps) c.val (.bool (p x))
theorem Tells.later {w W : World} {fn : FuncId} {caps : Array Value} {m : Nat} {p : Nat → Bool} (h : Tells w fn caps m p) (hb : Below w.heap.size w W) : Tells W fn caps m p :=
  ⟨h.enter, fun c x hx => h.tell ⟨c.val, bl_then hb c.out⟩ x hx⟩
theorem make_func (fn : Fn) (first cap : Array Value) (w : World) : (Instr.makeFunc fn first cap).run Tryd.prog w = .ok (.func fn first cap) w := rfl
theorem Blk.store {w : World} {b : Nat} {cs : Array Value} {t : TypeId} (h : Blk w b cs t) {p : Addr} (u : Value) (hp : p.block ≠ b) : Blk (w.setCell p u) b cs t := by
  unfold Blk
  rw [Below.heap_setCell _ _ _ _ (fun e => hp e.symm)]
  exact h
theorem boxes4 (w : World) (c0 c1 c2 c3 : Array Value) (t0 t1 t2 t3 : TypeId) :
    Blk ((((w.alloc (.cells c0 t0)).alloc (.cells c1 t1)).alloc (.cells c2 t2)).alloc (.cells c3 t3)) w.heap.size c0 t0 ∧ Blk ((((w.alloc (.cells c0 t0)).alloc (.cells c1 t1)).alloc (.cells c2 t2)).alloc (.cells c3 t3)) (w.heap.size + 1) c1 t1 ∧
    Blk ((((w.alloc (.cells c0 t0)).alloc (.cells c1 t1)).alloc (.cells c2 t2)).alloc (.cells c3 t3)) (w.heap.size + 1 + 1) c2 t2 ∧ Blk ((((w.alloc (.cells c0 t0)).alloc (.cells c1 t1)).alloc (.cells c2 t2)).alloc (.cells c3 t3)) (w.heap.size + 1 + 1 + 1) c3 t3 ∧
    Below w.heap.size w ((((w.alloc (.cells c0 t0)).alloc (.cells c1 t1)).alloc (.cells c2 t2)).alloc (.cells c3 t3)) := by
  refine ⟨(((Blk.new _ _ _).alloc _).alloc _).alloc _, ?_, ?_, ?_, bl⟩
  · have := ((Blk.new (w.alloc (.cells c0 t0)) c1 t1).alloc (.cells c2 t2)).alloc (.cells c3 t3)
    rwa [show (w.alloc (.cells c0 t0)).heap.size = w.heap.size + 1 by simp] at this
  · have := (Blk.new ((w.alloc (.cells c0 t0)).alloc (.cells c1 t1)) c2 t2).alloc (.cells c3 t3)
    rwa [show ((w.alloc (.cells c0 t0)).alloc (.cells c1 t1)).heap.size = w.heap.size + 1 + 1 by simp] at this
  · have := Blk.new (((w.alloc (.cells c0 t0)).alloc (.cells c1 t1)).alloc (.cells c2 t2)) c3 t3
    rwa [show (((w.alloc (.cells c0 t0)).alloc (.cells c1 t1)).alloc (.cells c2 t2)).heap.size = w.heap.size + 1 + 1 + 1 by simp] at this
/-- The cells of a block of two that has been written whole. -/
theorem two_set {w : World} {b : Nat} {a0 a1 : Value} {t : TypeId} (h : Blk w b #[a0, a1] t) (x y : Value) :
    (w.setCell ⟨b, 0, none⟩ x).cell? ⟨b, 0, none⟩ = some x ∧ ((w.setCell ⟨b, 0, none⟩ x).setCell ⟨b, 1, none⟩ y).cell? ⟨b, 0, none⟩ = some x ∧ ((w.setCell ⟨b, 0, none⟩ x).setCell ⟨b, 1, none⟩ y).cell? ⟨b, 1, none⟩ = some y := by
  have e1 : Blk (w.setCell ⟨b, 0, none⟩ x) b #[x, a1] t := by have := h.set 0 x; simpa using this
  have e2 : Blk ((w.setCell ⟨b, 0, none⟩ x).setCell ⟨b, 1, none⟩ y) b #[x, y] t := by have := e1.set 1 y; simpa using this
  exact ⟨e1.cell rfl, e2.cell rfl, e2.cell rfl⟩
set_option maxHeartbeats 1600000 in
theorem i_makeTable (n : Nat) (hn : n ≤ 5) (fn : FuncId) (caps : Array Value) (p : Nat → Bool) (w : World) (h : Tells w fn caps (2 ^ n) p) :
    Ret Tryd.prog 138 #[.int .i64 n, .func (.func fn) #[] caps] w (.agg #[.int .i64 n, .int .i64 (mk n p)]) := by
  unfold Ret
  have hu := Tryd.underlying30
  obtain ⟨s, hs⟩ : ∃ s : Nat, s = 2 ^ n := ⟨_, rfl⟩
  have hs16 : s ≤ 32 := by rw [hs]; exact pow_small hn
  have hsh : wrap64 (2 ^ n) = (s : Int) := by rw [hs]; exact shl_one' _ (by omega)
  have HS := Lib.hid hs; clear hs
  have hent := h.enter
  have hstep : ∀ k, mkUpto p (k + 1) = if p k then mkUpto p k ||| 2 ^ k else mkUpto p k := fun k => rfl
  have hmk : mk n p = mkUpto p s := by rw [HS.out]; rfl
  have HK := Lib.hid hmk; have HT := Lib.hid hstep; clear hmk hstep
  go_enter Tryd.func138, Tryd.ntmps138
  go_wp2_with fail
  have hB1 := Blk.new (w.alloc (Obj.cells #[Value.int .i64 0, .int .i64 0] 30)) #[.int .i64 0, .int .i64 0] 30
  have hB2 := Blk.new (w.alloc (Obj.cells #[Value.int .i64 0, .int .i64 0] 30)) #[.int .i64 n, .int .i64 0] 30
  rw [show (w.alloc (Obj.cells #[Value.int .i64 0, .int .i64 0] 30)).heap.size = w.heap.size + 1 by simp] at hB2
  have hB0 := (Blk.new w #[.int .i64 0, .int .i64 0] 30).alloc (Obj.cells #[Value.int .i64 n, .int .i64 0] 30)
  clear hB1
  rw [hsh]
  go_loopw [11] (fun i wr => ∃ k : Nat, k ≤ s ∧ i = .int .i64 k ∧ Blk wr (w.heap.size + 1) #[.int .i64 n, .int .i64 (mkUpto p k)] 30 ∧ Blk wr w.heap.size #[.int .i64 0, .int .i64 0] 30 ∧ Below w.heap.size w wr) (fun i _ => s - (intOf i).toNat)
  case atStart => exact ⟨0, Nat.zero_le _, rfl, hB2, hB0, bl⟩
  case round =>
    obtain ⟨k, hk, rfl, hB, hA, hbl⟩ := hrel
    by_cases hlt : k < s
    · have hsk : wrap64 (2 ^ k) = ((2 ^ k : Nat) : Int) := shl_one' _ (by omega)
      have hmlt : mkUpto p k < 2 ^ 32 := Nat.lt_of_lt_of_le (mkUpto_lt p k) (two_pow_le (by omega))
      have hklt : 2 ^ k < 2 ^ 32 := two_pow_lt (by omega)
      cases hp : p k with
      | true =>
        have hst := HT.out k
        rw [hp, if_pos rfl] at hst
        obtain ⟨q, hq⟩ : ∃ q, q = mkUpto p k := ⟨_, rfl⟩
        obtain ⟨z, hz⟩ : ∃ z, z = 2 ^ k := ⟨_, rfl⟩
        rw [← hq] at hB hmlt hst
        rw [← hz] at hsk hklt hst
        have hor := i64_or q z (by omega) (by omega)
        have HS2 := Lib.hid hst; have HP := Lib.hid hp; have HQ := Lib.hid hq; have HZ := Lib.hid hz; clear hst hp hq hz
        go_wp2_with fail
        refine ((h.later hbl).tell ⟨wr, Below.refl _ _⟩ k (by rw [← HS.out]; exact hlt)).go ?_
        intro c
        rw [HP.out]
        have hcell := hB.all2
        have hfree := hB.frees
        go_wp2_with fail
        go_region
        go_wp2_with fail
        have h1 := ((hB.later c.out).set 1 (.int .i64 ((q ||| z : Nat) : Int))).later (Below.refl _ _).drew
        have h0 := ((hA.later c.out).store (p := ⟨w.heap.size + 1, 1, none⟩) (.int .i64 ((q ||| z : Nat) : Int)) (by simp)).later (Below.refl _ _).drew
        go_roundw
        case rel => exact ⟨k + 1, by omega, by go_num, by rw [HS2.out]; exact h1, h0, (bl_set (bl_then hbl c.out) (by simp)).drew⟩
        case measure => simp [intOf]; omega
      | false =>
        have hst := HT.out k
        rw [hp, if_neg (by simp)] at hst
        have HS2 := Lib.hid hst; have HP := Lib.hid hp; clear hst hp
        go_wp2_with fail
        refine ((h.later hbl).tell ⟨wr, Below.refl _ _⟩ k (by rw [← HS.out]; exact hlt)).go ?_
        intro c
        rw [HP.out]
        go_wp2_with fail
        have h1 := hB.later c.out
        have h0 := hA.later c.out
        go_roundw
        case rel => exact ⟨k + 1, by omega, by go_num, by rw [HS2.out]; exact h1, h0, bl_then hbl c.out⟩
        case measure => simp [intOf]; omega
    · obtain rfl : s = k := by omega
      have hcell := hB.all2 ⟨wr, Below.refl _ _⟩
      have hcell0 := hA.all2 ⟨wr, Below.refl _ _⟩
      have hfree0 := hA.free 0
      have hfree1 := hA.free 1
      have hl := hA.lt
      dsimp only at hcell hcell0
      clear h
      go_wp2_with fail
      have hf1 := ((hA.set 0 (.int .i64 n)).all2 ⟨_, Below.refl _ _⟩).1
      have hf2 := (((hA.set 0 (.int .i64 n)).set 1 (.int .i64 (mkUpto p s))).all2 ⟨_, Below.refl _ _⟩).2
      dsimp only at hf1 hf2
      refine bodyPost_ret (v := .agg #[.int .i64 n, .int .i64 (mk n p)]) (by simp [results, Tryd.results138, go_sem, hf1, hf2, HK.out]) rfl ⟨rfl, ?_⟩
      exact bl_set (bl_set hbl (by simp)) (by simp)
theorem andNot_testBit (x y j : Nat) : (andNot x y).testBit j = (x.testBit j && !y.testBit j) := by unfold andNot; rw [Nat.testBit_xor, Nat.testBit_and]; cases x.testBit j <;> cases y.testBit j <;> rfl
theorem wrap_pow {i : Nat} (hi : i < 62) : IntKind.i64.wrap (2 ^ i) = ((2 ^ i : Nat) : Int) := by
  have : 2 ^ i < 2 ^ 62 := two_pow_lt hi
  rw [show ((2 : Int) ^ i) = ((2 ^ i : Nat) : Int) by simp]
  generalize 2 ^ i = z at *
  exact wrap_i64 _ (by omega) (by omega)
theorem wrap_bit {i b : Nat} (hi : i < 62) (hb : b ≤ 1) : IntKind.i64.wrap ((b : Int) * 2 ^ i) = ((b * 2 ^ i : Nat) : Int) := by
  have h : 2 ^ i < 2 ^ 62 := two_pow_lt hi
  have h2 : b * 2 ^ i ≤ 1 * 2 ^ i := Nat.mul_le_mul_right _ hb
  have h3 := Nat.two_pow_pos i
  rw [show ((2 : Int) ^ i) = ((2 ^ i : Nat) : Int) by simp, ← Int.natCast_mul]
  generalize b * 2 ^ i = y at *
  generalize 2 ^ i = z at *
  exact wrap_i64 _ (by omega) (by omega)
theorem andNot_lt {x y k : Nat} (h : x < 2 ^ k) : andNot x y < 2 ^ k := Nat.lt_pow_two_of_testBit _ fun j hj => by rw [andNot_testBit, Nat.testBit_lt_two_pow (Nat.lt_of_lt_of_le h (two_pow_le hj))]; rfl
theorem put_int {x i b : Nat} (hx : x < 4294967296) (hi : i < 5) (hb : b ≤ 1) :
    bits BinOp.or IntKind.i64 (bits BinOp.andNot IntKind.i64 (↑x) (IntKind.i64.wrap (2 ^ i))) (IntKind.i64.wrap (↑b * 2 ^ i)) = ((put x i b : Nat) : Int) := by
  have h : 2 ^ i < 2 ^ 5 := two_pow_lt hi
  have h2 : b * 2 ^ i ≤ 1 * 2 ^ i := Nat.mul_le_mul_right _ hb
  have h3 : andNot x (2 ^ i) < 2 ^ 32 := andNot_lt (by omega)
  rw [wrap_pow (by omega), wrap_bit (by omega) hb, i64_andNot _ _ (by omega) (by omega), i64_or _ _ (by omega) (by omega)]
  rfl
theorem bit_eq_one (W x : Nat) : (((bitAt W x : Nat) : Int) == 1) = W.testBit x := by unfold bitAt; cases W.testBit x <;> rfl
set_option maxHeartbeats 1600000 in
theorem i_stuck1 (n : Int) (W i b x B0 B1 B2 : Nat) (hW : W < 4294967296) (hi : i < 5) (hb : b ≤ 1) (hx : x < 4294967296) (w : World) (h0 : Blk w B0 #[.int .i64 n, .int .i64 W] 30) (h1 : Blk w B1 #[.int .i64 i] 3) (h2 : Blk w B2 #[.int .i64 b] 3) :
    Ret Tryd.prog 146 #[.int .i64 x, .pointer (some ⟨B0, 0, none⟩), .pointer (some ⟨B1, 0, none⟩), .pointer (some ⟨B2, 0, none⟩)] w (.bool (W.testBit (put x i b))) := by
  unfold Ret
  have hu := Tryd.underlying30
  have hc0 := h0.all2
  have hc1 : ∀ c : BW w, c.val.cell? ⟨B1, 0, none⟩ = some (.int .i64 i) := fun c => h1.at c rfl
  have hc2 : ∀ c : BW w, c.val.cell? ⟨B2, 0, none⟩ = some (.int .i64 b) := fun c => h2.at c rfl
  go_enter Tryd.func146, Tryd.ntmps146
  go_wp2_with fail
  refine wp_region_bw (by kernel_rfl) (by kernel_rfl) ?_
  repeat (quiet_step (first | (go_at_call 91; rw [put_int hx hi hb]; exact (i_at _ _ _ hW _).bw)))
  refine wpQuiet_nil ?_
  intro c
  go_wp2_with fail
  go_ret
  exact ⟨ret_eq (congrArg Value.bool (bit_eq_one _ _)), bl⟩
set_option maxHeartbeats 1600000 in
theorem i_stuck (n W i b : Nat) (hn : n ≤ 5) (hW : W < 2 ^ 2 ^ n) (hi : i < n) (hb : b ≤ 1) (w : World) :
    Ret Tryd.prog 123 #[.agg #[.int .i64 n, .int .i64 W], .int .i64 i, .int .i64 b] w (.agg #[.int .i64 n, .int .i64 (stuckW n W i b)]) := by
  unfold Ret
  have hu := Tryd.underlying30
  have hW' := word_small hn hW
  have hmf := make_func
  go_enter Tryd.func123, Tryd.ntmps123
  go_wp2_with fail
  obtain ⟨hb0, hb1, hb2, hb3, hbl⟩ := boxes4 w #[.int .i64 n, .int .i64 W] #[.int .i64 i] #[.int .i64 b] #[.int .i64 0, .int .i64 0] 30 3 3 30
  have hlt := hb0.lt
  generalize ((((w.alloc (Obj.cells #[Value.int IntKind.i64 ↑n, Value.int IntKind.i64 ↑W] 30)).alloc (Obj.cells #[Value.int IntKind.i64 ↑i] 3)).alloc (Obj.cells #[Value.int IntKind.i64 ↑b] 3)).alloc (Obj.cells #[Value.int IntKind.i64 0, Value.int IntKind.i64 0] 30)) = w1 at *
  have hT : Tells w1 146 #[.pointer (some ⟨w.heap.size, 0, none⟩), .pointer (some ⟨w.heap.size + 1, 0, none⟩), .pointer (some ⟨w.heap.size + 1 + 1, 0, none⟩)] (2 ^ n) fun x => W.testBit (put x i b) :=
    ⟨fun _ _ => rfl, fun c x hx => i_stuck1 n W i b x _ _ _ hW' (by omega) hb (by have := pow_small hn; omega) c.val (hb0.later c.out) (hb1.later c.out) (hb2.later c.out)⟩
  refine (i_makeTable n hn _ _ _ w1 hT).go ?_
  intro c
  have hfr := (hb3.later c.out).free 0
  have hfr1 := (hb3.later c.out).free 1
  have hce := (hb3.later c.out).all2 ⟨_, Below.refl _ _⟩
  have hlt3 := (hb3.later c.out).lt
  obtain ⟨hf1, hf2, hf3⟩ := two_set (hb3.later c.out) (.int .i64 n) (.int .i64 (stuckW n W i b))
  dsimp only at hce
  have HF := Lib.hid (And.intro hf1 (And.intro hf2 hf3)); clear hf1 hf2 hf3
  rw [show mk n (fun x => W.testBit (put x i b)) = stuckW n W i b from rfl]
  go_wp2_with fail
  obtain ⟨hf1, hf2, hf3⟩ := HF.out
  refine bodyPost_ret (v := .agg #[.int .i64 n, .int .i64 (stuckW n W i b)]) (by simp [results, Tryd.results123, go_sem, hf1, hf2, hf3]) rfl ⟨rfl, ?_⟩
  exact bl_set (bl_set (bl_then hbl c.out) (by simp; omega)) (by simp; omega)
/-- x with a bit b put in at place i. -/
def spr (x i b : Nat) : Nat := (x - x % 2 ^ i) * 2 ||| b * 2 ^ i ||| x % 2 ^ i
theorem spr_shift (x i b : Nat) : spr x i b = (x / 2 ^ i) <<< (i + 1) ||| b <<< i ||| x % 2 ^ i := by
  unfold spr
  have h := Nat.div_add_mod x (2 ^ i)
  rw [show x - x % 2 ^ i = 2 ^ i * (x / 2 ^ i) by omega, Nat.shiftLeft_eq, Nat.shiftLeft_eq, Nat.pow_succ, Nat.mul_comm (2 ^ i), Nat.mul_assoc]
theorem spr_testBit {b : Nat} (hb : b ≤ 1) (x i j : Nat) : (spr x i b).testBit j = if j < i then x.testBit j else if i = j then decide (b = 1) else x.testBit (j - 1) := by
  rw [spr_shift, Nat.testBit_or, Nat.testBit_or, Nat.testBit_shiftLeft, Nat.testBit_shiftLeft, Nat.testBit_div_two_pow, Nat.testBit_mod_two_pow]
  have hc : b = 0 ∨ b = 1 := by omega
  by_cases h : j < i
  · have h1 : ¬ i + 1 ≤ j := by omega
    have h2 : ¬ i ≤ j := by omega
    simp [h, h1, h2]
  · by_cases e : i = j
    · subst e
      have h1 : ¬ i + 1 ≤ i := by omega
      rcases hc with rfl | rfl <;> simp [h1]
    · have h1 : i + 1 ≤ j := by omega
      have h2 : i ≤ j := by omega
      have h3 : i + (j - (i + 1)) = j - 1 := by omega
      obtain ⟨m, hm⟩ : ∃ m, j - i = m + 1 := ⟨j - i - 1, by omega⟩
      rcases hc with rfl | rfl <;> simp [h, e, h1, h2, h3, hm, Nat.testBit_succ, Nat.add_comm]
theorem spr_lt {x i b n : Nat} (hx : x < 2 ^ (n - 1)) (hi : i < n) (hb : b ≤ 1) : spr x i b < 2 ^ n :=
  Nat.lt_pow_two_of_testBit _ fun j hj => by
    rw [spr_testBit hb, if_neg (by omega), if_neg (by omega)]
    exact Nat.testBit_lt_two_pow (Nat.lt_of_lt_of_le hx (two_pow_le (by omega)))
/-- x without its bit i. -/
def del (x i : Nat) : Nat := (x / 2 ^ (i + 1)) <<< i ||| x % 2 ^ i
theorem del_testBit (x i j : Nat) : (del x i).testBit j = if j < i then x.testBit j else x.testBit (j + 1) := by
  unfold del
  rw [Nat.testBit_or, Nat.testBit_shiftLeft, Nat.testBit_div_two_pow, Nat.testBit_mod_two_pow]
  by_cases h : j < i
  · have h1 : ¬ i ≤ j := by omega
    simp [h, h1]
  · have h1 : i ≤ j := by omega
    have h2 : j - i + (i + 1) = j + 1 := by omega
    simp [h, h1, h2]
theorem del_lt {x i n : Nat} (hx : x < 2 ^ n) (hi : i < n) : del x i < 2 ^ (n - 1) :=
  Nat.lt_pow_two_of_testBit _ fun j hj => by
    rw [del_testBit, if_neg (by omega)]
    exact Nat.testBit_lt_two_pow (Nat.lt_of_lt_of_le hx (two_pow_le (by omega)))
theorem spr_del {b : Nat} (hb : b ≤ 1) (x i : Nat) : spr (del x i) i b = put x i b := by
  apply Nat.eq_of_testBit_eq
  intro j
  rw [spr_testBit hb, put_testBit hb]
  by_cases h : j < i
  · rw [if_pos h, if_neg (by omega), del_testBit, if_pos h]
  · rw [if_neg h]
    by_cases e : i = j
    · rw [if_pos e, if_pos e]
    · rw [if_neg e, if_neg e, del_testBit, if_neg (by omega), show j - 1 + 1 = j by omega]
theorem put_spr {b c : Nat} (hb : b ≤ 1) (hc : c ≤ 1) (x i : Nat) : put (spr x i c) i b = spr x i b := by
  apply Nat.eq_of_testBit_eq
  intro j
  rw [spr_testBit hb, put_testBit hb]
  by_cases h : j < i
  · rw [if_pos h, if_neg (by omega), spr_testBit hc, if_pos h]
  · rw [if_neg h]
    by_cases e : i = j
    · rw [if_pos e, if_pos e]
    · rw [if_neg e, if_neg e, spr_testBit hc, if_neg h, if_neg e]
/-- The word of W with variable i put to b, of one variable less. -/
def restrW (n W i b : Nat) : Nat := mk (n - 1) fun x => W.testBit (spr x i b)
theorem restr_iff {n W i : Nat} (hi : i < n) : restrW n W i 0 = restrW n W i 1 ↔ dep n W i = false := by
  rw [dep_iff]
  constructor
  · intro h x hx
    have hd := del_lt hx hi
    have h0 : (restrW n W i 0).testBit (del x i) = W.testBit (spr (del x i) i 0) := mk_bit hd
    have h1 : (restrW n W i 1).testBit (del x i) = W.testBit (spr (del x i) i 1) := mk_bit hd
    rw [spr_del (by decide)] at h0 h1
    rw [← h0, ← h1, h]
  · intro h
    refine mk_congr fun x hx => ?_
    have hs := spr_lt (b := 0) hx hi (by decide)
    have := h _ hs
    rwa [put_spr (by decide) (by decide), put_spr (by decide) (by decide)] at this
theorem spr_int {x i b : Nat} (hx : x < 4294967296) (hi : i < 5) (hb : b ≤ 1) :
    bits BinOp.or IntKind.i64 (bits BinOp.or IntKind.i64 (wrap64 (wrap64 (↑x - bits BinOp.and IntKind.i64 (↑x) (wrap64 (wrap64 (2 ^ i) - 1))) * 2)) (wrap64 (↑b * 2 ^ i))) (bits BinOp.and IntKind.i64 (↑x) (wrap64 (wrap64 (2 ^ i) - 1))) = ((spr x i b : Nat) : Int) := by
  have h : 2 ^ i < 2 ^ 5 := two_pow_lt hi
  have h0 := Nat.two_pow_pos i
  have h2 : b * 2 ^ i ≤ 1 * 2 ^ i := Nat.mul_le_mul_right _ hb
  have e1 : wrap64 (wrap64 (2 ^ i) - 1) = ((2 ^ i - 1 : Nat) : Int) := by
    rw [shl_one' i (by omega)]
    generalize 2 ^ i = z at *
    rw [show ((z : Nat) : Int) - 1 = ((z - 1 : Nat) : Int) by omega, wrap64_nat _ (by omega)]
  have e2 : wrap64 (↑b * 2 ^ i) = ((b * 2 ^ i : Nat) : Int) := by
    rw [show ((2 : Int) ^ i) = ((2 ^ i : Nat) : Int) by simp, ← Int.natCast_mul]
    generalize b * 2 ^ i = y at *
    generalize 2 ^ i = z at *
    exact wrap64_nat _ (by omega)
  have hm : x % 2 ^ i ≤ x := Nat.mod_le _ _
  have h5 : x &&& (2 ^ i - 1) = x % 2 ^ i := Nat.and_two_pow_sub_one_eq_mod _ _
  rw [e1, e2, i64_and _ _ (by omega) (by generalize 2 ^ i = z at *; omega), h5]
  unfold spr
  generalize b * 2 ^ i = y at *
  generalize x % 2 ^ i = r at *
  generalize 2 ^ i = z at *
  rw [show (x : Int) - (r : Int) = ((x - r : Nat) : Int) by omega, wrap64_nat _ (by omega), show ((x - r : Nat) : Int) * 2 = (((x - r) * 2 : Nat) : Int) by omega, wrap64_nat _ (by omega)]
  have h6 : (x - r) * 2 ||| y < 2 ^ 40 := Nat.or_lt_two_pow (by omega) (by omega)
  rw [i64_or _ _ (by omega) (by omega), i64_or _ _ (by omega) (by omega)]
set_option maxHeartbeats 800000 in
theorem i_spread (x i b : Nat) (hx : x < 4294967296) (hi : i < 5) (hb : b ≤ 1) (w : World) : Ret Tryd.prog 161 #[.int .i64 x, .int .i64 i, .int .i64 b] w (.int .i64 (spr x i b)) := by
  unfold Ret
  go_enter Tryd.func161, Tryd.ntmps161
  go_wp2
  rw [spr_int hx hi hb]
  go_ret
  exact ⟨rfl, bl⟩
set_option maxHeartbeats 1600000 in
theorem i_restrict1 (n : Int) (W i b x B0 B1 B2 : Nat) (hW : W < 4294967296) (hi : i < 5) (hb : b ≤ 1) (hx : x < 4294967296) (w : World) (h0 : Blk w B0 #[.int .i64 n, .int .i64 W] 30) (h1 : Blk w B1 #[.int .i64 i] 3) (h2 : Blk w B2 #[.int .i64 b] 3) :
    Ret Tryd.prog 160 #[.int .i64 x, .pointer (some ⟨B0, 0, none⟩), .pointer (some ⟨B1, 0, none⟩), .pointer (some ⟨B2, 0, none⟩)] w (.bool (W.testBit (spr x i b))) := by
  unfold Ret
  have hu := Tryd.underlying30
  have hc0 := h0.all2
  have hc1 : ∀ c : BW w, c.val.cell? ⟨B1, 0, none⟩ = some (.int .i64 i) := fun c => h1.at c rfl
  have hc2 : ∀ c : BW w, c.val.cell? ⟨B2, 0, none⟩ = some (.int .i64 b) := fun c => h2.at c rfl
  go_enter Tryd.func160, Tryd.ntmps160
  go_wp2_with fail
  refine wp_region_bw (by kernel_rfl) (by kernel_rfl) ?_
  repeat (quiet_step (first | (go_at_call 161; exact (i_spread _ _ _ hx hi hb _).bw) | (go_at_call 91; exact (i_at _ _ _ hW _).bw)))
  refine wpQuiet_nil ?_
  intro c
  go_wp2_with fail
  go_ret
  exact ⟨ret_eq (congrArg Value.bool (bit_eq_one _ _)), bl⟩
set_option maxHeartbeats 1600000 in
theorem i_restrict (n W i b : Nat) (hn : n ≤ 5) (hW : W < 2 ^ 2 ^ n) (hi : i < n) (hb : b ≤ 1) (w : World) :
    Ret Tryd.prog 145 #[.agg #[.int .i64 n, .int .i64 W], .int .i64 i, .int .i64 b] w (.agg #[.int .i64 ((n - 1 : Nat) : Int), .int .i64 (restrW n W i b)]) := by
  unfold Ret
  have hu := Tryd.underlying30
  have hW' := word_small hn hW
  have hmf := make_func
  have hn1 : (n : Int) - 1 = ((n - 1 : Nat) : Int) := by omega
  obtain ⟨m, hm⟩ : ∃ m, m = n - 1 := ⟨_, rfl⟩
  rw [← hm] at hn1 ⊢
  have hw1 : wrap64 ((n : Int) - 1) = (m : Int) := by rw [hn1]; exact wrap64_nat _ (by omega)
  have HM := Lib.hid hm; clear hm
  go_enter Tryd.func145, Tryd.ntmps145
  go_wp2_with fail
  obtain ⟨hb0, hb1, hb2, hb3, hbl⟩ := boxes4 w #[.int .i64 n, .int .i64 W] #[.int .i64 i] #[.int .i64 b] #[.int .i64 0, .int .i64 0] 30 3 3 30
  have hlt := hb0.lt
  generalize ((((w.alloc (Obj.cells #[Value.int IntKind.i64 ↑n, Value.int IntKind.i64 ↑W] 30)).alloc (Obj.cells #[Value.int IntKind.i64 ↑i] 3)).alloc (Obj.cells #[Value.int IntKind.i64 ↑b] 3)).alloc (Obj.cells #[Value.int IntKind.i64 0, Value.int IntKind.i64 0] 30)) = w1 at *
  have hT : Tells w1 160 #[.pointer (some ⟨w.heap.size, 0, none⟩), .pointer (some ⟨w.heap.size + 1, 0, none⟩), .pointer (some ⟨w.heap.size + 1 + 1, 0, none⟩)] (2 ^ m) fun x => W.testBit (spr x i b) :=
    ⟨fun _ _ => rfl, fun c x hx => i_restrict1 n W i b x _ _ _ hW' (by omega) hb (by have := HM.out; have := pow_small (n := m) (by omega); omega) c.val (hb0.later c.out) (hb1.later c.out) (hb2.later c.out)⟩
  refine (i_makeTable m (by have := HM.out; omega) _ _ _ w1 hT).go ?_
  intro c
  have hfr := (hb3.later c.out).free 0
  have hfr1 := (hb3.later c.out).free 1
  have hce := (hb3.later c.out).all2 ⟨_, Below.refl _ _⟩
  have hlt3 := (hb3.later c.out).lt
  have hq : mk m (fun x => W.testBit (spr x i b)) = restrW n W i b := by unfold restrW; rw [HM.out]
  rw [hq]
  have HQ := Lib.hid hq; clear hq
  obtain ⟨hf1, hf2, hf3⟩ := two_set (hb3.later c.out) (.int .i64 m) (.int .i64 (restrW n W i b))
  dsimp only at hce
  have HF := Lib.hid (And.intro hf1 (And.intro hf2 hf3)); clear hf1 hf2 hf3
  go_wp2_with fail
  obtain ⟨hf1, hf2, hf3⟩ := HF.out
  refine bodyPost_ret (v := .agg #[.int .i64 m, .int .i64 (restrW n W i b)]) (by simp [results, Tryd.results145, go_sem, hf1, hf2, hf3]) rfl ⟨rfl, ?_⟩
  exact bl_set (bl_set (bl_then hbl c.out) (by simp; omega)) (by simp; omega)
theorem eq_guard_tab : Tryd.prog.eqGuardType Tryd.prog.depth 30 = false := by kernel_rfl
theorem run_neq_tab (a b c d : Int) (w : World) : (binOp .neq 30 (.agg #[.int .i64 a, .int .i64 b]) (.agg #[.int .i64 c, .int .i64 d])).run Tryd.prog w = .ok (.bool (!((a == c) && (b == d)))) w := by
  have hu := Tryd.underlying30
  have hu2 := Tryd.underlying3
  have hst : Tryd.prog.stoodInHeld 30 = false := by kernel_rfl
  rw [run_neq_struct, run_equalIn_agg _ 9999 _ _ _ (by simp [Program.fieldsOf, hu]) hst]
  simp [Program.fieldsOf, hu, go_sem, hu2]
  by_cases h1 : a = c <;> by_cases h2 : b = d <;> simp [h1, h2]
set_option maxHeartbeats 1600000 in
theorem i_depends (n W i : Nat) (hn : n ≤ 5) (hW : W < 2 ^ 2 ^ n) (hi : i < n) (w : World) :
    Ret Tryd.prog 122 #[.agg #[.int .i64 n, .int .i64 W], .int .i64 i] w (.bool (dep n W i)) := by
  unfold Ret
  have hu := Tryd.underlying30
  obtain ⟨hc0, hc1⟩ := box2 w (.int .i64 n) (.int .i64 W) 30
  have hq0 : ∀ W', Ret Tryd.prog 145 #[.agg #[.int .i64 n, .int .i64 W], .int .i64 i, .int .i64 0] W' (.agg #[.int .i64 ((n - 1 : Nat) : Int), .int .i64 (restrW n W i 0)]) := fun W' => i_restrict n W i 0 hn hW hi (by decide) W'
  have hq1 : ∀ W', Ret Tryd.prog 145 #[.agg #[.int .i64 n, .int .i64 W], .int .i64 i, .int .i64 1] W' (.agg #[.int .i64 ((n - 1 : Nat) : Int), .int .i64 (restrW n W i 1)]) := fun W' => i_restrict n W i 1 hn hW hi (by decide) W'
  have hst := run_neq_tab
  have heg := eq_guard_tab
  have hd : (!(restrW n W i 0 == restrW n W i 1)) = dep n W i := by
    cases hd : dep n W i with
    | false => rw [(restr_iff hi).2 hd]; simp
    | true =>
      have : restrW n W i 0 ≠ restrW n W i 1 := fun e => by rw [(restr_iff hi).1 e] at hd; cases hd
      simp [this]
  have HD := Lib.hid (show (!((restrW n W i 0 : Int) == (restrW n W i 1 : Int))) = dep n W i by rw [← hd, Bool.eq_iff_iff]; simp; omega); clear hd
  go_enter Tryd.func122, Tryd.ntmps122
  go_wp2_with fail
  refine wp_region_bw (by kernel_rfl) (by kernel_rfl) ?_
  repeat (quiet_step (first | (go_at_call 145; (with_reducible exact (hq0 _).bw)) | (go_at_call 145; (with_reducible exact (hq1 _).bw))))
  refine wpQuiet_nil ?_
  intro c
  go_wp2_with fail
  go_ret
  exact ⟨ret_eq (congrArg Value.bool HD.out), bl⟩
set_option maxHeartbeats 800000 in
theorem i_not (n W : Nat) (hn : n ≤ 5) (hW : W < 2 ^ 2 ^ n) (w : World) : Ret Tryd.prog 110 #[.agg #[.int .i64 n, .int .i64 W]] w (.agg #[.int .i64 n, .int .i64 ((W ^^^ full n : Nat) : Int)]) := by
  unfold Ret
  have hu := Tryd.underlying30
  have hW' := word_small hn hW
  obtain ⟨s, hs⟩ : ∃ s : Nat, s = 2 ^ n := ⟨_, rfl⟩
  have hs32 : s ≤ 32 := by rw [hs]; exact pow_small hn
  obtain ⟨S, hS⟩ : ∃ S : Nat, S = 2 ^ s := ⟨_, rfl⟩
  have hS32 : S ≤ 4294967296 := by rw [hS]; exact two_pow_le hs32
  have hS1 : 1 ≤ S := by rw [hS]; exact Nat.two_pow_pos _
  have e1 : IntKind.i64.wrap (2 ^ s) = (S : Int) := by rw [wrap_pow (by omega), hS]
  have e4 : IntKind.i64.wrap ((S : Int) - 1) = ((S - 1 : Nat) : Int) := by rw [wrap_i64 _ (by omega) (by omega)]; omega
  have e5 := i64_xor W (S - 1) (by omega) (by omega)
  have ef : full n = S - 1 := by unfold full; rw [hS, hs]
  have HS := Lib.hid hs; have HS2 := Lib.hid hS; have HF := Lib.hid ef; clear hs hS ef
  obtain ⟨h0, h1⟩ : Blk ((w.alloc (Obj.cells #[Value.int IntKind.i64 n, Value.int IntKind.i64 W] 30)).alloc (Obj.cells #[Value.int IntKind.i64 0, Value.int IntKind.i64 0] 30)) w.heap.size #[Value.int IntKind.i64 n, Value.int IntKind.i64 W] 30 ∧ Blk ((w.alloc (Obj.cells #[Value.int IntKind.i64 n, Value.int IntKind.i64 W] 30)).alloc (Obj.cells #[Value.int IntKind.i64 0, Value.int IntKind.i64 0] 30)) (w.heap.size + 1) #[Value.int IntKind.i64 0, Value.int IntKind.i64 0] 30 := by
    refine ⟨(Blk.new _ _ _).alloc _, ?_⟩
    have := Blk.new (w.alloc (Obj.cells #[Value.int IntKind.i64 n, Value.int IntKind.i64 W] 30)) #[Value.int IntKind.i64 0, Value.int IntKind.i64 0] 30
    rwa [show (w.alloc (Obj.cells #[Value.int IntKind.i64 n, Value.int IntKind.i64 W] 30)).heap.size = w.heap.size + 1 by simp] at this
  have hc0 := h0.all2
  have hc1 := h1.all2
  have hf1 := h1.frees
  go_enter Tryd.func110, Tryd.ntmps110
  go_wp2_with fail
  have hbl1 : Below w.heap.size w ((w.alloc (Obj.cells #[Value.int IntKind.i64 ↑n, Value.int IntKind.i64 ↑W] 30)).alloc (Obj.cells #[Value.int IntKind.i64 0, Value.int IntKind.i64 0] 30)) := bl
  generalize ((w.alloc (Obj.cells #[Value.int IntKind.i64 ↑n, Value.int IntKind.i64 ↑W] 30)).alloc (Obj.cells #[Value.int IntKind.i64 0, Value.int IntKind.i64 0] 30)) = w1 at *
  have hz0 := (hc0 ⟨w1, Below.refl _ _⟩).1
  have hz1 := (hc0 ⟨w1, Below.refl _ _⟩).2
  dsimp only at hz0 hz1
  clear hc0
  have HB := Lib.hid hbl1; clear hbl1
  have HH := Lib.hid (h1.later (Below.refl _ _).drew); have HH0 := Lib.hid h0; clear h1 h0
  go_region_held3 (fun w' => w'.cell? ⟨w.heap.size, 0, none⟩ = some (.int .i64 n) ∧ w'.cell? ⟨w.heap.size, 1, none⟩ = some (.int .i64 W)) ((first | go_keep | exact ⟨BW.cell _ (by assumption), BW.cell _ (by assumption)⟩)) (first | ((go_at_call 90; refine (i_size n s W hn HS.out _).go ?_; intro c; have hfr := (HH.out.later c.out).free; have hcl := (HH.out.later c.out).all2 ⟨_, Below.refl _ _⟩; dsimp only at hcl)))
  obtain ⟨hf1, hf2, hf3⟩ := two_set (HH.out.later c.out) (.int .i64 n) (.int .i64 ((W ^^^ S - 1 : Nat) : Int))
  have HF2 := Lib.hid (And.intro hf1 (And.intro hf2 hf3)); clear hf1 hf2 hf3
  go_wp2_with fail
  obtain ⟨hf1, hf2, hf3⟩ := HF2.out
  refine bodyPost_ret (v := .agg #[.int .i64 n, .int .i64 ((W ^^^ full n : Nat) : Int)]) (by simp [results, Tryd.results110, go_sem, hf1, hf2, hf3, HF.out]) rfl ⟨rfl, ?_⟩
  exact bl_set (bl_set (bl_bw HB.out.drew c) (by simp)) (by simp)
theorem run_field_tab (a b : Value) (w : World) : (Instr.field 30 (.agg #[a, b]) 1).run Tryd.prog w = .ok b w := by
  have hu := Tryd.underlying30
  simp [Instr.field, hu, go_sem, asAgg]
set_option maxHeartbeats 800000 in
theorem i_isSame (n W : Nat) (hn : n ≤ 5) (hW : W < 2 ^ 2 ^ n) (w : World) : Ret Tryd.prog 108 #[.agg #[.int .i64 n, .int .i64 W]] w (.bool (isConst n W)) := by
  unfold Ret
  have hu := Tryd.underlying30
  have hW' := word_small hn hW
  have hf : full n < 2 ^ 2 ^ n := by unfold full; have := Nat.two_pow_pos (2 ^ n); omega
  have hx : ((W ^^^ full n : Nat) : Int) = 0 ↔ W = full n := by
    constructor
    · intro h
      have : W ^^^ full n = 0 := by omega
      apply Nat.eq_of_testBit_eq
      intro j
      have h2 := congrArg (fun z => Nat.testBit z j) this
      simpa using h2
    · intro h
      rw [h, Nat.xor_self]; rfl
  have hb : ((((W ^^^ full n : Nat) : Int)) == 0) = (W == full n) := by rw [Bool.eq_iff_iff]; simp only [beq_iff_eq]; exact hx
  obtain ⟨hc0, hc1⟩ := box2 w (.int .i64 n) (.int .i64 W) 30
  have HB := Lib.hid hb; clear hb hx hf
  cases h0 : (W == 0) with
  | true =>
    have hw0 : ((W : Int) == 0) = true := by
      have : W = 0 := by simpa using h0
      simp [this]
    have HZ := Lib.hid h0; clear h0
    go_enter Tryd.func108, Tryd.ntmps108
    go_wp2_with fail
    go_ret
    exact ⟨ret_eq (congrArg Value.bool (by unfold isConst; rw [HZ.out]; rfl)), bl⟩
  | false =>
    have hw0 : ((W : Int) == 0) = false := by
      have : W ≠ 0 := by simpa using h0
      simp; omega
    have HZ := Lib.hid h0; clear h0
    have hfl := run_field_tab
    go_enter Tryd.func108, Tryd.ntmps108
    go_wp2_with (go_at_call 110; (with_reducible refine Ret.go (i_not n W hn hW _) ?_); intro c)
    go_ret
    exact ⟨ret_eq (congrArg Value.bool (by unfold isConst; rw [HZ.out, Bool.false_or]; exact HB.out)), bl⟩
/-- Where the first element stands of which a predicate holds, or -1. -/
def idxOf (p : Int → Bool) : List Int → Nat → Int
  | [], _ => -1
  | x :: r, k => if p x then k else idxOf p r (k + 1)
set_option maxHeartbeats 800000 in
theorem slices_IndexFunc (A : Option Addr) (c : Nat) (xs : List Int) (fn : FuncId) (first caps : Array Value) (p : Int → Bool) (w : World) (hr : RdC w A (ints xs)) (hl : xs.length ≤ 1000000)
    (h : ∀ (c : BW w) (x : Int), x ∈ xs → Ret Tryd.prog fn (first ++ #[.int .i64 x] ++ caps) c.val (.bool (p x))) (hent : ∀ (args : Array Value) (W : World), Sem.run Tryd.prog (callFunc fn args) W = .ok (.enter fn args) W) :
    Ret Tryd.prog 121 #[.slice A xs.length c, .func (.func fn) first caps] w (.int .i64 (idxOf p xs 0)) := by
  unfold Ret
  have H := Lib.hid h; clear h
  go_enter Tryd.func121, Tryd.ntmps121
  go_wp2_with fail
  go_loopw [8] (fun i wr => ∃ k : Nat, k ≤ xs.length ∧ i = .int .i64 k ∧ Hid (idxOf p xs 0 = idxOf p (xs.drop k) k) ∧ ∃ cw : BW w, wr = cw.val) (fun i _ => xs.length - (intOf i).toNat)
  case atStart => exact ⟨0, Nat.zero_le _, rfl, Lib.hid rfl, ⟨w, Below.refl _ _⟩, rfl⟩
  case round =>
    obtain ⟨k, hk, rfl, hix, cw, rfl⟩ := hrel
    by_cases hlt : k < xs.length
    · obtain ⟨ad, rfl, hc⟩ := (hr.bw cw).int hlt
      go_wp2_with fail
      refine (H.out cw _ (List.getElem_mem hlt)).on ?_
      intro c2
      have hdrop : xs.drop k = xs[k] :: xs.drop (k + 1) := List.drop_eq_getElem_cons hlt
      rw [hdrop] at hix
      cases hp : p xs[k] with
      | true =>
        have hix2 : Hid (idxOf p xs 0 = k) := Lib.hid (by rw [hix.out]; unfold idxOf; rw [hp]; rfl)
        clear hix hdrop hp
        go_wp2_with fail
        go_ret
        exact ⟨ret_eq (by rw [hix2.out]; rfl), c2.out⟩
      | false =>
        have hix2 : Hid (idxOf p xs 0 = idxOf p (xs.drop (k + 1)) (k + 1)) := Lib.hid (by rw [hix.out, idxOf, hp]; rfl)
        clear hix hdrop hp
        go_wp2_with fail
        go_roundw
        case rel => exact ⟨k + 1, by omega, by go_num, hix2, c2, rfl⟩
        case measure => simp [intOf]; omega
    · obtain rfl : k = xs.length := by omega
      rw [List.drop_length] at hix
      go_wp2_with fail
      go_ret
      exact ⟨ret_eq (by rw [hix.out]; rfl), cw.out⟩
end Go.Proofs.YtmkgiakngjpfpaaDoor

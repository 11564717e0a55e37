/- Words for walks: later worlds, regions whose calls only make memory, what a call returns; 64-bit arithmetic on natural numbers. No conditions. -/
import Derived.Test.YtmkgiakngjpfpaaDoorProg
import Derived.Below
import Derived.OwnWalk
import Derived.Tactics
import Derived.WalkKit
import Derived.KernelRfl
import Derived.RowKit3
import Derived.Deep.QuietTactic
import Derived.BigQuiet
import Derived.WalkSpells
import Derived.WalkLawsBesides
import Derived.Laws.BitsAllLaws
import Derived.Lib.Hide
import Derived.Deep.LoopGhost
set_option linter.unusedVariables false
set_option linter.unusedSimpArgs false
set_option maxRecDepth 100000
namespace Go.Proofs.YtmkgiakngjpfpaaDoor
open Go.RowKit

/-- A later world: w with new blocks, nothing that was there has turned. -/
structure BW (w : World) where
  val : World
  out : Below w.heap.size w val
instance (w : World) : Nonempty (BW w) := ⟨⟨w, Below.refl _ _⟩⟩
instance (w : World) : Inhabited (BW w) := ⟨⟨w, Below.refl _ _⟩⟩
theorem BW.cell {w : World} (c : BW w) {p : Addr} {v : Value} (h : w.cell? p = some v) : c.val.cell? p = some v := (c.out.cell (World.block_lt_of_cell? w p h)).trans h
theorem BW.cell_lt {w : World} (c : BW w) {p : Addr} (h : p.block < w.heap.size) : c.val.cell? p = w.cell? p := c.out.cell h

theorem wp_region_bw {P : Program} {id : Nat} {Q : Exit → Act → World → Prop} {a : Act} {w : World} {l : List Oper} (hm : P.follows .mixedOrders = true) (hB : Region.lexB .any l.toArray = true)
    (h : wpQuiet P l.toArray (fun W => ∃ c : BW w, W = c.val) (fun a' => ∀ c : BW w, Q .normal a' c.val) l a) : (Code.region id l.toArray true).wp P Q a w := by
  refine wp_region_quiet (C := fun W => ∃ c : BW w, W = c.val) hm hB ⟨⟨_, (Below.refl w.heap.size w).drew⟩, rfl⟩ ?_
  have e : (fun a' => ∀ c : BW w, Q .normal a' c.val) = fun a' => ∀ W, (∃ c : BW w, W = c.val) → Q .normal a' W := by
    funext a'; apply propext
    exact ⟨fun h W ⟨c, e⟩ => e ▸ h c, fun h c => h _ ⟨c, rfl⟩⟩
  rw [e] at h
  simpa using h

theorem Calls.bw {P : Program} {f : FuncId} {args : Array Value} {w : World} {c : BW w} {v : Value}
    (h : Calls P f args c.val fun e w' => e = .returned v ∧ Below c.val.heap.size c.val w') : Calls P f args c.val fun e w'' => e = .returned v ∧ ∃ c' : BW w, w'' = c'.val :=
  h.mono fun _ w' ⟨he, hb⟩ => ⟨he, ⟨w', c.out.trans (hb.mono c.out.size)⟩, rfl⟩

/-- f returns v, and leaves what was there as it was. -/
def Ret (P : Program) (f : FuncId) (args : Array Value) (w : World) (v : Value) : Prop := Calls P f args w fun e w' => e = .returned v ∧ Below w.heap.size w w'
theorem Ret.bw {P : Program} {f : FuncId} {args : Array Value} {w : World} {c : BW w} {v : Value} (h : Ret P f args c.val v) : Calls P f args c.val fun e w'' => e = .returned v ∧ ∃ c' : BW w, w'' = c'.val := Calls.bw h
theorem Ret.calls {P : Program} {f : FuncId} {args : Array Value} {w : World} {v : Value} (h : Ret P f args w v) : Calls P f args w fun e w' => e = .returned v ∧ Below w.heap.size w w' := h
/-- Behind a call: what was there reads as before, as a rule for the walk. -/
theorem Ret.go {P : Program} {f : FuncId} {args : Array Value} {w : World} {v : Value} {R : Ending → World → Prop} (h : Ret P f args w v) (k : ∀ c : BW w, R (.returned v) c.val) : Calls P f args w R :=
  h.mono fun e w' ⟨he, hb⟩ => he ▸ k ⟨w', hb⟩
/-- The same from a later world of w: again one of w's. -/
theorem Ret.on {P : Program} {f : FuncId} {args : Array Value} {w : World} {c : BW w} {v : Value} {R : Ending → World → Prop} (h : Ret P f args c.val v) (k : ∀ c' : BW w, R (.returned v) c'.val) : Calls P f args c.val R :=
  h.mono fun e w' ⟨he, hb⟩ => he ▸ k ⟨w', c.out.trans (hb.mono c.out.size)⟩
theorem Ret.onB {P : Program} {f : FuncId} {args : Array Value} {w : World} {c : BW w} {v : Value} {R : Ending → World → Prop} (h : Ret P f args c.val v) (k : ∀ c' : BW w, Below c.val.heap.size c.val c'.val → R (.returned v) c'.val) : Calls P f args c.val R :=
  h.mono fun e w' ⟨he, hb⟩ => he ▸ k ⟨w', c.out.trans (hb.mono c.out.size)⟩ hb
theorem ret_eq {a b : Value} (h : a = b) : Ending.returned a = .returned b := by rw [h]

theorem BW.below {w : World} (c : BW w) : Below w.heap.size w c.val := c.out
/-- Behind later worlds, too: B is at most the first one's size. -/
theorem below_bw {B : Nat} {w W : World} (h : Below B w W) (hB : B ≤ W.heap.size) (c : BW W) : Below B w c.val := h.trans (c.out.mono hB)
theorem BW.size {w : World} (c : BW w) : w.heap.size ≤ c.val.heap.size := c.out.size
theorem BW.frozen_lt {w : World} (c : BW w) {p : Addr} (h : p.block < w.heap.size) : c.val.frozen? p = w.frozen? p := c.out.frozen h

/-! ### 64-bit arithmetic -/
theorem wrap64_nat (a : Nat) (h : a < 9223372036854775808) : wrap64 (a : Int) = a := IntWalk.wrap64_in _ ⟨by omega, by omega⟩
theorem wrap_i64 (n : Int) (h0 : 0 ≤ n) (h : n < 9223372036854775808) : IntKind.i64.wrap n = n := by
  simp [IntKind.wrap, IntKind.bits, IntKind.signed]
  omega
theorem ofInt_i64 (a : Nat) (ha : a < 9223372036854775808) : (BitVec.ofInt 64 (a : Int)).toNat = a := by
  rw [BitVec.ofInt_natCast, BitVec.toNat_ofNat]; exact Nat.mod_eq_of_lt (by omega)
theorem i64_and (a b : Nat) (ha : a < 9223372036854775808) (hb : b < 9223372036854775808) : bits .and .i64 (a : Int) (b : Int) = ((a &&& b : Nat) : Int) := by
  have hx : a &&& b < 2 ^ 63 := Nat.and_lt_two_pow _ (by omega)
  show IntKind.i64.wrap ((BitVec.ofInt 64 (a : Int) &&& BitVec.ofInt 64 (b : Int)).toNat : Int) = _
  rw [BitVec.toNat_and, ofInt_i64 a ha, ofInt_i64 b hb]
  exact wrap_i64 _ (by omega) (by omega)
theorem i64_or (a b : Nat) (ha : a < 9223372036854775808) (hb : b < 9223372036854775808) : bits .or .i64 (a : Int) (b : Int) = ((a ||| b : Nat) : Int) := by
  have hx : a ||| b < 2 ^ 63 := Nat.or_lt_two_pow (by omega) (by omega)
  show IntKind.i64.wrap ((BitVec.ofInt 64 (a : Int) ||| BitVec.ofInt 64 (b : Int)).toNat : Int) = _
  rw [BitVec.toNat_or, ofInt_i64 a ha, ofInt_i64 b hb]
  exact wrap_i64 _ (by omega) (by omega)
theorem i64_xor (a b : Nat) (ha : a < 9223372036854775808) (hb : b < 9223372036854775808) : bits .xor .i64 (a : Int) (b : Int) = ((a ^^^ b : Nat) : Int) := by
  have hx : a ^^^ b < 2 ^ 63 := Nat.xor_lt_two_pow (by omega) (by omega)
  show IntKind.i64.wrap ((BitVec.ofInt 64 (a : Int) ^^^ BitVec.ofInt 64 (b : Int)).toNat : Int) = _
  rw [BitVec.toNat_xor, ofInt_i64 a ha, ofInt_i64 b hb]
  exact wrap_i64 _ (by omega) (by omega)
/-- The bits of a that b does not have. -/
def andNot (a b : Nat) : Nat := a ^^^ (a &&& b)
theorem i64_andNot (a b : Nat) (ha : a < 9223372036854775808) (hb : b < 9223372036854775808) : bits .andNot .i64 (a : Int) (b : Int) = (andNot a b : Int) := by
  show IntKind.i64.wrap ((BitVec.ofInt 64 (a : Int) &&& ~~~BitVec.ofInt 64 (b : Int)).toNat : Int) = _
  have e : BitVec.ofInt 64 (a : Int) &&& ~~~BitVec.ofInt 64 (b : Int) = BitVec.ofInt 64 (a : Int) ^^^ (BitVec.ofInt 64 (a : Int) &&& BitVec.ofInt 64 (b : Int)) := by
    ext i hi; simp only [BitVec.getElem_and, BitVec.getElem_not, BitVec.getElem_xor]; cases (BitVec.ofInt 64 (a : Int))[i] <;> cases (BitVec.ofInt 64 (b : Int))[i] <;> rfl
  rw [e, BitVec.toNat_xor, BitVec.toNat_and, ofInt_i64 a ha, ofInt_i64 b hb]
  have hx : a ^^^ (a &&& b) < 2 ^ 63 := Nat.xor_lt_two_pow (by omega) (Nat.and_lt_two_pow _ (by omega))
  exact wrap_i64 _ (by omega) (by omega)
/-- a >> b, as the walk spells it. -/
theorem shr_nat (a b : Nat) (ha : a < 9223372036854775808) : (a : Int) / 2 ^ min ((b : Int)).toNat 64 = ((a >>> b : Nat) : Int) := by
  rw [Int.toNat_natCast, Nat.shiftRight_eq_div_pow]
  rcases Nat.lt_or_ge b 64 with h | h
  · rw [Nat.min_eq_left (by omega)]; simp
  · rw [Nat.min_eq_right h, Nat.div_eq_of_lt (Nat.lt_of_lt_of_le ha (Nat.le_trans (by decide : 9223372036854775808 ≤ 2 ^ 64) (Nat.pow_le_pow_right (by decide) h)))]
    omega
theorem shr_nat' (a b : Nat) : (a : Int) / 2 ^ b = ((a >>> b : Nat) : Int) := by rw [Nat.shiftRight_eq_div_pow]; simp
theorem shl_one' (b : Nat) (hb : b < 63) : wrap64 (2 ^ b) = ((2 ^ b : Nat) : Int) := by
  have : 2 ^ b ≤ 2 ^ 62 := Nat.pow_le_pow_right (by decide) (by omega)
  have e : ((2 : Int) ^ b) = ((2 ^ b : Nat) : Int) := by simp
  rw [e]
  exact wrap64_nat _ (by omega)
/-- 1 << b, as the walk spells it. -/
theorem shl_one (b : Nat) (hb : b < 63) : wrap64 (2 ^ min ((b : Int)).toNat 64) = ((2 ^ b : Nat) : Int) := by
  rw [Int.toNat_natCast, Nat.min_eq_left (by omega)]
  have : 2 ^ b ≤ 2 ^ 62 := Nat.pow_le_pow_right (by decide) (by omega)
  have e : ((2 : Int) ^ b) = ((2 ^ b : Nat) : Int) := by simp
  rw [e]
  exact wrap64_nat _ (by omega)
end Go.Proofs.YtmkgiakngjpfpaaDoor

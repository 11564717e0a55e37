/- Blocks of memory known whole. No conditions. -/
import Derived.Test.YtmkgiakngjpfpaaDoorSlice
set_option linter.unusedVariables false
set_option linter.unusedSimpArgs false
set_option maxRecDepth 100000
namespace Go.Proofs.YtmkgiakngjpfpaaDoor
open Go.RowKit

/-- A block known whole. -/
def Blk (w : World) (b : Nat) (cs : Array Value) (t : TypeId) : Prop := w.heap[b]? = some (.cells cs t (0, 0))
theorem Blk.lt {w : World} {b : Nat} {cs : Array Value} {t : TypeId} (h : Blk w b cs t) : b < w.heap.size := (Array.getElem?_eq_some_iff.1 h).1
theorem Blk.later {w W : World} {b : Nat} {cs : Array Value} {t : TypeId} (h : Blk w b cs t) (hb : Below w.heap.size w W) : Blk W b cs t := (hb.block b h.lt).trans h
theorem Blk.grown {w W : World} {b : Nat} {cs : Array Value} {t : TypeId} (h : Blk w b cs t) {row : Option Nat} (hg : w.grownBy W row) (hne : some b ≠ row) : Blk W b cs t := (hg.block b h.lt hne).trans h
theorem Blk.new (w : World) (cs : Array Value) (t : TypeId) : Blk (w.alloc (.cells cs t)) w.heap.size cs t := heap_alloc_new w _
theorem Blk.alloc {w : World} {b : Nat} {cs : Array Value} {t : TypeId} (h : Blk w b cs t) (o : Obj) : Blk (w.alloc o) b cs t := h.later ((Below.refl _ _).alloc (Nat.le_refl _) o)
theorem Blk.cell {w : World} {b : Nat} {cs : Array Value} {t : TypeId} (h : Blk w b cs t) {j : Nat} {v : Value} (hj : cs[j]? = some v) : w.cell? ⟨b, j, none⟩ = some v := by
  unfold World.cell?
  rw [h]
  simpa using hj
theorem Blk.at {w : World} {b : Nat} {cs : Array Value} {t : TypeId} (h : Blk w b cs t) (c : BW w) {j : Nat} {v : Value} (hj : cs[j]? = some v) : c.val.cell? ⟨b, j, none⟩ = some v := c.cell (h.cell hj)

theorem Blk.rd1 {w : World} {b : Nat} {v : Value} {t : TypeId} (h : Blk w b #[v] t) {i : Nat} {u : Value} (hi : [v][i]? = some u) : w.cell? ((⟨b, 0, none⟩ : Addr).add i) = some u := by
  rw [add0]
  exact h.cell (by simpa using hi)
theorem Blk.free {w : World} {b : Nat} {cs : Array Value} {t : TypeId} (h : Blk w b cs t) (j : Nat) : w.frozen? ⟨b, j, none⟩ = false := by
  unfold World.frozen?
  rw [h]
  simp
theorem Blk.frees {w : World} {b : Nat} {cs : Array Value} {t : TypeId} (h : Blk w b cs t) : ∀ (c : BW w) (j : Nat), c.val.frozen? ⟨b, j, none⟩ = false := fun c j => (h.later c.out).free j
theorem Blk.all2 {w : World} {b : Nat} {a0 a1 : Value} {t : TypeId} (h : Blk w b #[a0, a1] t) : ∀ c : BW w, c.val.cell? ⟨b, 0, none⟩ = some a0 ∧ c.val.cell? ⟨b, 1, none⟩ = some a1 := fun c => ⟨h.at c rfl, h.at c rfl⟩
theorem Blk.all3 {w : World} {b : Nat} {a0 a1 a2 : Value} {t : TypeId} (h : Blk w b #[a0, a1, a2] t) : ∀ c : BW w, c.val.cell? ⟨b, 0, none⟩ = some a0 ∧ c.val.cell? ⟨b, 1, none⟩ = some a1 ∧ c.val.cell? ⟨b, 2, none⟩ = some a2 := fun c => ⟨h.at c rfl, h.at c rfl, h.at c rfl⟩
theorem Blk.all7 {w : World} {b : Nat} {a0 a1 a2 a3 a4 a5 a6 : Value} {t : TypeId} (h : Blk w b #[a0, a1, a2, a3, a4, a5, a6] t) :
    ∀ c : BW w, c.val.cell? ⟨b, 0, none⟩ = some a0 ∧ c.val.cell? ⟨b, 1, none⟩ = some a1 ∧ c.val.cell? ⟨b, 2, none⟩ = some a2 ∧ c.val.cell? ⟨b, 3, none⟩ = some a3 ∧ c.val.cell? ⟨b, 4, none⟩ = some a4 ∧ c.val.cell? ⟨b, 5, none⟩ = some a5 ∧ c.val.cell? ⟨b, 6, none⟩ = some a6 :=
  fun c => ⟨h.at c rfl, h.at c rfl, h.at c rfl, h.at c rfl, h.at c rfl, h.at c rfl, h.at c rfl⟩
/-- A boxed table and a result's seven cells behind it. -/
theorem twoBoxes (w : World) (a b : Value) (t u : TypeId) (a0 a1 a2 a3 a4 a5 a6 : Value) :
    Blk ((w.alloc (.cells #[a, b] t)).alloc (.cells #[a0, a1, a2, a3, a4, a5, a6] u)) w.heap.size #[a, b] t ∧ Blk ((w.alloc (.cells #[a, b] t)).alloc (.cells #[a0, a1, a2, a3, a4, a5, a6] u)) (w.heap.size + 1) #[a0, a1, a2, a3, a4, a5, a6] u := by
  refine ⟨(Blk.new _ _ _).alloc _, ?_⟩
  have := Blk.new (w.alloc (.cells #[a, b] t)) #[a0, a1, a2, a3, a4, a5, a6] u
  rwa [show (w.alloc (.cells #[a, b] t)).heap.size = w.heap.size + 1 by simp] at this
theorem two_lt {w : World} {o o' : Obj} (c : BW ((w.alloc o).alloc o')) : w.heap.size + 1 < c.val.heap.size := Nat.lt_of_succ_le (by simpa using c.out.size)
theorem below_two {w : World} {o o' : Obj} (c : BW ((w.alloc o).alloc o')) : Below w.heap.size w c.val := bl_bw (bl_alloc (bl_alloc (Below.refl _ _) o) o') c
theorem Blk.set {w : World} {b : Nat} {cs : Array Value} {t : TypeId} (h : Blk w b cs t) (j : Nat) (v : Value) : Blk (w.setCell ⟨b, j, none⟩ v) b (cs.setIfInBounds j v) t := by
  unfold Blk World.setCell
  have h' : w.heap[b]? = some (.cells cs t (0, 0)) := h
  simp only [Array.getElem?_modify, h']
  simp
/-- Seven cells of one block written. -/
def set7 (w : World) (b : Nat) (a0 a1 a2 a3 a4 a5 a6 : Value) : World :=
  (((((((w.setCell ⟨b, 0, none⟩ a0).setCell ⟨b, 1, none⟩ a1).setCell ⟨b, 2, none⟩ a2).setCell ⟨b, 3, none⟩ a3).setCell ⟨b, 4, none⟩ a4).setCell ⟨b, 5, none⟩ a5).setCell ⟨b, 6, none⟩ a6)
theorem set7_blk {w : World} {b : Nat} {c0 c1 c2 c3 c4 c5 c6 : Value} {t : TypeId} (h : Blk w b #[c0, c1, c2, c3, c4, c5, c6] t) (a0 a1 a2 a3 a4 a5 a6 : Value) : Blk (set7 w b a0 a1 a2 a3 a4 a5 a6) b #[a0, a1, a2, a3, a4, a5, a6] t := by
  have h0 : Blk (w.setCell ⟨b, 0, none⟩ a0) b #[a0, c1, c2, c3, c4, c5, c6] t := by have := h.set 0 a0; simpa using this
  have h1 : Blk ((w.setCell ⟨b, 0, none⟩ a0).setCell ⟨b, 1, none⟩ a1) b #[a0, a1, c2, c3, c4, c5, c6] t := by have := h0.set 1 a1; simpa using this
  have h2 : Blk (((w.setCell ⟨b, 0, none⟩ a0).setCell ⟨b, 1, none⟩ a1).setCell ⟨b, 2, none⟩ a2) b #[a0, a1, a2, c3, c4, c5, c6] t := by have := h1.set 2 a2; simpa using this
  have h3 : Blk ((((w.setCell ⟨b, 0, none⟩ a0).setCell ⟨b, 1, none⟩ a1).setCell ⟨b, 2, none⟩ a2).setCell ⟨b, 3, none⟩ a3) b #[a0, a1, a2, a3, c4, c5, c6] t := by have := h2.set 3 a3; simpa using this
  have h4 : Blk (((((w.setCell ⟨b, 0, none⟩ a0).setCell ⟨b, 1, none⟩ a1).setCell ⟨b, 2, none⟩ a2).setCell ⟨b, 3, none⟩ a3).setCell ⟨b, 4, none⟩ a4) b #[a0, a1, a2, a3, a4, c5, c6] t := by have := h3.set 4 a4; simpa using this
  have h5 : Blk ((((((w.setCell ⟨b, 0, none⟩ a0).setCell ⟨b, 1, none⟩ a1).setCell ⟨b, 2, none⟩ a2).setCell ⟨b, 3, none⟩ a3).setCell ⟨b, 4, none⟩ a4).setCell ⟨b, 5, none⟩ a5) b #[a0, a1, a2, a3, a4, a5, c6] t := by have := h4.set 5 a5; simpa using this
  have h6 : Blk (((((((w.setCell ⟨b, 0, none⟩ a0).setCell ⟨b, 1, none⟩ a1).setCell ⟨b, 2, none⟩ a2).setCell ⟨b, 3, none⟩ a3).setCell ⟨b, 4, none⟩ a4).setCell ⟨b, 5, none⟩ a5).setCell ⟨b, 6, none⟩ a6) b #[a0, a1, a2, a3, a4, a5, a6] t := by have := h5.set 6 a6; simpa using this
  exact h6
theorem set7_own {w : World} {b : Nat} {base : Nat} {e : TypeId} {size n : Nat} {v : Value} {xs : List Value} (h : w.ownsRow base e size v n xs) (hb : b < base) (a0 a1 a2 a3 a4 a5 a6 : Value) : (set7 w b a0 a1 a2 a3 a4 a5 a6).ownsRow base e size v n xs :=
  have hne := own_far h hb
  own_set (own_set (own_set (own_set (own_set (own_set (own_set h _ hne) _ hne) _ hne) _ hne) _ hne) _ hne) _ hne
theorem set7_below {w W : World} {b : Nat} (h : Below w.heap.size w W) (hb : w.heap.size ≤ b) (a0 a1 a2 a3 a4 a5 a6 : Value) : Below w.heap.size w (set7 W b a0 a1 a2 a3 a4 a5 a6) :=
  bl_set (bl_set (bl_set (bl_set (bl_set (bl_set (bl_set h hb) hb) hb) hb) hb) hb) hb
end Go.Proofs.YtmkgiakngjpfpaaDoor

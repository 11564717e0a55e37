/- Slices that are read, and rows that a call owns, as lists. No conditions. -/
import Derived.Test.YtmkgiakngjpfpaaDoorKit
import Derived.Maps.AppendAt
import Derived.Lib.SliceRun
import Derived.Laws.AppendOwnNone
import Derived.Laws.CopyOwn
import Derived.Deep.OwnRows
set_option linter.unusedVariables false
set_option linter.unusedSimpArgs false
set_option maxRecDepth 100000
namespace Go.Proofs.YtmkgiakngjpfpaaDoor
open Go.RowKit

/-- What lies from the slice's head on. -/
def RdC (w : World) (A : Option Addr) (cs : List Value) : Prop := 0 < cs.length → ∃ ad, A = some ad ∧ ∀ i v, cs[i]? = some v → w.cell? (ad.add i) = some v
def ints (xs : List Int) : List Value := xs.map (Value.int .i64)
theorem ints_length (xs : List Int) : (ints xs).length = xs.length := by simp [ints]
theorem RdC.later {w W : World} {A : Option Addr} {cs : List Value} (h : RdC w A cs) (hb : Below w.heap.size w W) : RdC W A cs := fun hp => by
  obtain ⟨ad, e, hc⟩ := h hp
  exact ⟨ad, e, fun i v hi => (hb.cell (World.block_lt_of_cell? w _ (hc i v hi))).trans (hc i v hi)⟩
theorem RdC.bw {w : World} {A : Option Addr} {cs : List Value} (h : RdC w A cs) (c : BW w) : RdC c.val A cs := h.later c.out
theorem RdC.int {w : World} {A : Option Addr} {xs : List Int} (h : RdC w A (ints xs)) {i : Nat} (hi : i < xs.length) : ∃ ad, A = some ad ∧ w.cell? (ad.add i) = some (.int .i64 (xs.getD i 0)) := by
  obtain ⟨ad, e, hc⟩ := h (by rw [ints_length]; omega)
  exact ⟨ad, e, hc i _ (by simp [ints, hi, List.getD_eq_getElem?_getD])⟩

/-! ### Below: the last step -/
theorem bl_alloc {w W : World} (h : Below w.heap.size w W) (o : Obj) : Below w.heap.size w (W.alloc o) := h.alloc h.size o
theorem bl_bw {w W : World} (h : Below w.heap.size w W) (c : BW W) : Below w.heap.size w c.val := h.trans (c.out.mono h.size)
theorem bl_set {w W : World} (h : Below w.heap.size w W) {p : Addr} {u : Value} (hp : w.heap.size ≤ p.block) : Below w.heap.size w (W.setCell p u) := h.setCell hp u
theorem bl_then {w W V : World} (h : Below w.heap.size w W) (k : Below W.heap.size W V) : Below w.heap.size w V := h.trans (k.mono h.size)
/-- What stands before the call is as it was: by the steps. -/
theorem bl {w W : World} (h : Below w.heap.size w W := by
    repeat (first
      | (with_reducible exact Below.refl _ _) | (with_reducible apply bl_alloc) | (with_reducible apply bl_bw) | (with_reducible apply Below.drew)
      | (with_reducible refine bl_set ?_ (by first | omega | (simp; done) | (simp; omega))) | assumption)) : Below w.heap.size w W := h

/-! ### Rows that a call owns -/
theorem grown_of_bl {w w1 : World} (h : Below w.heap.size w w1) (row : Option Nat) : w.grownBy w1 row := ⟨h.os, h.tape, h.output, h.size, fun i hi _ => h.block i hi⟩
theorem own_later {w w1 : World} {base : Nat} {e : TypeId} {size n : Nat} {v : Value} {xs : List Value} (h : w.ownsRow base e size v n xs) (hb : Below w.heap.size w w1) : w1.ownsRow base e size v n xs :=
  h.kept (grown_of_bl hb none) (by cases v.ownBlock <;> simp)
theorem own_bw {w : World} {base : Nat} {e : TypeId} {size n : Nat} {v : Value} {xs : List Value} (h : w.ownsRow base e size v n xs) (c : BW w) : c.val.ownsRow base e size v n xs := own_later h c.out
theorem own_mono {w : World} {base base' : Nat} {e : TypeId} {size n : Nat} {v : Value} {xs : List Value} (h : w.ownsRow base e size v n xs) (hb : base' ≤ base) : w.ownsRow base' e size v n xs := by
  refine ⟨h.1, ?_⟩
  rcases h.2 with h0 | ⟨g, cap, cur, hv, hg, r⟩
  · exact .inl h0
  · exact .inr ⟨g, cap, cur, hv, by omega, r⟩
/-- What is owned is read. -/
theorem own_rd {w : World} {base n : Nat} {e : TypeId} {size : Nat} {v : Value} {xs : List Value} (h : w.ownsRow base e size v n xs) : ∃ A c, v = .slice A n c ∧ RdC w A xs := by
  rcases h.2 with ⟨rfl, rfl⟩ | ⟨g, cap, cur, rfl, _⟩
  · have h1 : xs.length = 0 := by simpa using h.1
    exact ⟨none, 0, rfl, fun hp => by omega⟩
  · exact ⟨_, cap, rfl, fun _ => ⟨_, rfl, fun i u hi => h.cells rfl i u hi⟩⟩
/-- append(s, xs...): s the call's own. -/
theorem ap_own {P : Program} {ops : Array Oper} {rest : List Oper} {o : Oper} {a : Act} {Q : Exit → Act → World → Prop} {w0 w : World} (base : Nat) (hgd : o.guard = none) (s x : Operand) (t e : TypeId) (z : Value) (size bytes : Nat)
    (ho : o.op = .call { callee := .builtin .append, args := #[s, x], argTypes := #[t, t] })
    (ht : P.underlying t = some (.slice e)) (hinfo : (P.info? e).map (fun i => (i.zero, i.size, i.bytes)) = some (some z, size, bytes)) (hz : z.cells.size = size) (hs0 : 0 < size) (hb0 : 0 < bytes)
    (v : Value) (n : Nat) (xs : List Value) (hs : a.eval s = v) (hown : w.ownsRow base e size v n xs)
    (ad : Addr) (m c : Nat) (news : List Value) (hx : a.eval x = .slice (some ad) m c) (hl : news.length = m * size) (hnews : RdC w (some ad) news) (h1 : ∀ u ∈ news, u.oneCell' = true)
    (hbytes : (n + m) * bytes ≤ 140737488355328) (hbase : base ≤ w.heap.size) (HB : Below base w0 w)
    (h : ∀ v' w', w'.ownsRow base e size v' (n + m) (xs ++ news) → Below base w0 w' → w.grownBy w' v.ownBlock → (v'.ownBlock = v.ownBlock ∨ v'.ownBlock = some w.heap.size) → wpList P ops Q rest (a.put o.dst v') w') :
    wpList P ops Q (o :: rest) a w := by
  obtain ⟨i0, hi, hzz⟩ := Option.map_eq_some_iff.1 hinfo
  simp only [Prod.mk.injEq] at hzz
  obtain ⟨hz0, hz1, hz2⟩ := hzz
  have hlen : n + m ≤ 140737488355328 := Nat.le_trans (Nat.le_mul_of_pos_right _ hb0) hbytes
  refine wpList_append_own_at w hgd s x t ho base e i0 z size bytes ht hi hz0 hz1 hz2 hz hs0 v n xs hs hown ad m c news hx hl ?_ h1 (by simp only [maxLen]; omega) hbytes hbase ?_
  · intro j u hj
    obtain ⟨ad', e, hc⟩ := hnews (by have := (List.getElem?_eq_some_iff.1 hj).1; omega)
    cases e
    exact hc j u hj
  · intro v' w' ho' hg _ hat
    exact h v' w' ho' (HB.grown hg hbase fun k hk => (hown.lt k hk).1) hg hat
theorem ints_append (xs ys : List Int) : ints (xs ++ ys) = ints xs ++ ints ys := by simp [ints]
theorem ints_one (xs : List Int) : ∀ u ∈ ints xs, u.oneCell' = true := by
  intro u hu
  obtain ⟨x, _, rfl⟩ := List.mem_map.1 hu
  rfl
theorem info_int : (Tryd.prog.info? 3).map (fun i => (i.zero, i.size, i.bytes)) = some (some (.int .i64 0), 1, 8) := by kernel_rfl
/-- f returns a new slice of whole numbers. -/
def RetI (f : FuncId) (args : Array Value) (w : World) (xs : List Int) : Prop := Calls Tryd.prog f args w fun e w' => ∃ v, e = .returned v ∧ w'.ownsRow w.heap.size 3 1 v xs.length (ints xs) ∧ Below w.heap.size w w'

theorem addz (ad : Addr) : ad.add 0 = ad := by unfold Addr.add; split <;> simp_all
theorem add_off (ad : Addr) (i j : Nat) (h : 0 < j) : ad.add (i + j) = ⟨(ad.add i).block, (ad.add i).off + j, none⟩ := by
  unfold Addr.add
  rw [if_neg (by omega)]
  by_cases e : i = 0
  · subst e; simp
  · simp [e]; omega
theorem add0 (g j : Nat) : (⟨g, 0, none⟩ : Addr).add j = ⟨g, j, none⟩ := by unfold Addr.add; split <;> simp_all
theorem size_int : (Tryd.prog.info? 3).map (·.size) = some 1 := by kernel_rfl
theorem made_cells (n : Nat) : madeCells #[Value.int .i64 0] n = (ints (List.replicate n 0)).toArray := by
  apply Array.toList_inj.1
  rw [toList_madeCells_one]
  simp [ints]
theorem splice_first (n : Nat) (x : Int) (h : 0 < n) : splice (ints (List.replicate n 0)) 0 (ints [x]) = ints (List.replicate 1 x ++ List.replicate (n - 1) 0) := by
  obtain ⟨m, rfl⟩ : ∃ m, n = m + 1 := ⟨n - 1, by omega⟩
  simp [splice, ints, List.replicate_succ]
theorem splice_next (n k m : Nat) (x : Int) (hm : k + m ≤ n) : splice (ints (List.replicate k x ++ List.replicate (n - k) 0)) k (ints (List.replicate m x)) = ints (List.replicate (k + m) x ++ List.replicate (n - (k + m)) 0) := by
  unfold splice ints
  rw [List.map_append, List.take_left' (by simp), List.drop_append]
  simp only [List.length_map, List.length_replicate]
  rw [List.drop_of_length_le (by simp), List.nil_append, show k + m - k = m by omega, List.map_replicate, List.map_replicate, List.map_replicate, List.drop_replicate, List.map_append, List.map_replicate, List.map_replicate, ← List.append_assoc, List.replicate_append_replicate, show n - k - m = n - (k + m) by omega]


/-! ### A row of whole numbers of the call's own, known whole -/
def Row (w : World) (g : Nat) (xs : List Int) : Prop := w.heap[g]? = some (.cells (ints xs).toArray 3 (0, 0))
theorem Row.lt {w : World} {g : Nat} {xs : List Int} (h : Row w g xs) : g < w.heap.size := (Array.getElem?_eq_some_iff.1 h).1
theorem Row.cell {w : World} {g : Nat} {xs : List Int} (h : Row w g xs) {i : Nat} (hi : i < xs.length) : w.cell? ⟨g, i, none⟩ = some (.int .i64 (xs.getD i 0)) := by
  unfold World.cell?
  rw [h]
  simp [ints, hi, List.getD_eq_getElem?_getD]
theorem Row.free {w : World} {g : Nat} {xs : List Int} (h : Row w g xs) (i : Nat) : w.frozen? ⟨g, i, none⟩ = false := by
  unfold World.frozen?
  rw [h]
  simp
theorem Row.set {w : World} {g : Nat} {xs : List Int} (h : Row w g xs) (i : Nat) (a : Int) : Row (w.setCell ⟨g, i, none⟩ (.int .i64 a)) g (xs.set i a) := by
  unfold Row World.setCell
  have h' : w.heap[g]? = some (.cells (ints xs).toArray 3 (0, 0)) := h
  simp only [Array.getElem?_modify, h']
  simp [ints, List.map_set]
theorem Row.later {w W : World} {g : Nat} {xs : List Int} (h : Row w g xs) (hb : Below w.heap.size w W) : Row W g xs := (hb.block g h.lt).trans h
theorem Row.bw {w : World} {g : Nat} {xs : List Int} (h : Row w g xs) (c : BW w) : Row c.val g xs := h.later c.out
theorem Row.rd {w : World} {g : Nat} {xs : List Int} (h : Row w g xs) : RdC w (some ⟨g, 0, none⟩) (ints xs) := fun _ => ⟨_, rfl, fun i v hi => by
  rw [add0]
  unfold World.cell?
  rw [h]
  simpa using hi⟩
theorem Row.own {w : World} {g base : Nat} {xs : List Int} (h : Row w g xs) (hb : base ≤ g) (hl : xs.length ≤ 1000000) : w.ownsRow base 3 1 (.slice (some ⟨g, 0, none⟩) xs.length xs.length) xs.length (ints xs) :=
  ⟨by rw [ints_length, Nat.mul_one], .inr ⟨g, xs.length, _, rfl, hb, h, Nat.le_refl _, by simp only [maxLen]; omega, by simp [ints], by simp only [ints, Nat.mul_one]; exact List.take_of_length_le (by simp)⟩⟩
theorem Row.make (w : World) (n : Nat) : Row (w.alloc (.cells (madeCells #[.int .i64 0] n) 3)) w.heap.size (List.replicate n 0) := by
  rw [made_cells]; exact heap_alloc_new _ _
/-- A store into a block from w's size on: a later world of w's again. -/
theorem BW.set {w : World} (c : BW w) {p : Addr} (u : Value) (hp : w.heap.size ≤ p.block) : ∃ c' : BW w, c'.val = c.val.setCell p u := ⟨⟨_, c.out.setCell hp u⟩, rfl⟩
theorem BW.alloc {w : World} (c : BW w) (o : Obj) : ∃ c' : BW w, c'.val = c.val.alloc o := ⟨⟨_, c.out.alloc c.out.size o⟩, rfl⟩
theorem BW.drew {w : World} (c : BW w) : ∃ c' : BW w, c'.val = c.val.drew := ⟨⟨_, c.out.drew⟩, rfl⟩
theorem BW.drewN {w : World} (c : BW w) (n : Nat) : ∃ c' : BW w, c'.val = c.val.drewN n := ⟨⟨c.val.drewN n, ⟨c.out.os, c.out.tape, c.out.output, c.out.size, c.out.block⟩⟩, rfl⟩
theorem own_set {w : World} {base : Nat} {e : TypeId} {size n : Nat} {v : Value} {xs : List Value} (h : w.ownsRow base e size v n xs) {g i : Nat} (u : Value) (hne : v.ownBlock ≠ some g) : (w.setCell ⟨g, i, none⟩ u).ownsRow base e size v n xs :=
  h.kept (row := some g) ⟨rfl, rfl, rfl, by simp [World.setCell], fun k hk hne' => Below.heap_setCell _ _ _ _ (fun e => hne' (by rw [e]))⟩ (.inr hne)
theorem own_lt {w : World} {base : Nat} {e : TypeId} {size n : Nat} {v : Value} {xs : List Value} (h : w.ownsRow base e size v n xs) {g : Nat} (hg : w.heap.size ≤ g) : v.ownBlock ≠ some g := fun e => by have := (h.lt g e).2; omega
/-- f returns a new row. -/
def RetOwn (f : FuncId) (args : Array Value) (w : World) (e : TypeId) (size n : Nat) (cs : List Value) : Prop := Calls Tryd.prog f args w fun en w' => ∃ v, en = .returned v ∧ w'.ownsRow w.heap.size e size v n cs ∧ Below w.heap.size w w'
theorem RetOwn.onB {f : FuncId} {args : Array Value} {w : World} {c : BW w} {e : TypeId} {size n : Nat} {cs : List Value} {R : Ending → World → Prop} (h : RetOwn f args c.val e size n cs)
    (k : ∀ (c' : BW w) (v : Value), c'.val.ownsRow c.val.heap.size e size v n cs → Below c.val.heap.size c.val c'.val → R (.returned v) c'.val) : Calls Tryd.prog f args c.val R :=
  h.mono fun en w' ⟨v, he, ho, hb⟩ => he ▸ k ⟨w', c.out.trans (hb.mono c.out.size)⟩ v ho hb
/-- f returns a new slice of whole numbers, all of its row. -/
def RetRow (f : FuncId) (args : Array Value) (w : World) (xs : List Int) : Prop := Calls Tryd.prog f args w fun e w' => ∃ g, w.heap.size ≤ g ∧ e = .returned (.slice (some ⟨g, 0, none⟩) xs.length xs.length) ∧ Row w' g xs ∧ Below w.heap.size w w'
theorem own_far {w : World} {base : Nat} {e : TypeId} {size n : Nat} {v : Value} {xs : List Value} (h : w.ownsRow base e size v n xs) {g : Nat} (hg : g < base) : v.ownBlock ≠ some g := fun e => by have := (h.lt g e).1; omega
/-- A boxed pair, in every later world. -/
theorem box2 (w : World) (a b : Value) (t : TypeId) : (∀ c : BW (w.alloc (.cells #[a, b] t)), c.val.cell? ⟨w.heap.size, 0, none⟩ = some a) ∧ (∀ c : BW (w.alloc (.cells #[a, b] t)), c.val.cell? ⟨w.heap.size, 1, none⟩ = some b) :=
  ⟨fun c => c.cell (by go_simp), fun c => c.cell (by go_simp)⟩
theorem box_lt {w : World} {o : Obj} (c : BW (w.alloc o)) : w.heap.size < c.val.heap.size := Nat.lt_of_succ_le (by simpa using c.out.size)
theorem below_box {w : World} {o : Obj} (c : BW (w.alloc o)) : Below w.heap.size w c.val := bl_bw (bl_alloc (Below.refl _ _) o) c
end Go.Proofs.YtmkgiakngjpfpaaDoor

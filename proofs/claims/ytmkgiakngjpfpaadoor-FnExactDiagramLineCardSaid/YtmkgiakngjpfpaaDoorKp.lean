/- What a call leaves as it was when it writes into blocks that it was handed: all old blocks but those. No conditions. -/
import Derived.Test.YtmkgiakngjpfpaaDoorBlk
set_option linter.unusedVariables false
set_option linter.unusedSimpArgs false
set_option maxRecDepth 100000
namespace Go.Proofs.YtmkgiakngjpfpaaDoor
open Go.RowKit

/-- w' is w with new blocks, and with whatever has come of the blocks X. -/
structure Kp (X : Nat → Prop) (w w' : World) : Prop where
  os : w'.os = w.os
  tape : w'.tape = w.tape
  output : w'.output = w.output
  size : w.heap.size ≤ w'.heap.size
  block : ∀ i, i < w.heap.size → ¬ X i → w'.heap[i]? = w.heap[i]?
theorem Kp.refl (X : Nat → Prop) (w : World) : Kp X w w := ⟨rfl, rfl, rfl, Nat.le_refl _, fun _ _ _ => rfl⟩
theorem Kp.of_below {X : Nat → Prop} {w w' : World} (h : Below w.heap.size w w') : Kp X w w' := ⟨h.os, h.tape, h.output, h.size, fun i hi _ => h.block i hi⟩
theorem Kp.of_grown {X : Nat → Prop} {w w' : World} {row : Option Nat} (h : w.grownBy w' row) (hr : ∀ k, row = some k → X k) : Kp X w w' :=
  ⟨h.os, h.tape, h.output, h.size, fun i hi hx => h.block i hi fun e => hx (hr i e.symm)⟩
theorem Kp.trans {X Y : Nat → Prop} {a b c : World} (h : Kp X a b) (k : Kp Y b c) (hs : ∀ i, i < a.heap.size → Y i → X i) : Kp X a c :=
  ⟨k.os.trans h.os, k.tape.trans h.tape, k.output.trans h.output, Nat.le_trans h.size k.size, fun i hi hx => (k.block i (Nat.lt_of_lt_of_le hi h.size) fun hy => hx (hs i hi hy)).trans (h.block i hi hx)⟩
theorem Kp.mono {X Y : Nat → Prop} {a b : World} (h : Kp X a b) (hs : ∀ i, i < a.heap.size → X i → Y i) : Kp Y a b :=
  ⟨h.os, h.tape, h.output, h.size, fun i hi hy => h.block i hi fun hx => hy (hs i hi hx)⟩
theorem Kp.then {X : Nat → Prop} {a b c : World} (h : Kp X a b) (k : Below b.heap.size b c) : Kp X a c := h.trans (Kp.of_below (X := X) k) fun _ _ x => x
theorem Kp.bw {X : Nat → Prop} {a b : World} (h : Kp X a b) (c : BW b) : Kp X a c.val := h.then c.out
theorem Kp.drew {X : Nat → Prop} {a b : World} (h : Kp X a b) : Kp X a b.drew := h.then (Below.refl _ _).drew
theorem Kp.alloc {X : Nat → Prop} {a b : World} (h : Kp X a b) (o : Obj) : Kp X a (b.alloc o) := h.then (bl_alloc (Below.refl _ _) o)
theorem Kp.set {X : Nat → Prop} {a b : World} (h : Kp X a b) {p : Addr} (u : Value) (hp : p.block < a.heap.size → X p.block) : Kp X a (b.setCell p u) :=
  h.trans (Y := fun i => i = p.block) ⟨rfl, rfl, rfl, by simp [World.setCell], fun i _ hx => Below.heap_setCell _ _ _ _ hx⟩ (fun i hi e => by subst e; exact hp hi)
theorem Kp.below {X : Nat → Prop} {w w' : World} (h : Kp X w w') {B : Nat} (hB : B ≤ w.heap.size) (hX : ∀ i, i < w.heap.size → X i → B ≤ i) : Below B w w' :=
  ⟨h.os, h.tape, h.output, h.size, fun i hi => h.block i (by omega) fun hx => by have := hX i (by omega) hx; omega⟩
theorem Kp.cell {X : Nat → Prop} {w w' : World} (h : Kp X w w') {p : Addr} {v : Value} (hc : w.cell? p = some v) (hx : ¬ X p.block) : w'.cell? p = some v :=
  (World.cell?_of_block (h.block _ (World.block_lt_of_cell? w p hc) hx)).trans hc
theorem Blk.kp {X : Nat → Prop} {w w' : World} {b : Nat} {cs : Array Value} {t : TypeId} (hb : Blk w b cs t) (h : Kp X w w') (hx : ¬ X b) : Blk w' b cs t := (h.block b hb.lt hx).trans hb
theorem RdC.kp {X : Nat → Prop} {w w' : World} {A : Option Addr} {cs : List Value} (hr : RdC w A cs) (h : Kp X w w') (hx : ∀ ad, A = some ad → ¬ X ad.block) : RdC w' A cs := fun hp => by
  obtain ⟨ad, e, hc⟩ := hr hp
  refine ⟨ad, e, fun i v hi => h.cell (hc i v hi) ?_⟩
  have : (ad.add i).block = ad.block := by unfold Addr.add; split <;> rfl
  rw [this]
  exact hx ad e
theorem own_kp {X : Nat → Prop} {w w' : World} {base : Nat} {e : TypeId} {size n : Nat} {v : Value} {xs : List Value} (ho : w.ownsRow base e size v n xs) (h : Kp X w w') (hx : ∀ k, v.ownBlock = some k → ¬ X k) : w'.ownsRow base e size v n xs := by
  refine ⟨ho.1, ?_⟩
  rcases ho.2 with h0 | ⟨g, cap, cur, rfl, hg, hh, r⟩
  · exact .inl h0
  · exact .inr ⟨g, cap, cur, rfl, hg, (h.block g (Array.getElem?_eq_some_iff.1 hh).1 (hx g rfl)).trans hh, r⟩
theorem own_at {w : World} {base : Nat} {e : TypeId} {size n : Nat} {v : Value} {xs : List Value} (ho : w.ownsRow base e size v n xs) {k : Nat} (h : v.ownBlock = some k) : base ≤ k ∧ k < w.heap.size := by
  rcases ho.2 with ⟨rfl, _⟩ | ⟨g, cap, cur, rfl, hg, hh, r⟩
  · cases h
  · cases h
    exact ⟨hg, (Array.getElem?_eq_some_iff.1 hh).1⟩
/-- An own row's block, as an address for reading. -/
theorem own_rd' {w : World} {base n : Nat} {e : TypeId} {size : Nat} {v : Value} {xs : List Value} (h : w.ownsRow base e size v n xs) : ∃ A c, v = .slice A n c ∧ RdC w A xs ∧ (∀ ad, A = some ad → v.ownBlock = some ad.block) := by
  rcases h.2 with ⟨rfl, rfl⟩ | ⟨g, cap, cur, rfl, _⟩
  · have h1 : xs.length = 0 := by simpa using h.1
    exact ⟨none, 0, rfl, fun hp => by omega, fun _ e => by cases e⟩
  · exact ⟨_, cap, rfl, fun _ => ⟨_, rfl, fun i u hi => h.cells rfl i u hi⟩, fun ad e => by cases e; rfl⟩
theorem Kp.frozen {X : Nat → Prop} {w w' : World} (h : Kp X w w') {p : Addr} (hl : p.block < w.heap.size) (hx : ¬ X p.block) : w'.frozen? p = w.frozen? p := World.frozen?_of_block (h.block _ hl hx)
/-- append(s, xs...) onto an own row, and what stands behind it. -/
theorem ap_kp {P : Program} {ops : Array Oper} {rest : List Oper} {o : Oper} {a : Act} {Q : Exit → Act → World → Prop} {w : World} (base : Nat) (hgd : o.guard = none) (s x : Operand) (t e : TypeId) (z : Value) (size bytes : Nat)
    (ho : o.op = .call { callee := .builtin .append, args := #[s, x], argTypes := #[t, t] })
    (ht : P.underlying t = some (.slice e)) (hinfo : (P.info? e).map (fun i => (i.zero, i.size, i.bytes)) = some (some z, size, bytes)) (hz : z.cells.size = size) (hs0 : 0 < size) (hb0 : 0 < bytes)
    (v : Value) (n : Nat) (xs : List Value) (hs : a.eval s = v) (hown : w.ownsRow base e size v n xs)
    (ad : Addr) (m c : Nat) (news : List Value) (hx : a.eval x = .slice (some ad) m c) (hl : news.length = m * size) (hnews : RdC w (some ad) news) (h1 : ∀ u ∈ news, u.oneCell' = true)
    (hbytes : (n + m) * bytes ≤ 140737488355328) (hbase : base ≤ w.heap.size)
    (h : ∀ v' w', w'.ownsRow base e size v' (n + m) (xs ++ news) → Kp (fun i => v.ownBlock = some i) w w' → (v'.ownBlock = v.ownBlock ∨ v'.ownBlock = some w.heap.size) → wpList P ops Q rest (a.put o.dst v') w') :
    wpList P ops Q (o :: rest) a w := by
  refine ap_own (w0 := w) base hgd s x t e z size bytes ho ht hinfo hz hs0 hb0 v n xs hs hown ad m c news hx hl hnews h1 hbytes hbase (Below.refl _ _) ?_
  intro v' w' ho' _ hg hat
  exact h v' w' ho' (Kp.of_grown hg fun k e => e) hat
/-- append(s, xs...) onto an own row, at a step of a region that draws its order. -/
theorem step_ap {P : Program} {ops : Array Oper} {o : Oper} {a : Act} {K : Act → World → Prop} {Q : Exit → Act → World → Prop} {E : Prop} {w0 w : World} (base : Nat) (hgd : o.guard = none) (s x : Operand) (t e : TypeId) (z : Value) (size bytes : Nat)
    (ho : o.op = .call { callee := .builtin .append, args := #[s, x], argTypes := #[t, t] })
    (ht : P.underlying t = some (.slice e)) (hinfo : (P.info? e).map (fun i => (i.zero, i.size, i.bytes)) = some (some z, size, bytes)) (hz : z.cells.size = size) (hs0 : 0 < size) (hb0 : 0 < bytes)
    (v : Value) (n : Nat) (xs : List Value) (hs : a.eval s = v) (hown : w.ownsRow base e size v n xs)
    (ad : Addr) (m c : Nat) (news : List Value) (hne : v.ownBlock ≠ none ∨ 0 < m) (hx : a.eval x = .slice (some ad) m c) (hl : news.length = m * size) (hnews : RdC w (some ad) news) (h1 : ∀ u ∈ news, u.oneCell' = true)
    (hbytes : (n + m) * bytes ≤ 140737488355328) (hbase : base ≤ w.heap.size) (HB : Below base w0 w)
    (h : ∀ g cap w', w'.ownsRow base e size (.slice (some ⟨g, 0, none⟩) (n + m) cap) (n + m) (xs ++ news) → Below base w0 w' → Kp (fun i => v.ownBlock = some i) w w' → (v.ownBlock = some g ∨ g = w.heap.size) → g < w'.heap.size → K (a.put o.dst (.slice (some ⟨g, 0, none⟩) (n + m) cap)) w') :
    if Region.wanted o (yielded ops a.tmps) = true then Oper.wp P o a w K Q else E := by
  obtain ⟨i0, hi, hzz⟩ := Option.map_eq_some_iff.1 hinfo
  simp only [Prod.mk.injEq] at hzz
  obtain ⟨hz0, hz1, hz2⟩ := hzz
  have hlen : n + m ≤ 140737488355328 := Nat.le_trans (Nat.le_mul_of_pos_right _ hb0) hbytes
  have hw : Region.wanted o (yielded ops a.tmps) = true := by simp [Region.wanted, hgd]
  rw [if_pos hw]
  obtain ⟨v', w', hr, h2, h3, h4, h5⟩ := run_append_own_at (P := P) w base t o.type e i0 z size bytes ht hi hz0 hz1 hz2 hz hs0 v n xs hown ad m c news hl (fun j u hj => by
    obtain ⟨ad', e, hc⟩ := hnews (by have := (List.getElem?_eq_some_iff.1 hj).1; omega)
    cases e
    exact hc j u hj) h1 (by simp only [maxLen]; omega) hbytes hbase
  have hnn : v'.ownBlock ≠ none := by
    intro hn
    rcases h2.2 with ⟨rfl, hn0⟩ | ⟨g, cap, cur, rfl, _⟩
    · have := (h4.1 rfl)
      rcases hne with h | h
      · rw [this.1] at h; exact h rfl
      · omega
    · cases hn
  have hat : ∃ g cap, v' = .slice (some ⟨g, 0, none⟩) (n + m) cap ∧ g < w'.heap.size := by
    rcases h2.2 with ⟨rfl, _⟩ | ⟨g, cap, cur, rfl, _, hh, _⟩
    · exact absurd rfl hnn
    · exact ⟨g, cap, rfl, (Array.getElem?_eq_some_iff.1 hh).1⟩
  obtain ⟨g, cap, rfl, hg⟩ := hat
  unfold Oper.wp execOp
  simp only [ho, resolve, invoke, builtin, Sem.run_bind, Sem.run_pure, Result.andThen_ok, List.map_toArray, List.map_cons, List.map_nil, hs, hx, hr]
  refine h g cap w' h2 (HB.grown h3 hbase fun k hk => (hown.lt k hk).1) (Kp.of_grown h3 fun k e => e) ?_ hg
  rcases h5 with h | h
  · exact .inl h.symm
  · exact .inr (by simpa [Value.ownBlock] using h)
theorem own_pos {w : World} {base : Nat} {e : TypeId} {size n : Nat} {v : Value} {xs : List Value} (ho : w.ownsRow base e size v n xs) (h : xs ≠ []) : ∃ g c, v = .slice (some ⟨g, 0, none⟩) n c ∧ base ≤ g ∧ g < w.heap.size := by
  rcases ho.2 with ⟨rfl, rfl⟩ | ⟨g, cap, cur, rfl, hg, hh, r⟩
  · have h1 := ho.1
    simp at h1
    exact absurd h1 h
  · exact ⟨g, cap, rfl, hg, (Array.getElem?_eq_some_iff.1 hh).1⟩
end Go.Proofs.YtmkgiakngjpfpaaDoor

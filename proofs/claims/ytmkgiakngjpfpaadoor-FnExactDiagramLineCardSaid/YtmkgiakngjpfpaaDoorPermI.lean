/- The orders of n variables, as the program lists them. No conditions. -/
import Derived.Test.YtmkgiakngjpfpaaDoorPermS
import Derived.ArgAppend
import Derived.Lib.JoinLaws
import Derived.Deep.RegionHeld3
import Derived.Deep.RegionLaw
import Derived.Deep.DeepCutAuto
set_option linter.unusedVariables false
set_option linter.unusedSimpArgs false
set_option maxRecDepth 100000
namespace Go.Proofs.YtmkgiakngjpfpaaDoor
open Go.RowKit

/-- append(s, x) where there is room: in place. -/
theorem ap_place {P : Program} {ops : Array Oper} {rest : List Oper} {o : Oper} {a : Act} {Q : Exit → Act → World → Prop} {w : World} (hgd : o.guard = none) (s x : Operand) (t e : TypeId) (z : Value) (bytes : Nat)
    (ho : o.op = .call { callee := .builtin .append, args := #[s, x], argTypes := #[t, t] })
    (ht : P.underlying t = some (.slice e)) (hinfo : (P.info? e).map (fun i => (i.zero, i.size, i.bytes)) = some (some z, 1, bytes))
    (b n cap : Nat) (hs : a.eval s = .slice (some ⟨b, 0, none⟩) n cap) (hroom : n < cap) (hcell : ∃ u, w.cell? ⟨b, n, none⟩ = some u) (hfree : w.frozen? ⟨b, n, none⟩ = false)
    (ad : Addr) (c : Nat) (u : Value) (hx : a.eval x = .slice (some ad) 1 c) (hnew : w.cell? ad = some u) (h1 : u.oneCell' = true)
    (h : wpList P ops Q rest (a.put o.dst (.slice (some ⟨b, 0, none⟩) (n + 1) cap)) (w.setCell ⟨b, n, none⟩ u)) :
    wpList P ops Q (o :: rest) a w := by
  obtain ⟨i0, hi, hzz⟩ := Option.map_eq_some_iff.1 hinfo
  simp only [Prod.mk.injEq] at hzz
  obtain ⟨hz0, hz1, hz2⟩ := hzz
  have add_zero : ad.add 0 = ad := by unfold Addr.add; split <;> simp_all
  refine wpList_plain hgd fun K hK => ?_
  have hr := run_append_room_cells (P := P) w t o.type e i0 ht hi b 0 n cap ad 1 c [u] (by simp [hz1]) (fun j v hj => by
      match j, hj with
      | 0, hj => simp at hj; subst hj; rw [add_zero]; exact hnew
      | j + 1, hj => simp at hj) (by simpa using h1) (by omega) (fun j hj => by
      have : j = 0 := by simpa using hj
      subst this
      obtain ⟨v, hv⟩ := hcell
      simp [hz1, hv]) (fun j hj => by
      have : j = 0 := by simpa using hj
      subst this
      simp [hz1, hfree])
  unfold Oper.wp execOp
  simp only [ho, resolve, invoke, builtin, Sem.run_bind, Sem.run_pure, Result.andThen_ok, List.map_toArray, List.map_cons, List.map_nil, hs, hx, hr]
  refine hK _ _ ?_
  have e2 : w.setCells b (0 + n * i0.size) [u] = w.setCell ⟨b, n, none⟩ u := by simp [World.setCells, hz1]
  rw [e2]
  exact h
theorem make_fn (fn : Fn) (first cap : Array Value) (w : World) : (Instr.makeFunc fn first cap).run Tryd.prog w = .ok (.func fn first cap) w := rfl
def usedA (n : Nat) (p : List Nat) : Array Value := ((List.range n).map fun i => Value.bool (decide (i ∈ p))).toArray
theorem usedA_get {n j : Nat} (h : j < n) (p : List Nat) : (usedA n p)[j]? = some (.bool (decide (j ∈ p))) := by simp [usedA, h]
theorem usedA_yes {n j : Nat} (p : List Nat) : (usedA n p).setIfInBounds j (.bool true) = usedA n (p ++ [j]) := by
  apply Array.ext_getElem?
  intro i
  rw [Array.getElem?_setIfInBounds]
  simp only [usedA, List.getElem?_toArray, List.getElem?_map, List.size_toArray, List.length_map, List.length_range, List.mem_append, List.mem_singleton]
  by_cases hi : i < n
  · by_cases e : j = i
    · subst e; simp [hi]
    · have e' : ¬ i = j := fun x => e x.symm
      simp [hi, e, e']
  · by_cases e : j = i
    · subst e; simp [hi]
    · simp [hi, e]
theorem usedA_no {n j : Nat} {p : List Nat} (hj : j ∉ p) : (usedA n (p ++ [j])).setIfInBounds j (.bool false) = usedA n p := by
  apply Array.ext_getElem?
  intro i
  rw [Array.getElem?_setIfInBounds]
  simp only [usedA, List.getElem?_toArray, List.getElem?_map, List.size_toArray, List.length_map, List.length_range, List.mem_append, List.mem_singleton]
  by_cases hi : i < n
  · by_cases e : j = i
    · subst e; simp [hi, hj]
    · have e' : ¬ i = j := fun x => e x.symm
      simp [hi, e, e']
  · by_cases e : j = i
    · subst e; simp [hi]
    · simp [hi, e]
theorem Blk.setOther {w : World} {b : Nat} {cs : Array Value} {t : TypeId} (h : Blk w b cs t) {p : Addr} (u : Value) (hp : p.block ≠ b) : Blk (w.setCell p u) b cs t := by
  unfold Blk
  rw [Below.heap_setCell _ _ _ _ (fun e => hp e.symm)]
  exact h
theorem RowsOf.set {w : World} {base : Nat} {vs : List Value} {ps : List (List Nat)} (h : RowsOf w base vs ps) {g i : Nat} (u : Value) (hg : g < base) : RowsOf (w.setCell ⟨g, i, none⟩ u) base vs ps :=
  ⟨h.1, fun j v p hv hp => own_set (h.2 j v p hv hp) _ (own_far (h.2 j v p hv hp) hg)⟩
/-- What the program holds while it lists orders. -/
structure PCore (n B : Nat) (w : World) (us : Array Value) (lst : List Int) (bxv : Value) (out : List (List Nat)) (vo : Value) (vs : List Value) : Prop where
  bn : Blk w B #[.int .i64 n] 3
  bo : Blk w (B + 1) #[vo] 86
  bl : Row w (B + 2) lst
  bx : Blk w (B + 3) #[bxv] 31
  bu : Blk w (B + 4) us 4
  bv : Blk w (B + 5) #[.slice (some ⟨B + 4, 0, none⟩) n n] 136
  bg : Blk w (B + 6) #[.func (.func 116) #[] #[.pointer (some ⟨B + 3, 0, none⟩), .pointer (some ⟨B, 0, none⟩), .pointer (some ⟨B + 1, 0, none⟩), .pointer (some ⟨B + 5, 0, none⟩), .pointer (some ⟨B + 6, 0, none⟩)]] 1
  own : w.ownsRow (B + 7) 31 1 vo out.length vs
  rows : RowsOf w (B + 7) vs out
  off : Off vs vo
section
variable {n B : Nat} {w : World} {us : Array Value} {lst : List Int} {bxv : Value} {out : List (List Nat)} {vo : Value} {vs : List Value}
theorem PCore.later {W : World} (h : PCore n B w us lst bxv out vo vs) (hb : Below w.heap.size w W) : PCore n B W us lst bxv out vo vs :=
  ⟨h.bn.later hb, h.bo.later hb, h.bl.later hb, h.bx.later hb, h.bu.later hb, h.bv.later hb, h.bg.later hb, own_later h.own hb, h.rows.later hb, h.off⟩
theorem PCore.setU (h : PCore n B w us lst bxv out vo vs) (j : Nat) (v : Value) : PCore n B (w.setCell ⟨B + 4, j, none⟩ v) (us.setIfInBounds j v) lst bxv out vo vs :=
  ⟨h.bn.setOther _ (by simp), h.bo.setOther _ (by simp), Blk.setOther (p := ⟨B + 4, j, none⟩) h.bl _ (by simp), h.bx.setOther _ (by simp), h.bu.set j v, h.bv.setOther _ (by simp), h.bg.setOther _ (by simp), own_set h.own _ (own_far h.own (by omega)), h.rows.set _ (by omega), h.off⟩
theorem PCore.setL (h : PCore n B w us lst bxv out vo vs) (i : Nat) (a : Int) : PCore n B (w.setCell ⟨B + 2, i, none⟩ (.int .i64 a)) us (lst.set i a) bxv out vo vs :=
  ⟨h.bn.setOther _ (by simp), h.bo.setOther _ (by simp), h.bl.set i a, h.bx.setOther _ (by simp), h.bu.setOther _ (by simp), h.bv.setOther _ (by simp), h.bg.setOther _ (by simp), own_set h.own _ (own_far h.own (by omega)), h.rows.set _ (by omega), h.off⟩
theorem PCore.setX (h : PCore n B w us lst bxv out vo vs) (v : Value) : PCore n B (w.setCell ⟨B + 3, 0, none⟩ v) us lst v out vo vs :=
  ⟨h.bn.setOther _ (by simp), h.bo.setOther _ (by simp), Blk.setOther (p := ⟨B + 3, 0, none⟩) h.bl _ (by simp), by have := h.bx.set 0 v; simpa using this, h.bu.setOther _ (by simp), h.bv.setOther _ (by simp), h.bg.setOther _ (by simp), own_set h.own _ (own_far h.own (by omega)), h.rows.set _ (by omega), h.off⟩
/-- What a walk reads of it. -/
theorem PCore.reads (h : PCore n B w us lst bxv out vo vs) : w.cell? ⟨B, 0, none⟩ = some (.int .i64 n) ∧ w.cell? ⟨B + 1, 0, none⟩ = some vo ∧ w.cell? ⟨B + 3, 0, none⟩ = some bxv ∧ w.frozen? ⟨B + 3, 0, none⟩ = false ∧
    w.cell? ⟨B + 5, 0, none⟩ = some (.slice (some ⟨B + 4, 0, none⟩) n n) ∧ w.cell? ⟨B + 6, 0, none⟩ = some (.func (.func 116) #[] #[.pointer (some ⟨B + 3, 0, none⟩), .pointer (some ⟨B, 0, none⟩), .pointer (some ⟨B + 1, 0, none⟩), .pointer (some ⟨B + 5, 0, none⟩), .pointer (some ⟨B + 6, 0, none⟩)]) ∧ B + 6 < w.heap.size :=
  ⟨h.bn.cell rfl, h.bo.cell rfl, h.bx.cell rfl, h.bx.free 0, h.bv.cell rfl, h.bg.cell rfl, h.bg.lt⟩
end
structure PSt (n B : Nat) (w : World) (p : List Nat) (out : List (List Nat)) (vo : Value) (vs : List Value) (lst : List Int) : Prop where
  core : PCore n B w (usedA n p) lst (.slice (some ⟨B + 2, 0, none⟩) p.length n) out vo vs
  ll : lst.length = n
  lt : lst.take p.length = natI p
theorem growTo_le {n : Nat} (hn : n ≤ 4) (k : Nat) (p : List Nat) : ∀ j, j ≤ n → (growTo n k p j).length ≤ j * 4 ^ k := by
  intro j
  induction j with
  | zero => intro _; simp [growTo]
  | succ j ih =>
    intro hj
    rw [growTo_step, List.length_append, Nat.succ_mul]
    have h1 := ih (by omega)
    have h2 := grow_length_le n hn k (p ++ [j])
    split
    · simp only [List.length_nil]; omega
    · omega
def growArgs (B : Nat) : Array Value := #[.pointer (some ⟨B + 3, 0, none⟩), .pointer (some ⟨B, 0, none⟩), .pointer (some ⟨B + 1, 0, none⟩), .pointer (some ⟨B + 5, 0, none⟩), .pointer (some ⟨B + 6, 0, none⟩)]
def GrowOk (n B k : Nat) (p : List Nat) (w : World) (out : List (List Nat)) : Prop :=
  Calls Tryd.prog 116 (growArgs B) w fun e w' => e = .returned (.tuple #[]) ∧ (∃ vo' vs' lst', PSt n B w' p (out ++ grow n k p) vo' vs' lst') ∧ Below B w w'
theorem PSt.listed {n B : Nat} {w : World} {p : List Nat} {out : List (List Nat)} {vo : Value} {vs : List Value} {lst : List Int} (h : PSt n B w p out vo vs lst) {g1 cap1 : Nat} {w1 : World}
    (ho1 : w1.ownsRow w.heap.size 3 1 (.slice (some ⟨g1, 0, none⟩) p.length cap1) p.length (ints (natI p))) (hb1 : Below w.heap.size w w1) {g2 cap2 : Nat} {w2 : World}
    (ho2 : w2.ownsRow (B + 7) 31 1 (.slice (some ⟨g2, 0, none⟩) (out.length + 1) cap2) (out.length + 1) (vs ++ [.slice (some ⟨g1, 0, none⟩) p.length cap1])) (hb2 : Below (B + 7) w w2)
    (hk2 : Kp (fun i => vo.ownBlock = some i) (w1.alloc (Obj.cells #[.slice (some ⟨g1, 0, none⟩) p.length cap1] 31)) w2) (hat2 : vo.ownBlock = some g2 ∨ g2 = (w1.alloc (Obj.cells #[.slice (some ⟨g1, 0, none⟩) p.length cap1] 31)).heap.size) :
    PSt n B (w2.setCell ⟨B + 1, 0, none⟩ (.slice (some ⟨g2, 0, none⟩) (out.length + 1) cap2)) p (out ++ [p]) (.slice (some ⟨g2, 0, none⟩) (out.length + 1) cap2) (vs ++ [.slice (some ⟨g1, 0, none⟩) p.length cap1]) lst ∧
    Below B w (w2.setCell ⟨B + 1, 0, none⟩ (.slice (some ⟨g2, 0, none⟩) (out.length + 1) cap2)) := by
  obtain ⟨⟨bn, bo, hrow, bx, bu, bv, bg, own, rows, off⟩, ll, lt⟩ := h
  have L := bg.lt
  have up : ∀ {b : Nat} {cs : Array Value} {t : TypeId}, Blk w b cs t → b < B + 7 → Blk w2 b cs t := fun h hb => (hb2.block _ hb).trans h
  have hvo : ∀ k, vo.ownBlock = some k → B + 7 ≤ k ∧ k < w.heap.size := fun k hk => own_at own hk
  have hg1 : w.heap.size ≤ g1 ∧ g1 < w1.heap.size := own_at ho1 rfl
  have hs1 := hb1.size
  have hs : (w1.alloc (Obj.cells #[.slice (some ⟨g1, 0, none⟩) p.length cap1] 31)).heap.size = w1.heap.size + 1 := by simp
  have ho1' := own_kp (own_later ho1 (bl_alloc (Below.refl _ _) (Obj.cells #[.slice (some ⟨g1, 0, none⟩) p.length cap1] 31))) hk2 fun k hk e => by
    cases hk
    have h9 : g1 < w.heap.size := (hvo _ e).2
    omega
  have hk0 : Kp (fun i => vo.ownBlock = some i) w w2 := (Kp.of_below (bl_alloc hb1 _)).trans hk2 fun _ _ e => e
  have hg2 : g2 ≠ g1 ∧ B + 7 ≤ g2 := by
    rcases hat2 with e | e
    · have := hvo _ e; omega
    · omega
  refine ⟨⟨⟨(up bn (by omega)).setOther _ (by simp), ?_, ?_, (up bx (by omega)).setOther _ (by simp), (up bu (by omega)).setOther _ (by simp), (up bv (by omega)).setOther _ (by simp), (up bg (by omega)).setOther _ (by simp), ?_, ?_, ?_⟩, ll, lt⟩, ?_⟩
  · have := (up bo (by omega)).set 0 (.slice (some ⟨g2, 0, none⟩) (out.length + 1) cap2)
    simpa using this
  · have := (up (b := B + 2) (cs := (ints lst).toArray) (t := 3) hrow (by omega)).setOther (p := ⟨B + 1, 0, none⟩) (.slice (some ⟨g2, 0, none⟩) (out.length + 1) cap2) (by simp)
    exact this
  · rw [List.length_append]
    refine own_set ho2 _ ?_
    intro e
    simp [Value.ownBlock] at e
    omega
  · have hr2 : RowsOf w2 (B + 7) vs out := rows.kp hk0 fun u hu k hk e => off u hu k hk e
    have hr3 : RowsOf w2 (B + 7) (vs ++ [.slice (some ⟨g1, 0, none⟩) p.length cap1]) (out ++ [p]) := hr2.append (RowsOf.one (own_mono ho1' (by omega)))
    refine ⟨hr3.1, fun j v q hv hq => own_set (hr3.2 j v q hv hq) _ ?_⟩
    intro e
    have := (hr3.at (List.mem_of_getElem? hv) e).1
    omega
  · intro u hu k hk e
    simp only [Value.ownBlock, Option.some.injEq] at e
    subst e
    rcases List.mem_append.1 hu with hu | hu
    · rcases hat2 with e | e
      · exact off u hu _ hk e
      · have := (rows.at hu hk).2; omega
    · obtain rfl := List.mem_singleton.1 hu
      cases hk
      exact hg2.1 rfl
  · exact (hb2.mono (show B ≤ B + 7 by omega)).setCell (p := ⟨B + 1, 0, none⟩) (show B ≤ B + 1 by omega) _
set_option maxHeartbeats 3200000 in
theorem i_grow0 (n B : Nat) (hn : n ≤ 4) (p : List Nat) (out : List (List Nat)) (vo : Value) (vs : List Value) (lst : List Int) (w : World) (hp : p.length = n) (hs : PSt n B w p out vo vs lst) (ho : out.length ≤ 1024) : GrowOk n B 0 p w out := by
  unfold GrowOk growArgs
  subst hp
  have HPS := Lib.hid hs
  obtain ⟨⟨bn, bo, hrow, bx, bu, bv, bg, own, rows, off⟩, ll, lt⟩ := hs
  have hu1 := Tryd.underlying31
  have hu2 := Tryd.underlying86
  have c1 := bn.at ⟨w, Below.refl _ _⟩ (j := 0) rfl
  have c2 := bo.at ⟨w, Below.refl _ _⟩ (j := 0) rfl
  have c3 := bx.at ⟨w, Below.refl _ _⟩ (j := 0) rfl
  dsimp only at c1 c2 c3
  go_enter Tryd.func116, Tryd.ntmps116
  go_wp2_with fail
  have hlst : lst = natI p := by rw [← lt, List.take_of_length_le (by omega)]
  subst hlst
  have hrd := hrow.rd
  have h6 := bg.lt
  have f2 := bo.free 0
  have L2 := World.block_lt_of_cell? w _ c2
  have L3 := World.block_lt_of_cell? w _ c3
  have hl1 : (ints (natI p)).length = p.length * 1 := by rw [ints_length, natI_length, Nat.mul_one]
  have HL := Lib.hid hl1; clear hl1
  have HS := Lib.hid (And.intro bn (And.intro bo (And.intro hrow (And.intro bx (And.intro bu (And.intro bv (And.intro bg (And.intro rows off)))))))); clear bn bo bx bu bv bg rows off hrow
  have HT := Lib.hid (And.intro ll lt); clear ll lt
  go_region_law
    (first
      | ((refine step_ap (w0 := w) w.heap.size rfl (.tmp 11) (.tmp 12) 31 3 (.int .i64 0) 1 8 rfl hu1 info_int rfl (by decide) (by decide) (.slice (some ⟨w.heap.size, 0, none⟩) 0 0) 0 [] rfl (World.ownsRow_lit w.drew #[] 0 (Nat.le_refl _) (by decide) rfl) ⟨B + 2, 0, none⟩ p.length p.length (ints (natI p)) (.inl (by simp [Value.ownBlock])) rfl HL.out (hrd.later (bl_alloc (Below.refl _ _).drew _)) (ints_one _) (by omega) (by simp) (bl_alloc (Below.refl _ _).drew _) ?_; intro g1 cap1 w1 ho1 hb1 hk1 hat1 hg1; rw [Nat.zero_add, List.nil_append] at ho1; have y1 := (hb1.cell L2).trans c2; have y3 := (hb1.cell L3).trans c3; have l1 := World.block_lt_of_cell? w1 _ y1; have l3 := World.block_lt_of_cell? w1 _ y3))
      | ((refine step_ap (w0 := w) (B + 7) rfl (.tmp 10) (.tmp 14) 86 31 (.slice none 0 0) 1 24 rfl hu2 info_ints rfl (by decide) (by decide) vo out.length vs rfl (own_later own (bl_alloc hb1 _)) ⟨w1.heap.size, 0, none⟩ 1 1 [.slice (some ⟨g1, 0, none⟩) p.length cap1] (.inr (by decide)) rfl rfl (fun _ => ⟨_, rfl, fun i u hi => (Blk.new w1 #[.slice (some ⟨g1, 0, none⟩) p.length cap1] 31).rd1 hi⟩) (by simp [Value.oneCell']) (by omega) (by have := hb1.size; simp; omega) ((bl_alloc hb1 _).mono (by omega)) ?_; intro g2 cap2 w2 ho2 hb2 hk2 hat2 hg2; have z1 := (hb2.cell (p := ⟨B + 1, 0, none⟩) (by simp)).trans c2; have z2 := (hb2.frozen (p := ⟨B + 1, 0, none⟩) (by simp)).trans f2; have z3 := (hb2.cell (p := ⟨B + 3, 0, none⟩) (by simp)).trans c3; have z4 := World.block_lt_of_cell? w2 _ z1)))
  all_goals
    go_wp2_with fail
    obtain ⟨hP, hB⟩ := PSt.listed HPS.out ho1 hb1 ho2 hb2 hk2 hat2
    exact bodyPost_ret (v := .tuple #[]) (by simp [results, Tryd.results116, go_sem]) rfl ⟨rfl, ⟨_, _, _, hP⟩, hB⟩
set_option maxHeartbeats 3200000 in
theorem i_grow (n B : Nat) (hn : n ≤ 4) : ∀ (k : Nat) (p : List Nat) (out : List (List Nat)) (vo : Value) (vs : List Value) (lst : List Int) (w : World), p.length + k = n → PSt n B w p out vo vs lst → out.length + 4 ^ k ≤ 1025 → GrowOk n B k p w out := by
  intro k
  induction k with
  | zero => intro p out vo vs lst w hk hs ho; exact i_grow0 n B hn p out vo vs lst w (by omega) hs (by simp at ho; omega)
  | succ k ih =>
    intro p out vo vs lst w hk hs ho
    have IH := Lib.hid ih; clear ih
    have hu1 := Tryd.underlying31
    have hu2 := Tryd.underlying136
    have hne : ((p.length : Int) == (n : Int)) = false := by simp; omega
    unfold GrowOk growArgs
    obtain ⟨c1, _, c3, _⟩ := hs.core.reads
    have HS := Lib.hid hs; clear hs
    have hlk : p.length < n := by omega
    have hk4 : 4 ^ (k + 1) = 4 * 4 ^ k := by rw [Nat.pow_succ]; omega
    have HK := Lib.hid (And.intro hk (And.intro ho hk4)); clear hk ho hk4
    go_enter Tryd.func116, Tryd.ntmps116
    go_wp2_with fail
    go_loopw [17] (fun i wr => ∃ j : Nat, j ≤ n ∧ i = .int .i64 j ∧ (∃ vo' vs' lst', PSt n B wr p (out ++ growTo n k p j) vo' vs' lst') ∧ Below B w wr) (fun i _ => n - (intOf i).toNat)
    case atStart => exact ⟨0, Nat.zero_le _, rfl, ⟨vo, vs, lst, by simpa [growTo] using HS.out⟩, Below.refl _ _⟩
    case round =>
      clear c1 c3
      obtain ⟨j, hj, rfl, ⟨vo, vs, lst, hs⟩, hbw⟩ := hrel
      by_cases hlt : j < n
      · have c4 := hs.core.bu.cell (usedA_get hlt p)
        obtain ⟨c1, _, c3, f3, c5, c6, c7⟩ := hs.core.reads
        have hgs := growTo_step n k p j
        cases hd : decide (j ∈ p) with
        | true =>
          rw [hd] at c4
          rw [if_pos (by simpa using hd), List.append_nil] at hgs
          have HG := Lib.hid hgs; have HP := Lib.hid hs; clear hgs hd hs
          go_wp2_with fail
          go_roundw
          case rel => exact ⟨j + 1, by omega, by go_num, by rw [HG.out]; exact ⟨_, _, _, HP.out⟩, hbw⟩
          case measure => simp [intOf]; omega
        | false =>
          rw [hd] at c4
          rw [if_neg (by simpa using hd)] at hgs
          have hd' : j ∉ p := by simpa using hd
          have f4 := hs.core.bu.free j
          have HG := Lib.hid hgs; have HP := Lib.hid hs; have HD := Lib.hid hd'; clear hgs hd hs hd'
          go_upto_region 7 with (fail)
          have h1 := HP.out.core.setU j (.bool true)
          rw [usedA_yes] at h1
          have hb1 : Below B w (wr.setCell ⟨B + 4, j, none⟩ (.bool true)) := hbw.setCell (p := ⟨B + 4, j, none⟩) (show B ≤ B + 4 by omega) _
          generalize wr.setCell ⟨B + 4, j, none⟩ (.bool true) = w1 at *
          clear c1 c3 f3 c4 c5 c6 c7 f4
          obtain ⟨c1, _, c3, f3, c5, c6, c7⟩ := h1.reads
          have cr : ∃ u, (w1.alloc (Obj.cells #[.int .i64 j] 3)).cell? ⟨B + 2, p.length, none⟩ = some u := ⟨_, ((h1.bl.later (bl_alloc (Below.refl _ _) (Obj.cells #[.int .i64 j] 3))).cell (i := p.length) (by rw [HP.out.ll]; exact hlk))⟩
          have crf : (w1.alloc (Obj.cells #[.int .i64 j] 3)).frozen? ⟨B + 2, p.length, none⟩ = false := (h1.bl.later (bl_alloc (Below.refl _ _) (Obj.cells #[.int .i64 j] 3))).free _
          have cn : (w1.alloc (Obj.cells #[.int .i64 j] 3)).cell? ⟨w1.heap.size, 0, none⟩ = some (.int .i64 j) := (Blk.new w1 #[.int .i64 j] 3).cell rfl
          have h2 := (h1.later (bl_alloc (Below.refl _ _) (Obj.cells #[.int .i64 j] 3))).setL p.length (j : Int)
          have hb2 : Below B w ((w1.alloc (Obj.cells #[.int .i64 j] 3)).setCell ⟨B + 2, p.length, none⟩ (.int .i64 j)) := (hb1.alloc (by omega) _).setCell (p := ⟨B + 2, p.length, none⟩) (show B ≤ B + 2 by omega) _
          have H2 := Lib.hid (And.intro h2 hb2); clear h2 hb2
          have H1 := Lib.hid (And.intro h1 hb1); clear h1 hb1
          go_upto_region 8 with (at_builtin; refine ap_place rfl (.tmp 28) (.tmp 30) 31 3 (.int .i64 0) 8 rfl hu1 info_int (B + 2) p.length n rfl hlk cr crf ⟨w1.heap.size, 0, none⟩ 1 (.int .i64 j) rfl cn rfl ?_; (generalize (w1.alloc (Obj.cells #[.int .i64 j] 3)).setCell ⟨B + 2, p.length, none⟩ (.int .i64 j) = w2 at *); clear c1 c3 f3 c5 c6 c7 cr crf cn; obtain ⟨c1, _, c3, f3, c5, c6, c7⟩ := H2.out.1.reads)
          obtain ⟨h2, hb2⟩ := H2.out
          have h3 := h2.setX (.slice (some ⟨B + 2, 0, none⟩) (p.length + 1) n)
          have hb3 : Below B w (w2.setCell ⟨B + 3, 0, none⟩ (.slice (some ⟨B + 2, 0, none⟩) (p.length + 1) n)) := hb2.setCell (p := ⟨B + 3, 0, none⟩) (show B ≤ B + 3 by omega) _
          generalize w2.setCell ⟨B + 3, 0, none⟩ (.slice (some ⟨B + 2, 0, none⟩) (p.length + 1) n) = w3 at *
          clear c1 c3 f3 c5 c6 c7 h2 hb2 H2 H1
          have hlen : (p ++ [j]).length = p.length + 1 := by simp
          have hP3 : PSt n B w3 (p ++ [j]) (out ++ growTo n k p j) vo vs (lst.set p.length (j : Int)) := by
            refine ⟨by rw [hlen]; exact h3, by rw [List.length_set]; exact HP.out.ll, ?_⟩
            rw [hlen, natI_append, ← HP.out.lt]
            have hl : p.length < lst.length := by rw [HP.out.ll]; exact hlk
            rw [List.take_succ_eq_append_getElem (by rw [List.length_set]; exact hl), List.take_set_of_le (Nat.le_refl _), List.getElem_set_self]
            rfl
          obtain ⟨c1, _, c3, f3, c5, c6, c7⟩ := h3.reads
          have hcall := IH.out (p ++ [j]) (out ++ growTo n k p j) vo vs _ w3 (by have := HK.out; omega) hP3 (by
            have h5 := HK.out
            have h6 : (growTo n k p j).length ≤ j * 4 ^ k := growTo_le hn k p j (by omega)
            have h7 : j * 4 ^ k ≤ 3 * 4 ^ k := Nat.mul_le_mul_right _ (by omega)
            rw [List.length_append]
            omega)
          unfold GrowOk growArgs at hcall
          have HC := Lib.hid hcall; clear hcall h3 hP3
          have hwl := wrap64_nat p.length (by omega)
          go_upto_region 10 with (go_at_call 116; refine HC.out.mono ?_; rintro e w4 ⟨rfl, ⟨vo4, vs4, lst4, h4⟩, hb4⟩; have h4c := h4.core; rw [hlen] at h4c; clear c1 c3 f3 c5 c6 c7; obtain ⟨c1, _, c3, f3, c5, c6, c7⟩ := h4c.reads; have H4 := Lib.hid (And.intro h4 h4c); clear h4 h4c)
          obtain ⟨h4, h4c⟩ := H4.out
          have h5 := h4c.setX (.slice (some ⟨B + 2, 0, none⟩) p.length n)
          have hb5 : Below B w (w4.setCell ⟨B + 3, 0, none⟩ (.slice (some ⟨B + 2, 0, none⟩) p.length n)) := (hb3.trans hb4).setCell (p := ⟨B + 3, 0, none⟩) (show B ≤ B + 3 by omega) _
          generalize w4.setCell ⟨B + 3, 0, none⟩ (.slice (some ⟨B + 2, 0, none⟩) p.length n) = w5 at *
          clear c1 c3 f3 c5 c6 c7
          obtain ⟨c1, _, c3, f3, c5, c6, c7⟩ := h5.reads
          have c4 := h5.bu.cell (usedA_get hlt _)
          have f4 := h5.bu.free j
          have h6 := h5.setU j (.bool false)
          rw [usedA_no HD.out] at h6
          have hb6 : Below B w (w5.setCell ⟨B + 4, j, none⟩ (.bool false)) := hb5.setCell (p := ⟨B + 4, j, none⟩) (show B ≤ B + 4 by omega) _
          have hlt4 : lst4.take p.length = natI p := by
            have h7 := congrArg (List.take p.length) h4.lt
            rw [hlen, List.take_take, Nat.min_eq_left (by omega), natI_append, List.take_left' (natI_length p)] at h7
            exact h7
          have hP6 : PSt n B (w5.setCell ⟨B + 4, j, none⟩ (.bool false)) p (out ++ growTo n k p (j + 1)) vo4 vs4 lst4 := ⟨by rw [HG.out, ← List.append_assoc]; exact h6, h4.ll, hlt4⟩
          have H6 := Lib.hid (And.intro hP6 hb6); clear hP6 hb6 h6 hlt4 h5 hb5 h4 h4c H4
          go_wp2_with fail
          go_roundw
          case rel => exact ⟨j + 1, by omega, by go_num, ⟨_, _, _, H6.out.1⟩, H6.out.2⟩
          case measure => simp [intOf]; omega
      · obtain rfl : j = n := by omega
        rw [growTo_all] at hs
        have HP := Lib.hid hs; clear hs
        go_wp2_with fail
        go_end0
        exact ⟨rfl, ⟨_, _, _, HP.out⟩, hbw⟩
end Go.Proofs.YtmkgiakngjpfpaaDoor

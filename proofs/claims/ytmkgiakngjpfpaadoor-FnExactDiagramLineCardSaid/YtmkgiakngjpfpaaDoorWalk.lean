/- The program's diagram: what it walks is the diagram of the plain model. No conditions. -/
import Derived.Test.YtmkgiakngjpfpaaDoorTKey
import Derived.Test.YtmkgiakngjpfpaaDoorRes
import Derived.StillTailTactics
set_option linter.unusedVariables false
set_option linter.unusedSimpArgs false
set_option maxRecDepth 100000
namespace Go.Proofs.YtmkgiakngjpfpaaDoor
open Go.RowKit Go.Maps

/-- A diagram under way: its struct's block D, its map's block M, its nodes vl, which are s. -/
structure DSt (n D M base : Nat) (o : Value) (w : World) (s : List Nd) (vl : Value) : Prop where
  blk : Blk w D #[o, vl, .map (some M)] 101
  nodes : w.ownsRow base 94 3 vl s.length (ndCells s)
  map : ∃ E : DU, w.ownsMap Tryd.prog 30 (plainElem Tryd.prog 3) M s.length E ∧ MapOk n E s
  lt : D < base ∧ M < base ∧ D ≠ M
def DX (D M : Nat) (vl : Value) (i : Nat) : Prop := i = D ∨ i = M ∨ vl.ownBlock = some i
theorem map_later {w W : World} {M k : Nat} {E : DU} (h : w.ownsMap Tryd.prog 30 (plainElem Tryd.prog 3) M k E) (hb : Below w.heap.size w W) : W.ownsMap Tryd.prog 30 (plainElem Tryd.prog 3) M k E := h.kept (row := none) (grown_of_bl hb none) (by simp)
section
variable {n D M base : Nat} {o : Value} {w W : World} {s : List Nd} {vl : Value}
theorem DSt.later (h : DSt n D M base o w s vl) (hb : Below w.heap.size w W) : DSt n D M base o W s vl := by
  obtain ⟨E, h1, h2⟩ := h.map
  exact ⟨h.blk.later hb, own_later h.nodes hb, ⟨E, map_later h1 hb, h2⟩, h.lt⟩
theorem DSt.at (h : DSt n D M base o w s vl) {k : Nat} (hk : DX D M vl k) : k < w.heap.size := by
  rcases hk with rfl | rfl | hk
  · exact h.blk.lt
  · obtain ⟨E, h1, _⟩ := h.map
    exact h1.lt
  · exact (own_at h.nodes hk).2
theorem DSt.far (h : DSt n D M base o w s vl) {k : Nat} (hk : DX D M vl k) : k = D ∨ k = M ∨ base ≤ k := by
  rcases hk with rfl | rfl | hk
  · exact .inl rfl
  · exact .inr (.inl rfl)
  · exact .inr (.inr (own_at h.nodes hk).1)
end
/-- What the walk leaves. -/
def DBuilt (n D M base : Nat) (o : Value) (w : World) (vl : Value) (w' : World) (s' : List Nd) (vl' : Value) : Prop :=
  DSt n D M base o w' s' vl' ∧ Kp (DX D M vl) w w' ∧ (∀ k, vl'.ownBlock = some k → vl.ownBlock = some k ∨ w.heap.size ≤ k)
section
variable {n D M base : Nat} {o : Value} {w w1 w2 : World} {s s1 s2 : List Nd} {vl vl1 vl2 : Value}
theorem DBuilt.of_below (h : DSt n D M base o w s vl) (hb : Below w.heap.size w w1) : DBuilt n D M base o w vl w1 s vl := ⟨h.later hb, Kp.of_below hb, fun k hk => .inl hk⟩
theorem DBuilt.trans (h : DBuilt n D M base o w vl w1 s1 vl1) (k : DBuilt n D M base o w1 vl1 w2 s2 vl2) : DBuilt n D M base o w vl w2 s2 vl2 := by
  refine ⟨k.1, h.2.1.trans k.2.1 fun i hi hx => ?_, fun i hi => ?_⟩
  · rcases hx with h1 | h1 | h1
    · exact .inl h1
    · exact .inr (.inl h1)
    · rcases h.2.2 i h1 with h2 | h2
      · exact .inr (.inr h2)
      · omega
  · rcases k.2.2 i hi with h1 | h1
    · exact h.2.2 i h1
    · exact .inr (Nat.le_trans h.2.1.size h1)
end
theorem map_kp {X : Nat → Prop} {w W : World} {M k : Nat} {E : DU} (h : w.ownsMap Tryd.prog 30 (plainElem Tryd.prog 3) M k E) (hb : Kp X w W) (hx : ¬ X M) : W.ownsMap Tryd.prog 30 (plainElem Tryd.prog 3) M k E := by
  have hl := h.lt
  obtain ⟨es, clock, h1, F, hs, hD⟩ := h
  exact ⟨es, clock, (hb.block M hl hx).trans h1, F, hs, hD⟩
def WPost (n D M base : Nat) (o : Value) (vs : List Nat) (s : List Nd) (W : Nat) (vl : Value) (w : World) : Ending → World → Prop := fun e w' =>
  ∃ vl', e = .returned (.int .i64 (bld n vs s W).1) ∧ DBuilt n D M base o w vl w' (bld n vs s W).2 vl'
/-- The nodes are appended to, the field is set, the map is written. -/
theorem DSt.push {n D M base : Nat} {o : Value} {w : World} {s : List Nd} {vl : Value} (h : DSt n D M base o w s vl) (hn : n ≤ 5) (nd : Nd) (hw : nd.word < 4294967296) (hp : pos nd.word s = none) {o1 : Obj} {v6 : Value} {w6 w7 : World}
    (ho6 : w6.ownsRow base 94 3 v6 (s.length + 1) (ndCells s ++ [.int .i64 nd.var, .int .i64 nd.lo, .int .i64 nd.hi])) (hk6 : Kp (fun i => vl.ownBlock = some i) (w.alloc o1) w6) (hat6 : v6.ownBlock = vl.ownBlock ∨ v6.ownBlock = some (w.alloc o1).heap.size)
    (E : DU) (hE : MapOk n E s) (hEm : IsMap E)
    (hm7 : w7.ownsMap Tryd.prog 30 (plainElem Tryd.prog 3) M (s.length + 1) (E.put (klit n nd.word) (.lit (.int .i64 s.length)))) (hg7 : (w6.setCell ⟨D, 1, none⟩ v6).grownBy w7 (some M)) :
    DBuilt n D M base o w vl w7 (s ++ [nd]) v6 := by
  have hs1 : (w.alloc o1).heap.size = w.heap.size + 1 := by simp
  obtain ⟨hlD, hlM, hDM⟩ := h.lt
  have hDw : D < w.heap.size := h.at (.inl rfl)
  have hMw : M < w.heap.size := h.at (.inr (.inl rfl))
  have h6 : ∀ k, v6.ownBlock = some k → vl.ownBlock = some k ∨ w.heap.size < k := fun k hk => by
    rcases hat6 with e | e
    · exact .inl (by rw [← e]; exact hk)
    · rw [e] at hk
      cases hk
      exact .inr (by omega)
  have hn6 : ∀ k, v6.ownBlock = some k → base ≤ k := fun k hk => (own_at ho6 hk).1
  have hnv : ∀ k, vl.ownBlock = some k → base ≤ k := fun k hk => (own_at h.nodes hk).1
  have hb6 : Blk w6 D #[o, vl, .map (some M)] 101 := (h.blk.alloc o1).kp hk6 fun e => by have := hnv _ e; omega
  have hb7 : Blk (w6.setCell ⟨D, 1, none⟩ v6) D #[o, v6, .map (some M)] 101 := by have := hb6.set 1 v6; simpa using this
  refine ⟨⟨hb7.grown hg7 (by simpa using hDM), ?_, ⟨_, by rw [List.length_append]; exact hm7, hE.push hEm (by omega) nd hw hp⟩, h.lt⟩, ?_, ?_⟩
  · have h1 := own_set (g := D) (i := 1) ho6 v6 fun e => by have := hn6 _ e; omega
    have h2 := h1.kept hg7 (by right; intro e; have := hn6 _ e; omega)
    rw [ndCells_append, List.length_append]
    simpa [ndCells] using h2
  · have hk1 : Kp (DX D M vl) w w6 := (Kp.of_below (bl_alloc (Below.refl _ _) o1)).trans hk6 fun i _ e => .inr (.inr e)
    have hk2 : Kp (DX D M vl) w (w6.setCell ⟨D, 1, none⟩ v6) := hk1.set v6 fun _ => .inl rfl
    exact hk2.trans (Kp.of_grown (X := fun i => i = M) hg7 fun k e => by cases e; rfl) fun i _ e => .inr (.inl e)
  · intro k hk
    rcases h6 k hk with e | e
    · exact .inl e
    · exact .inr (by omega)
/-- The first variable of an order that a word depends on. -/
theorem first_dep {n W : Nat} : ∀ (vs : List Nat), (∀ v ∈ vs, dep n W v = false) ∨ ∃ vs0 v vs1, vs = vs0 ++ v :: vs1 ∧ (∀ u ∈ vs0, dep n W u = false) ∧ dep n W v = true
  | [] => .inl (by simp)
  | v :: vs => by
    cases hv : dep n W v with
    | true => exact .inr ⟨[], v, vs, rfl, by simp, hv⟩
    | false =>
      rcases first_dep (n := n) (W := W) vs with h | ⟨vs0, u, vs1, rfl, h0, h1⟩
      · exact .inl fun u hu => by rcases List.mem_cons.1 hu with rfl | hu; exact hv; exact h u hu
      · exact .inr ⟨v :: vs0, u, vs1, rfl, fun z hz => by rcases List.mem_cons.1 hz with rfl | hz; exact hv; exact h0 z hz, h1⟩
theorem pos_new {n u W : Nat} (vs : List Nat) (s : List Nd) (hp : pos W s = none) (hun : u < n) (hd : dep n W u = true) (hv : ∀ v ∈ vs, v < n) : pos W (bld n vs (bld n vs s (stuckW n W u 0)).2 (stuckW n W u 1)).2 = none := by
  rw [pos_none] at hp ⊢
  have key : ∀ b, b ≤ 1 → ∀ a : Nd, (∀ v, v < n → dep n (stuckW n W u b) v = false → dep n a.word v = false) → a.word ≠ W := fun b hb a h e => by
    have := h u hun (dep_stuck_same hun hb)
    rw [e, hd] at this
    cases this
  intro a ha
  rcases bld_words vs _ _ hv a ha with h | h
  · rcases bld_words vs _ _ hv a h with h | h
    · exact hp a h
    · exact key 0 (by decide) a h
  · exact key 1 (by decide) a h
theorem idxOf_split (p : Int → Bool) (x : Int) (r : List Int) (hx : p x = true) : ∀ (l : List Int) (k : Nat), (∀ y ∈ l, p y = false) → idxOf p (l ++ x :: r) k = ((k + l.length : Nat) : Int)
  | [], k, _ => by simp [idxOf, hx]
  | y :: l, k, h => by
    rw [List.cons_append, idxOf, h y (by simp)]
    have := idxOf_split p x r hx l (k + 1) fun z hz => h z (by simp [hz])
    simp only [Bool.false_eq_true, if_false, this, List.length_cons]
    omega
set_option maxRecDepth 100000 in
set_option maxHeartbeats 3200000 in
theorem i_walk (n D M base : Nat) (hn : n ≤ 5) (ord : List Nat) (ho : IsOrd n ord) (A : Option Addr) (c : Nat) (hA : ∀ ad, A = some ad → ad.block < base ∧ ad.block ≠ D ∧ ad.block ≠ M) :
    ∀ (k : Nat) (vs pre : List Nat) (W : Nat) (s : List Nd) (vl : Value) (w : World), vs.length < k → ord = pre ++ vs → (∀ v ∈ pre, dep n W v = false) → W < 2 ^ 2 ^ n → DSt n D M base (.slice A ord.length c) w s vl → base ≤ w.heap.size → RdC w A (ints (natI ord)) → s.length + 2 ^ vs.length ≤ 100000 →
    Calls Tryd.prog 85 #[.pointer (some ⟨D, 0, none⟩), .agg #[.int .i64 n, .int .i64 W]] w (WPost n D M base (.slice A ord.length c) vs s W vl w) := by
  intro k
  induction k with
  | zero => intro vs pre W s vl w hk; exact absurd hk (Nat.not_lt_zero _)
  | succ k ih =>
    intro vs pre W s vl w hk hord hpre hW h hbw hr hlen
    have hu := Tryd.underlying30
    have hW' := word_small hn hW
    obtain ⟨hc0, hc1⟩ := box2 w (.int .i64 n) (.int .i64 W) 30
    cases hcst : isConst n W with
    | true =>
      obtain ⟨b, hb⟩ : ∃ b, b = bitAt W 0 := ⟨_, rfl⟩
      have hb1 : b ≤ 1 := by rw [hb]; exact bitAt_le _ _
      have hq : ∀ W', Ret Tryd.prog 108 #[.agg #[.int .i64 n, .int .i64 W]] W' (.bool true) := fun W' => by have := i_isSame n W hn hW W'; rwa [hcst] at this
      have hq2 : ∀ W', Ret Tryd.prog 91 #[.agg #[.int .i64 n, .int .i64 W], .int .i64 0] W' (.int .i64 b) := fun W' => by have := i_at n W 0 hW' W'; rwa [← hb] at this
      have hsub : wrap64 (-2 + (b : Int)) = -2 + (b : Int) := IntWalk.wrap64_in _ (by omega)
      have he : (bld n vs s W) = (-2 + (b : Int), s) := by rw [bld_const hcst, endOf, ← hb, Int.sub_eq_add_neg, Int.add_comm]
      have HE := Lib.hid he; have H := Lib.hid h; clear he h hb hcst ih
      go_enter Tryd.func85, Tryd.ntmps85
      go_wp2_with (first | (go_at_call 108; (with_reducible refine Ret.go (hq _) ?_); intro c1) | (go_at_call 91; (with_reducible refine Ret.on (hq2 _) ?_); intro c2))
      go_ret
      exact ⟨vl, by rw [HE.out]; rfl, by rw [HE.out]; exact DBuilt.of_below H.out bl⟩
    | false =>
      have hq : ∀ W', Ret Tryd.prog 108 #[.agg #[.int .i64 n, .int .i64 W]] W' (.bool false) := fun W' => by have := i_isSame n W hn hW W'; rwa [hcst] at this
      obtain ⟨E, hE1, hE2⟩ := h.map
      obtain ⟨o, hod⟩ : ∃ o, o = Value.slice A ord.length c := ⟨_, rfl⟩
      rw [← hod] at h ⊢
      have hcell1 := fun c : BW w => (h.blk.later c.out).cell (j := 2) rfl
      cases hp : pos W s with
      | some i =>
        have hcell2 : ∀ c : BW (w.alloc (Obj.cells #[Value.int IntKind.i64 ↑n, Value.int IntKind.i64 ↑W] 30)), c.val.cell? ⟨D, 2, none⟩ = some (.map (some M)) := fun c => hcell1 ⟨c.val, below_box c⟩
        have hlook : ∀ c : BW (w.alloc (Obj.cells #[Value.int IntKind.i64 ↑n, Value.int IntKind.i64 ↑W] 30)), (Instr.lookup 99 (.map (some M)) (.agg #[.int .i64 n, .int .i64 W]) true).run Tryd.prog c.val = .ok (.tuple #[.int .i64 i, .bool true]) c.val := fun c => by
          have := run_look (n := n) (W := W) (map_later hE1 (below_box c)) hE2 (by omega) hW'
          rwa [hp] at this
        have he : bld n vs s W = ((i : Int), s) := by
          rcases first_dep (n := n) (W := W) vs with h1 | ⟨vs0, u, vs1, rfl, h0, h1⟩
          · have := const_of_indep hW fun j hj => by
              have := ord_all ho hj
              rw [hord, List.mem_append] at this
              exact this.elim (hpre j) (h1 j)
            rw [this] at hcst
            cases hcst
          · rw [bld_skip vs0 _ s hcst h0, bld, if_neg (by rw [hcst]; simp), if_pos h1, hp]
        have HE := Lib.hid he; have H := Lib.hid h; have HC := Lib.hid (And.intro hcst (And.intro hp hE1)); clear he h hcst hp hE1 ih hcell1
        go_enter Tryd.func85, Tryd.ntmps85
        go_wp2_with (first | (go_at_call 108; (with_reducible refine Ret.go (hq _) ?_); intro c1))
        have hd0 : ∀ c : BW c1.val, c.val.cell? ⟨w.heap.size, 0, none⟩ = some (.int .i64 n) := fun c => hc0 ⟨c.val, bl_then c1.out c.out⟩
        have hd1 : ∀ c : BW c1.val, c.val.cell? ⟨w.heap.size, 1, none⟩ = some (.int .i64 W) := fun c => hc1 ⟨c.val, bl_then c1.out c.out⟩
        have hd2 : ∀ c : BW c1.val, c.val.cell? ⟨D, 2, none⟩ = some (.map (some M)) := fun c => hcell2 ⟨c.val, bl_then c1.out c.out⟩
        have hd3 : ∀ c : BW c1.val, (Instr.lookup 99 (.map (some M)) (.agg #[.int .i64 n, .int .i64 W]) true).run Tryd.prog c.val = .ok (.tuple #[.int .i64 i, .bool true]) c.val := fun c => hlook ⟨c.val, bl_then c1.out c.out⟩
        refine wp_region_bw (by kernel_rfl) (by kernel_rfl) ?_
        repeat (quiet_step (fail))
        refine wpQuiet_nil ?_
        intro c2
        go_wp2_with fail
        go_ret
        exact ⟨vl, by rw [HE.out]; rfl, by rw [HE.out]; exact DBuilt.of_below H.out bl⟩
      | none =>
        rcases first_dep (n := n) (W := W) vs with h1 | ⟨vs0, u, vs1, rfl, h0, h1⟩
        · have := const_of_indep hW fun j hj => by
            have := ord_all ho hj
            rw [hord, List.mem_append] at this
            exact this.elim (hpre j) (h1 j)
          rw [this] at hcst
          cases hcst
        have hord2 : ord = (pre ++ vs0) ++ u :: vs1 := by rw [hord, List.append_assoc]
        have hun : u < n := ho.2.1 u (by rw [hord2]; simp)
        obtain ⟨j, hj⟩ : ∃ j, j = (pre ++ vs0).length := ⟨_, rfl⟩
        have hjl : j < ord.length := by rw [hj, hord2]; simp
        have hon : ord.length ≤ 5 := by rw [ho.1]; exact hn
        have hou : ord.getD j 0 = u := by rw [hord2, hj, List.getD_eq_getElem?_getD, List.getElem?_append_right (Nat.le_refl _)]; simp
        have hpre2 : ∀ v ∈ pre ++ vs0, dep n W v = false := fun v hv => (List.mem_append.1 hv).elim (hpre v) (h0 v)
        have hpre3 : ∀ b, b ≤ 1 → ∀ v ∈ pre ++ vs0 ++ [u], dep n (stuckW n W u b) v = false := fun b hb v hv => by
          rcases List.mem_append.1 hv with hv | hv
          · exact dep_stuck hun (ho.2.1 v (by rw [hord2]; simp only [List.mem_append] at hv ⊢; exact .inl hv)) hb (hpre2 v hv)
          · rw [List.mem_singleton.1 hv]; exact dep_stuck_same hun hb
        obtain ⟨ad, rfl, _⟩ := hr.int (i := j) (by rw [natI_length]; exact hjl)
        obtain ⟨hab, hadD, hadM⟩ := hA ad rfl
        have hix : ∀ c2 : BW w, Ret Tryd.prog 121 #[.slice (some ad) ord.length c, .func (.func 122) #[.agg #[.int .i64 n, .int .i64 W]] #[]] c2.val (.int .i64 j) := fun c2 => by
          have := slices_IndexFunc (some ad) c (natI ord) 122 #[.agg #[.int .i64 n, .int .i64 W]] #[] (fun x => dep n W x.toNat) c2.val (hr.bw c2) (by rw [natI_length]; omega) (fun c3 x hx => by
            obtain ⟨y, hy, rfl⟩ := List.mem_map.1 hx
            exact i_depends n W y hn hW (ho.2.1 y hy) c3.val) (fun _ _ => rfl)
          rw [natI_length, hord2, natI_append, show natI (u :: vs1) = (u : Int) :: natI vs1 from rfl, idxOf_split _ _ _ (by simpa using h1) _ _ (fun y hy => by
            obtain ⟨z, hz, rfl⟩ := List.mem_map.1 hy
            simpa using hpre2 z hz), natI_length, Nat.zero_add, ← hj, ← hord2] at this
          exact this
        have hcell : ∀ c : BW w, c.val.cell? (ad.add j) = some (.int .i64 u) := fun c => by
          obtain ⟨ad', e, hc⟩ := (hr.bw c).int (i := j) (by rw [natI_length]; exact hjl)
          cases e
          rwa [natI_get hjl, hou] at hc
        have hs0 : ∀ W', Ret Tryd.prog 123 #[.agg #[.int .i64 n, .int .i64 W], .int .i64 u, .int .i64 0] W' (.agg #[.int .i64 n, .int .i64 (stuckW n W u 0)]) := fun W' => i_stuck n W u 0 hn hW hun (by decide) W'
        have hs1 : ∀ W', Ret Tryd.prog 123 #[.agg #[.int .i64 n, .int .i64 W], .int .i64 u, .int .i64 1] W' (.agg #[.int .i64 n, .int .i64 (stuckW n W u 1)]) := fun W' => i_stuck n W u 1 hn hW hun (by decide) W'
        have hb : bld n (vs0 ++ u :: vs1) s W = (((bld n vs1 (bld n vs1 s (stuckW n W u 0)).2 (stuckW n W u 1)).2.length : Int), (bld n vs1 (bld n vs1 s (stuckW n W u 0)).2 (stuckW n W u 1)).2 ++ [⟨u, (bld n vs1 s (stuckW n W u 0)).1, (bld n vs1 (bld n vs1 s (stuckW n W u 0)).2 (stuckW n W u 1)).1, W⟩]) := by
          rw [bld_skip vs0 _ s hcst h0, bld, if_neg (by rw [hcst]; simp), if_pos h1, hp]
        have hlen1 : s.length + 2 ^ vs1.length + 2 ^ vs1.length ≤ 100000 := by
          have e1 : vs1.length + 1 ≤ (vs0 ++ u :: vs1).length := by simp
          have e2 : 2 ^ (vs1.length + 1) ≤ 2 ^ (vs0 ++ u :: vs1).length := Nat.pow_le_pow_right (by decide) e1
          rw [Nat.pow_succ] at e2
          omega
        have hpn := pos_new vs1 s hp hun h1 fun v hv => ho.2.1 v (by rw [hord2]; simp [hv])
        have hlk : vs1.length < k := by
          have : vs1.length + 1 ≤ (vs0 ++ u :: vs1).length := by simp
          omega
        have hcall : ∀ (b : Nat) (s' : List Nd) (vl' : Value) W', b ≤ 1 → s'.length ≤ s.length + 2 ^ vs1.length → DSt n D M base o W' s' vl' → base ≤ W'.heap.size → RdC W' (some ad) (ints (natI ord)) →
            Calls Tryd.prog 85 #[.pointer (some ⟨D, 0, none⟩), .agg #[.int .i64 n, .int .i64 (stuckW n W u b)]] W' (WPost n D M base o vs1 s' (stuckW n W u b) vl' W') := fun b s' vl' W' hb kl k2 kb kr => by
          have := ih vs1 (pre ++ vs0 ++ [u]) (stuckW n W u b) s' vl' W' hlk (by rw [hord2]; simp) (hpre3 b hb) (stuckW_lt _ _ _ _) (by rw [← hod]; exact k2) kb kr (by omega)
          rwa [← hod] at this
        have hcall0 := fun s' vl' W' => hcall 0 s' vl' W' (by decide)
        have hcall1 := fun s' vl' W' => hcall 1 s' vl' W' (by decide)
        clear hcall ih hpre3
        generalize stuckW n W u 0 = Wa at *
        generalize stuckW n W u 1 = Wb at *
        have hl1 := bld_len (n := n) vs1 s Wa
        generalize hr1 : bld n vs1 s Wa = r1 at hb hl1 hpn
        have hl2 := bld_len (n := n) vs1 r1.2 Wb
        generalize hr2 : bld n vs1 r1.2 Wb = r2 at hb hl2 hpn
        have hlen2 : r1.2.length ≤ s.length + 2 ^ vs1.length := by omega
        have hlen3 : r2.2.length ≤ 100000 := by omega
        have HL2 := Lib.hid hlen2
        have HP := Lib.hid hpn; clear hpn
        have HE := Lib.hid (And.intro hr1 hr2)
        clear hr1 hr2 hl1 hl2 hlen2
        have hmf := make_func
        have hcell0 := fun c : BW w => (h.blk.later c.out).cell (j := 0) rfl
        have hlook : ∀ c : BW w, (Instr.lookup 99 (.map (some M)) (.agg #[.int .i64 n, .int .i64 W]) true).run Tryd.prog c.val = .ok (.tuple #[.int .i64 0, .bool false]) c.val := fun c => by
          have := run_look (n := n) (W := W) (map_later hE1 c.out) hE2 (by omega) hW'
          rwa [hp] at this
        have HB := Lib.hid hb; have HC0 := Lib.hid hcall0; have HC1 := Lib.hid hcall1; have H := Lib.hid h; have HR := Lib.hid hr
        have HL := Lib.hid (And.intro hlen1 (And.intro hp hA)); clear hb hcall0 hcall1 h hr hlen1 hlk hp hpre hpre2 hA hlen hE1 hE2 hcst h0 h1 hord hord2 hj hk hou
        have HO := Lib.hid hod
        obtain ⟨N, hN⟩ : ∃ N, N = ord.length := ⟨_, rfl⟩
        rw [← hN] at hjl hon hix hod
        clear hN HO ho
        subst hod
        go_enter Tryd.func85, Tryd.ntmps85
        go_wp2_with (first | (go_at_call 108; (with_reducible refine Ret.go (hq _) ?_); intro c1))
        have hb1 : ∀ c : BW c1.val, Below w.heap.size w c.val := fun c => bl_then (bl_alloc (Below.refl _ _) _) (bl_then c1.out c.out)
        have hd0 : ∀ c : BW c1.val, c.val.cell? ⟨w.heap.size, 0, none⟩ = some (.int .i64 n) := fun c => hc0 ⟨c.val, bl_then c1.out c.out⟩
        have hd1 : ∀ c : BW c1.val, c.val.cell? ⟨w.heap.size, 1, none⟩ = some (.int .i64 W) := fun c => hc1 ⟨c.val, bl_then c1.out c.out⟩
        have hd2 : ∀ c : BW c1.val, c.val.cell? ⟨D, 2, none⟩ = some (.map (some M)) := fun c => hcell1 ⟨c.val, hb1 c⟩
        have hd3 : ∀ c : BW c1.val, (Instr.lookup 99 (.map (some M)) (.agg #[.int .i64 n, .int .i64 W]) true).run Tryd.prog c.val = .ok (.tuple #[.int .i64 0, .bool false]) c.val := fun c => hlook ⟨c.val, hb1 c⟩
        have hd4 : ∀ c2 : BW c1.val, c2.val.cell? ⟨D, 0, none⟩ = some (.slice (some ad) N c) := fun c2 => hcell0 ⟨c2.val, hb1 c2⟩
        have hd5 : ∀ c2 : BW c1.val, c2.val.cell? (ad.add j) = some (.int .i64 u) := fun c2 => hcell ⟨c2.val, hb1 c2⟩
        have hd6 : ∀ c2 : BW c1.val, Ret Tryd.prog 121 #[.slice (some ad) N c, .func (.func 122) #[.agg #[.int .i64 n, .int .i64 W]] #[]] c2.val (.int .i64 j) := fun c2 => hix ⟨c2.val, hb1 c2⟩
        clear hc0 hc1 hcell hcell0 hcell1 hlook hix
        refine wp_region_bw (by kernel_rfl) (by kernel_rfl) ?_
        repeat (quiet_step (fail))
        refine wpQuiet_nil ?_
        intro c2
        
        go_wp2_with fail
        have he0 : ∀ c : BW c2.val, c.val.cell? ⟨w.heap.size, 0, none⟩ = some (.int .i64 n) := fun c => hd0 ⟨c.val, bl_then c2.out c.out⟩
        have he1 : ∀ c : BW c2.val, c.val.cell? ⟨w.heap.size, 1, none⟩ = some (.int .i64 W) := fun c => hd1 ⟨c.val, bl_then c2.out c.out⟩
        have he4 : ∀ c3 : BW c2.val, c3.val.cell? ⟨D, 0, none⟩ = some (.slice (some ad) N c) := fun c3 => hd4 ⟨c3.val, bl_then c2.out c3.out⟩
        have he5 : ∀ c3 : BW c2.val, c3.val.cell? (ad.add j) = some (.int .i64 u) := fun c3 => hd5 ⟨c3.val, bl_then c2.out c3.out⟩
        have he6 : ∀ c3 : BW c2.val, Ret Tryd.prog 121 #[.slice (some ad) N c, .func (.func 122) #[.agg #[.int .i64 n, .int .i64 W]] #[]] c3.val (.int .i64 j) := fun c3 => hd6 ⟨c3.val, bl_then c2.out c3.out⟩
        have hb2 : ∀ c : BW c2.val, Below w.heap.size w c.val := fun c => hb1 ⟨c.val, bl_then c2.out c.out⟩
        have hjN : (j : Int) < N := by omega
        clear hd0 hd1 hd2 hd3 hd4 hd5 hd6 hb1
        refine wp_region_bw (by kernel_rfl) (by kernel_rfl) ?_
        repeat (quiet_step (first | (go_at_call 121; (with_reducible exact (he6 _).bw))))
        refine wpQuiet_nil ?_
        intro c3
        
        go_wp2_with fail
        
        have h3 := H.out.later (hb2 c3)
        have hr3 := HR.out.later (hb2 c3)
        have hz0 := he0 c3
        have hz1 := he1 c3
        have hb3 := hb2 c3
        have hs3 := Nat.le_trans hbw hb3.size
        clear he0 he1 he4 he5 he6 hb2
        generalize c3.val = w3 at *
        have hnx : ¬ DX D M vl w.heap.size := fun e => by have := H.out.at e; omega
        have hcz0 : ∀ W' s' vl', DBuilt n D M base (.slice (some ad) N c) w3 vl W' s' vl' → W'.cell? ⟨w.heap.size, 0, none⟩ = some (.int .i64 n) := fun W' s' vl' hB => hB.2.1.cell hz0 hnx
        have hcz1 : ∀ W' s' vl', DBuilt n D M base (.slice (some ad) N c) w3 vl W' s' vl' → W'.cell? ⟨w.heap.size, 1, none⟩ = some (.int .i64 W) := fun W' s' vl' hB => hB.2.1.cell hz1 hnx
        have hrz : ∀ W' s' vl', DBuilt n D M base (.slice (some ad) N c) w3 vl W' s' vl' → RdC W' (some ad) (ints (natI ord)) := fun W' s' vl' hB => hr3.kp hB.2.1 fun a ha hx => by
          obtain ⟨ha1, ha2, ha3⟩ := HL.out.2.2 a ha
          rcases H.out.far hx with e | e | e
          · exact ha2 e
          · exact ha3 e
          · omega
        have HZ0 := Lib.hid hcz0; have HZ1 := Lib.hid hcz1; have HRZ := Lib.hid hrz; have H3 := Lib.hid h3; clear hcz0 hcz1 hrz h3 hnx hr3
        go_region_held3 (fun w' => w'.cell? ⟨w.heap.size, 0, none⟩ = some (.int .i64 n) ∧ w'.cell? ⟨w.heap.size, 1, none⟩ = some (.int .i64 W)) ((first | go_keep | exact ⟨HZ0.out _ _ _ (by assumption), HZ1.out _ _ _ (by assumption)⟩))
          (first
            | ((go_at_call 123; (with_reducible refine Ret.go (hs1 _) ?_); intro c6; have B6 := B5.trans (DBuilt.of_below B5.1 c6.out)))
            | ((go_at_call 123; (with_reducible refine Ret.go (hs0 _) ?_); intro c4; have B4 := DBuilt.of_below H3.out (bl_then (Below.refl _ _).drew c4.out)))
            | ((go_at_call 85; have hX := HC1.out (bld n vs1 s Wa).2 vl5 _ (by rw [HE.out.1]; exact HL2.out) B6.1 (Nat.le_trans hs3 B6.2.1.size) (HRZ.out _ _ _ B6); (with_reducible refine hX.mono ?_); clear hX; rintro e w7 ⟨vl7, rfl, h7⟩; have B7 := B6.trans h7))
            | ((go_at_call 85; have hX := HC0.out s vl _ (Nat.le_add_right _ _) B4.1 (Nat.le_trans hs3 B4.2.1.size) (HRZ.out _ _ _ B4); (with_reducible refine hX.mono ?_); clear hX; rintro e w5 ⟨vl5, rfl, h5⟩; have B5 := B4.trans h5)))
        
        rw [HE.out.1] at B7 ⊢
        rw [HE.out.2] at B7 ⊢
        have hz70 := HZ0.out _ _ _ B7
        have hz71 := HZ1.out _ _ _ B7
        have hs7 := Nat.le_trans hs3 B7.2.1.size
        clear h5 h7 B4 B5 B6 HZ0 HZ1 HRZ HC0 HC1 H3
        obtain ⟨E7, hE7, hEok⟩ := B7.1.map
        have hB7 := B7.1.blk
        have hc1 := hB7.cell (j := 1) rfl
        have hf1 := hB7.free 1
        have hDl := hB7.lt
        have B := Lib.hid B7; clear B7
        have hu2 := Tryd.underlying61
        have hDx : D ≠ w7.heap.size ∧ M ≠ w7.heap.size := by have := B.out.1.at (.inl rfl); have := B.out.1.at (.inr (.inl rfl)); omega
        have hDn : ¬ vl7.ownBlock = some D := fun e => by have := (own_at B.out.1.nodes e).1; have := B.out.1.lt; omega
        have hMn : ¬ vl7.ownBlock = some M := fun e => by have := (own_at B.out.1.nodes e).1; have := B.out.1.lt; omega
        have hwn : ¬ vl7.ownBlock = some w.heap.size := fun e => by
          rcases B.out.2.2 _ e with e | e
          · have := (own_at H.out.nodes e).2; omega
          · have := hb3.size; have := World.block_lt_of_cell? w3 _ hz0; simp at this; omega
        have HDx := Lib.hid (And.intro hDx (And.intro hDn (And.intro hMn hwn))); clear hDx hDn hMn hwn
        go_upto_region 9 with (at_builtin; refine ap_kp base rfl (.tmp 53) (.tmp 58) 61 94 (.agg #[.int .i64 0, .int .i64 0, .int .i64 0]) 3 24 rfl hu2 info_node rfl (by decide) (by decide) vl7 r2.2.length (ndCells r2.2) rfl (own_later B.out.1.nodes (bl_alloc (Below.refl _ _) _)) ⟨w7.heap.size, 0, none⟩ 1 1 [.int .i64 u, .int .i64 r1.1, .int .i64 r2.1] rfl rfl (Blk.rdl (Blk.new w7 #[.int .i64 u, .int .i64 r1.1, .int .i64 r2.1] 94)) (by simp [Value.oneCell']) (by omega) (by simp; omega) ?_; intro v8 w8 ho8 hk8 hat8; obtain ⟨g8, c8, rfl, hg8, hgl8⟩ := own_pos ho8 (by simp); have hB8 := (hB7.alloc (Obj.cells #[Value.int IntKind.i64 u, Value.int IntKind.i64 r1.1, Value.int IntKind.i64 r2.1] 94)).kp hk8 HDx.out.2.1; have hf8 := hB8.free 1; have hcc8 := hB8.cell (j := 1) rfl; have hll8 := hB8.lt)
        have hz80 := (Kp.of_below (X := fun i => vl7.ownBlock = some i) (bl_alloc (Below.refl _ _) _) |>.trans hk8 (fun _ _ e => e)).cell hz70 HDx.out.2.2.2
        have hz81 := (Kp.of_below (X := fun i => vl7.ownBlock = some i) (bl_alloc (Below.refl _ _) _) |>.trans hk8 (fun _ _ e => e)).cell hz71 HDx.out.2.2.2
        have hB9 : Blk (w8.setCell ⟨D, 1, none⟩ (.slice (some ⟨g8, 0, none⟩) (r2.2.length + 1) c8)) D #[.slice (some ad) N c, .slice (some ⟨g8, 0, none⟩) (r2.2.length + 1) c8, .map (some M)] 101 := by have := hB8.set 1 (.slice (some ⟨g8, 0, none⟩) (r2.2.length + 1) c8); simpa using this
        have hwD : w.heap.size ≠ D := fun e => by have := H.out.at (.inl rfl); omega
        have hMD : M ≠ D := fun e => H.out.lt.2.2 e.symm
        have hz90 : (w8.setCell ⟨D, 1, none⟩ (.slice (some ⟨g8, 0, none⟩) (r2.2.length + 1) c8)).cell? ⟨w.heap.size, 0, none⟩ = some (.int .i64 n) := (Kp.refl (fun i => i = D) w8 |>.set _ fun _ => rfl).cell hz80 hwD
        have hz91 : (w8.setCell ⟨D, 1, none⟩ (.slice (some ⟨g8, 0, none⟩) (r2.2.length + 1) c8)).cell? ⟨w.heap.size, 1, none⟩ = some (.int .i64 W) := (Kp.refl (fun i => i = D) w8 |>.set _ fun _ => rfl).cell hz81 hwD
        have hm9 := map_kp (map_kp (map_later hE7 (bl_alloc (Below.refl _ _) (Obj.cells #[Value.int IntKind.i64 u, Value.int IntKind.i64 r1.1, Value.int IntKind.i64 r2.1] 94))) hk8 HDx.out.2.2.1) (Kp.refl (fun i => i = D) w8 |>.set (p := ⟨D, 1, none⟩) (.slice (some ⟨g8, 0, none⟩) (r2.2.length + 1) c8) fun _ => rfl) hMD
        obtain ⟨W9, hW9⟩ : ∃ W9, W9 = w8.setCell ⟨D, 1, none⟩ (.slice (some ⟨g8, 0, none⟩) (r2.2.length + 1) c8) := ⟨_, rfl⟩
        rw [← hW9] at hB9 hz90 hz91 hm9 ⊢
        have HW9 := Lib.hid hW9; clear hW9 hB8 hcc8 hll8 hf8 hz80 hz81 hz70 hz71 hc1 hf1 hE7 hB7
        have hq0 := hB9.cell (j := 1) rfl
        have hq1 := hB9.cell (j := 2) rfl
        have hsb : IntKind.i64.wrap (((r2.2.length : Nat) : Int) + 1 - 1) = ((r2.2.length : Nat) : Int) := by rw [show (((r2.2.length : Nat) : Int) + 1 - 1) = ((r2.2.length : Nat) : Int) by omega]; exact wrap_i64 _ (by omega) (by omega)
        have hmu := Tryd.underlying99
        go_still_tail 11, (by kernel_rfl)
        change wpList _ _ _ _ _ W9.drew
        have hsb64 : wrap64 (((r2.2.length : Nat) : Int) + 1 - 1) = ((r2.2.length : Nat) : Int) := by rw [show (((r2.2.length : Nat) : Int) + 1 - 1) = ((r2.2.length : Nat) : Int) by omega]; exact wrap64_nat _ (by omega)
        have HS := Lib.hid hsb; clear hsb
        refine wpList_mapUpdate_own W9.drew rfl (.tmp 65) (.tmp 66) (.tmp 72) 99 rfl 30 3 tab_keyed hmu (plainElem Tryd.prog 3) M r2.2.length E7 rfl (map_later hm9 (Below.refl _ _).drew) (by unfold maxLen; omega) (.agg #[.int .i64 n, .int .i64 W]) (.int .i64 ((r2.2.length : Nat) : Int)) (klit n W) rfl (by simp [Act.eval]; exact wrap_i64 _ (by omega) (by omega)) (key_ok (by omega) hW') (.lit (.int .i64 ((r2.2.length : Nat) : Int))) [] (plainElem_int Tryd.underlying3 (wf_nat (by omega))) ?_
        intro w11 hm11 hg11
        have hB11 := (hB9.later (Below.refl _ _).drew).grown hg11 (by simpa using fun e => hMD e.symm)
        have hq11 := hB11.cell (j := 1) rfl
        go_wp2_with fail
        go_ret
        have hpn := HP.out
        have hfin := B.out.1.push hn ⟨u, r1.1, r2.1, W⟩ hW' hpn ho8 hk8 hat8 E7 hEok (hm9.isMap) hm11 (by rw [← HW9.out]; exact (grown_of_bl (Below.refl _ _).drew _).trans hg11)
        have hall := ((DBuilt.of_below H.out hb3).trans B.out).trans hfin
        exact ⟨.slice (some ⟨g8, 0, none⟩) (r2.2.length + 1) c8, by rw [HB.out]; rfl, by rw [HB.out]; exact hall⟩
end Go.Proofs.YtmkgiakngjpfpaaDoor

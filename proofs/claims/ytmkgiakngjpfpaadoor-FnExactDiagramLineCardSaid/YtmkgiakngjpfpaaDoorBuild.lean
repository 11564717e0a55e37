/- The reference's diagram: what it builds is the diagram of the plain model. No conditions. -/
import Derived.Test.YtmkgiakngjpfpaaDoorDof
import Derived.Deep.LoopGhost
import Derived.Deep.DeepCutAuto
set_option linter.unusedVariables false
set_option linter.unusedSimpArgs false
set_option maxRecDepth 100000
namespace Go.Proofs.YtmkgiakngjpfpaaDoor
open Go.RowKit

/-- Nodes, as cells. -/
def ndCells (s : List Nd) : List Value := s.flatMap fun a => [.int .i64 a.var, .int .i64 a.lo, .int .i64 a.hi]
theorem ndCells_append (s t : List Nd) : ndCells (s ++ t) = ndCells s ++ ndCells t := by simp [ndCells]
theorem ndCells_one (s : List Nd) : ∀ u ∈ ndCells s, u.oneCell' = true := by
  intro u hu
  obtain ⟨a, _, hu⟩ := List.mem_flatMap.1 hu
  simp at hu
  rcases hu with rfl | rfl | rfl <;> rfl
def ndWords (s : List Nd) : List Nat := s.map Nd.word
theorem ndWords_append (s t : List Nd) : ndWords (s ++ t) = ndWords s ++ ndWords t := by simp [ndWords]
theorem ndWords_length (s : List Nd) : (ndWords s).length = s.length := by simp [ndWords]
theorem info_node : (Tryd.prog.info? 94).map (fun i => (i.zero, i.size, i.bytes)) = some (some (.agg #[.int .i64 0, .int .i64 0, .int .i64 0]), 3, 24) := by kernel_rfl
/-- The two rows of a diagram under way. -/
structure Two (w : World) (base : Nat) (s : List Nd) (vl vn : Value) : Prop where
  nodes : w.ownsRow base 94 3 vl s.length (ndCells s)
  names : w.ownsRow base 3 1 vn s.length (ints (natI (ndWords s)))
  full : vl.ownBlock ≠ none ∧ vn.ownBlock ≠ none
  apart : ∀ k, vl.ownBlock = some k → vn.ownBlock ≠ some k
def TwoX (vl vn : Value) (i : Nat) : Prop := vl.ownBlock = some i ∨ vn.ownBlock = some i
theorem Two.later {w W : World} {base : Nat} {s : List Nd} {vl vn : Value} (h : Two w base s vl vn) (hb : Below w.heap.size w W) : Two W base s vl vn := ⟨own_later h.nodes hb, own_later h.names hb, h.full, h.apart⟩
/-- What a step of the build leaves. -/
def Built (w : World) (base : Nat) (s : List Nd) (vl vn : Value) (w' : World) (s' : List Nd) (vl' vn' : Value) : Prop :=
  Two w' base s' vl' vn' ∧ Kp (TwoX vl vn) w w' ∧ (∀ k, TwoX vl' vn' k → TwoX vl vn k ∨ w.heap.size ≤ k)
theorem Built.refl {w : World} {base : Nat} {s : List Nd} {vl vn : Value} (h : Two w base s vl vn) : Built w base s vl vn w s vl vn := ⟨h, Kp.refl _ _, fun k hk => .inl hk⟩
theorem Built.of_below {w w' : World} {base : Nat} {s : List Nd} {vl vn : Value} (h : Two w base s vl vn) (hb : Below w.heap.size w w') : Built w base s vl vn w' s vl vn := ⟨h.later hb, Kp.of_below hb, fun k hk => .inl hk⟩
theorem Built.trans {w w1 w2 : World} {base : Nat} {s s1 s2 : List Nd} {vl vn vl1 vn1 vl2 vn2 : Value} (h : Built w base s vl vn w1 s1 vl1 vn1) (k : Built w1 base s1 vl1 vn1 w2 s2 vl2 vn2) : Built w base s vl vn w2 s2 vl2 vn2 := by
  refine ⟨k.1, h.2.1.trans k.2.1 fun i hi hx => ?_, fun i hi => ?_⟩
  · rcases h.2.2 i hx with h1 | h1
    · exact h1
    · omega
  · rcases k.2.2 i hi with h1 | h1
    · rcases h.2.2 i h1 with h2 | h2
      · exact .inl h2
      · exact .inr h2
    · exact .inr (Nat.le_trans h.2.1.size h1)
/-- The mask says which variables have been held. -/
def MaskOf (m : Nat) (pre : List Nat) : Prop := ∀ j, m.testBit j = true ↔ j ∈ pre
/-- What the build leaves. -/
def BPost (n : Nat) (vs : List Nat) (s : List Nd) (W base : Nat) (vl vn : Value) (w : World) : Ending → World → Prop := fun e w' =>
  ∃ vl' vn', e = .returned (.tuple #[.int .i64 (bld n vs s W).1, vl', vn']) ∧ Built w base s vl vn w' (bld n vs s W).2 vl' vn'
theorem len_sub {l l' : List Nat} (h : l.Nodup) (hs : ∀ x ∈ l, x ∈ l') : l.length ≤ l'.length := by
  induction l generalizing l' with
  | nil => simp
  | cons a r ih =>
    obtain ⟨h1, h2⟩ := List.nodup_cons.1 h
    have ha := hs a (by simp)
    have := ih (l' := l'.erase a) h2 fun x hx => (List.mem_erase_of_ne (fun e => h1 (by rw [← e]; exact hx))).2 (hs x (by simp [hx]))
    rw [List.length_erase_of_mem ha] at this
    have := List.length_pos_of_mem ha
    simp only [List.length_cons]
    omega
theorem ord_all {n : Nat} {p : List Nat} (h : IsOrd n p) {i : Nat} (hi : i < n) : i ∈ p := by
  apply Decidable.byContradiction
  intro hn
  have := len_sub (l := i :: p) (l' := List.range n) (List.nodup_cons.2 ⟨hn, h.2.2⟩) fun x hx => by
    rcases List.mem_cons.1 hx with rfl | hx
    · simpa using hi
    · simpa using h.2.1 x hx
  rw [List.length_range, List.length_cons, h.1] at this
  omega
theorem Built.size {w w' : World} {base : Nat} {s s' : List Nd} {vl vn vl' vn' : Value} (h : Built w base s vl vn w' s' vl' vn') : w.heap.size ≤ w'.heap.size := h.2.1.size
theorem Two.lt {w : World} {base : Nat} {s : List Nd} {vl vn : Value} (h : Two w base s vl vn) {k : Nat} (hk : TwoX vl vn k) : base ≤ k ∧ k < w.heap.size := by
  rcases hk with hk | hk
  · exact own_at h.nodes hk
  · exact own_at h.names hk
/-- What lies below the rows, and what is new, is as it was. -/
theorem Blk.rdl {w : World} {b : Nat} {l : List Value} {t : TypeId} (h : Blk w b l.toArray t) : RdC w (some ⟨b, 0, none⟩) l := fun _ => ⟨_, rfl, fun i u hi => by
  rw [add0]
  exact h.cell (by simpa using hi)⟩
theorem Two.push {w : World} {base : Nat} {s : List Nd} {vl vn : Value} (h : Two w base s vl vn) (hbw : base ≤ w.heap.size) (nd : Nd) {o1 o2 : Obj} {v6 v7 : Value} {w6 w7 : World}
    (ho6 : w6.ownsRow base 94 3 v6 (s.length + 1) (ndCells s ++ [.int .i64 nd.var, .int .i64 nd.lo, .int .i64 nd.hi])) (hk6 : Kp (fun i => vl.ownBlock = some i) (w.alloc o1) w6) (hat6 : v6.ownBlock = vl.ownBlock ∨ v6.ownBlock = some (w.alloc o1).heap.size)
    (ho7 : w7.ownsRow base 3 1 v7 (s.length + 1) (ints (natI (ndWords s)) ++ [.int .i64 nd.word])) (hk7 : Kp (fun i => vn.ownBlock = some i) (w6.alloc o2) w7) (hat7 : v7.ownBlock = vn.ownBlock ∨ v7.ownBlock = some (w6.alloc o2).heap.size) :
    Built w base s vl vn w7 (s ++ [nd]) v6 v7 := by
  have hs1 : (w.alloc o1).heap.size = w.heap.size + 1 := by simp
  have hs2 : (w6.alloc o2).heap.size = w6.heap.size + 1 := by simp
  have hs6 := hk6.size
  have hl : ∀ k, vl.ownBlock = some k → k < w.heap.size := fun k hk => (h.lt (.inl hk)).2
  have hnn : ∀ k, vn.ownBlock = some k → k < w.heap.size := fun k hk => (h.lt (.inr hk)).2
  have h6 : ∀ k, v6.ownBlock = some k → vl.ownBlock = some k ∨ (w.heap.size < k ∧ k < w6.heap.size) := fun k hk => by
    rcases hat6 with e | e
    · exact .inl (by rw [← e]; exact hk)
    · have := (own_at ho6 hk).2
      rw [e] at hk
      cases hk
      exact .inr ⟨by omega, this⟩
  have h7 : ∀ k, v7.ownBlock = some k → vn.ownBlock = some k ∨ w6.heap.size < k := fun k hk => by
    rcases hat7 with e | e
    · exact .inl (by rw [← e]; exact hk)
    · rw [e] at hk
      cases hk
      exact .inr (by omega)
  refine ⟨⟨?_, ?_, ⟨?_, ?_⟩, ?_⟩, ?_, ?_⟩
  · have := own_kp (own_later ho6 (bl_alloc (Below.refl _ _) o2)) hk7 fun k hk e => by
      rcases h6 k hk with e2 | e2
      · exact h.apart k e2 e
      · have := hnn k e
        omega
    rw [ndCells_append, List.length_append]
    simpa [ndCells] using this
  · rw [ndWords_append, natI_append, ints_append, List.length_append]
    simpa [ndWords, natI, ints] using ho7
  · rcases hat6 with e | e
    · rw [e]; exact h.full.1
    · rw [e]; simp
  · rcases hat7 with e | e
    · rw [e]; exact h.full.2
    · rw [e]; simp
  · intro k hk e
    rcases h6 k hk with e1 | e1
    · rcases h7 k e with e2 | e2
      · exact h.apart k e1 e2
      · have := hl k e1
        omega
    · rcases h7 k e with e2 | e2
      · have := hnn k e2
        omega
      · omega
  · have hk1 : Kp (TwoX vl vn) w w6 := (Kp.of_below (bl_alloc (Below.refl _ _) o1)).trans hk6 fun i _ e => .inl e
    exact (hk1.alloc o2).trans hk7 fun i _ e => .inr e
  · intro k hk
    rcases hk with hk | hk
    · rcases h6 k hk with e | e
      · exact .inl (.inl e)
      · exact .inr (by omega)
    · rcases h7 k hk with e | e
      · exact .inl (.inr e)
      · exact .inr (by omega)
theorem Built.cell {w w' : World} {base : Nat} {s s' : List Nd} {vl vn vl' vn' : Value} (h : Built w base s vl vn w' s' vl' vn') {p : Addr} {u : Value} (hc : w.cell? p = some u) (hx : ¬ TwoX vl vn p.block) : w'.cell? p = some u := h.2.1.cell hc hx
theorem slice_rd {w : World} {base n : Nat} {e : TypeId} {size : Nat} {v : Value} {xs : List Value} (h : w.ownsRow base e size v n xs) (hf : v.ownBlock ≠ none) : ∃ g c, v = .slice (some ⟨g, 0, none⟩) n c ∧ RdC w (some ⟨g, 0, none⟩) xs := by
  obtain ⟨A, c, rfl, hr⟩ := own_rd h
  cases A with
  | none => exact absurd rfl hf
  | some ad =>
    obtain ⟨g, c', e, _⟩ := own_some h hf
    simp only [Value.slice.injEq, Option.some.injEq] at e
    obtain ⟨rfl, -, rfl⟩ := e
    exact ⟨g, c, rfl, hr⟩
set_option maxHeartbeats 800000 in
theorem s_l19Build_const (n F m v : Nat) (hn : n ≤ 5) (hF : F < 2 ^ 2 ^ n) (hm : m < 2 ^ n) (hv : v < 2 ^ n) (hin : Inside v m) (hcst : isConst n (cubeW n F m v) = true) (o : Value) (L : Int) (vl vn : Value) (w : World) :
    Calls Tryd.prog 80 #[.agg #[.int .i64 n, .int .i64 F], o, .int .i64 L, .int .i64 m, .int .i64 v, vl, vn] w fun e w' => e = .returned (.tuple #[.int .i64 (endOf (cubeW n F m v)), vl, vn]) ∧ Below w.heap.size w w' := by
  have hu := Tryd.underlying30
  obtain ⟨hc0, hc1⟩ := box2 w (.int .i64 n) (.int .i64 F) 30
  obtain ⟨b, hb⟩ : ∃ b, b = bitAt (cubeW n F m v) 0 := ⟨_, rfl⟩
  have hb1 : b ≤ 1 := by rw [hb]; exact bitAt_le _ _
  have hq : ∀ W', Ret Tryd.prog 114 #[.agg #[.int .i64 n, .int .i64 F], .int .i64 m, .int .i64 v] W' (.int .i64 b) := fun W' => by
    have := s_l3Cube n F m v hn hF hm hv hin W'
    rwa [show cubeOut n F m v = b by unfold cubeOut; rw [if_pos hcst, hb]] at this
  have hsub : wrap64 ((b : Int) - 2) = (b : Int) - 2 := IntWalk.wrap64_in _ (by omega)
  have he : endOf (cubeW n F m v) = (b : Int) - 2 := by unfold endOf; rw [hb]
  rw [he]
  have HB := Lib.hid hb; clear hb hcst he
  go_enter Tryd.func80, Tryd.ntmps80
  go_wp2_with (go_at_call 114; (with_reducible refine Ret.go (hq _) ?_); intro c1)
  go_ret3
  exact ⟨rfl, bl⟩
set_option maxRecDepth 100000 in
set_option maxHeartbeats 3200000 in
theorem s_l19Build (n F : Nat) (hn : n ≤ 5) (hF : F < 2 ^ 2 ^ n) (ord : List Nat) (ho : IsOrd n ord) (A : Option Addr) (c base : Nat) (hA : ∀ ad, A = some ad → ad.block < base) :
    ∀ (vs pre : List Nat) (m v : Nat) (s : List Nd) (vl vn : Value) (w : World), ord = pre ++ vs → MaskOf m pre → m < 2 ^ n → v < 2 ^ n → Inside v m → Two w base s vl vn → base ≤ w.heap.size → RdC w A (ints (natI ord)) → s.length + 2 ^ vs.length ≤ 100000 →
    Calls Tryd.prog 80 #[.agg #[.int .i64 n, .int .i64 F], .slice A ord.length c, .int .i64 pre.length, .int .i64 m, .int .i64 v, vl, vn] w (BPost n vs s (cubeW n F m v) base vl vn w) := by
  intro vs
  induction vs with
  | nil =>
    intro pre m v s vl vn w hord hmask hm hv hin h2 hbw hr hlen
    rw [List.append_nil] at hord
    subst hord
    have hW := cubeW_lt n F m v
    have hcst : isConst n (cubeW n F m v) = true := const_of_indep hW fun i hi => cube_dep hi ((hmask i).2 (ord_all ho hi))
    refine (s_l19Build_const n F m v hn hF hm hv hin hcst _ _ vl vn w).mono ?_
    rintro e w' ⟨rfl, hb⟩
    exact ⟨vl, vn, by rw [bld_const hcst], by rw [bld_const hcst]; exact Built.of_below h2 hb⟩
  | cons u vs ih =>
    intro pre m v s vl vn w hord hmask hm hv hin h2 hbw hr hlen
    cases hcst : isConst n (cubeW n F m v) with
    | true =>
      refine (s_l19Build_const n F m v hn hF hm hv hin hcst _ _ vl vn w).mono ?_
      rintro e w' ⟨rfl, hb⟩
      exact ⟨vl, vn, by rw [bld_const hcst], by rw [bld_const hcst]; exact Built.of_below h2 hb⟩
    | false =>
    have hu := Tryd.underlying30
    have hu1 := Tryd.underlying31
    have hu2 := Tryd.underlying61
    obtain ⟨hc0, hc1⟩ := box2 w (.int .i64 n) (.int .i64 F) 30
    have hW := cubeW_lt n F m v
    have hun : u < n := ho.2.1 u (by rw [hord]; simp)
    have hupre : u ∉ pre := by
      have := ho.2.2
      rw [hord, List.nodup_append] at this
      intro h
      exact this.2.2 u h u (by simp) rfl
    have hmu : m.testBit u = false := by
      cases h : m.testBit u with
      | false => rfl
      | true => exact absurd ((hmask u).1 h) hupre
    obtain ⟨N, hN⟩ : ∃ N, N = ord.length := ⟨_, rfl⟩
    obtain ⟨L, hL⟩ : ∃ L, L = pre.length := ⟨_, rfl⟩
    have hLN : L < N := by rw [hN, hL, hord]; simp
    have hN5 : N ≤ 5 := by rw [hN, ho.1]; exact hn
    obtain ⟨ad, rfl, _⟩ := hr.int (i := L) (by rw [natI_length, ← hN]; exact hLN)
    have hadb := hA ad rfl
    have hou : ord.getD L 0 = u := by rw [hord, hL, List.getD_eq_getElem?_getD, List.getElem?_append_right (Nat.le_refl _)]; simp
    have hcell : w.cell? (ad.add L) = some (.int .i64 u) := by
      obtain ⟨ad', e, hc⟩ := hr.int (i := L) (by rw [natI_length, ← hN]; exact hLN)
      cases e
      rwa [natI_get (by rw [← hN]; exact hLN), hou] at hc
    rw [← hN, ← hL]
    obtain ⟨Wd, hWd⟩ : ∃ Wd, Wd = cubeW n F m v := ⟨_, rfl⟩
    obtain ⟨U, hU⟩ : ∃ U, U = 2 ^ u := ⟨_, rfl⟩
    have hU1 : U < 2 ^ n := by rw [hU]; exact two_pow_lt hun
    have hp32 := pow_small hn
    have hm32 : m < 32 := Nat.lt_of_lt_of_le hm hp32
    have hv32 : v < 32 := Nat.lt_of_lt_of_le hv hp32
    have hshu : wrap64 (2 ^ u) = (U : Int) := by rw [hU]; exact shl_one' _ (by omega)
    obtain ⟨M, hM⟩ : ∃ M, M = m ||| U := ⟨_, rfl⟩
    obtain ⟨V, hV⟩ : ∃ V, V = v ||| U := ⟨_, rfl⟩
    have hM2 : M < 2 ^ n := by rw [hM]; exact Nat.or_lt_two_pow hm hU1
    have hV2 : V < 2 ^ n := by rw [hV]; exact Nat.or_lt_two_pow hv hU1
    have hU32 : U < 32 := Nat.lt_of_lt_of_le hU1 hp32
    have horm := i64_or m U (Nat.lt_of_lt_of_le hm32 (by decide)) (Nat.lt_of_lt_of_le hU32 (by decide))
    have horv := i64_or v U (Nat.lt_of_lt_of_le hv32 (by decide)) (Nat.lt_of_lt_of_le hU32 (by decide))
    rw [← hM] at horm
    rw [← hV] at horv
    have hs0 : cubeW n F M v = stuckW n Wd u 0 := by rw [hWd, hM, hU]; exact cube_low hun hmu hin
    have hs1 : cubeW n F M V = stuckW n Wd u 1 := by rw [hWd, hM, hV, hU]; exact cube_high hun hmu hin
    have hinM : Inside v M := by rw [hM, hU]; exact inside_more hin
    have hinV : Inside V M := by
      have := inside_or (i := u) (b := 1) (by decide) hin
      rw [hM, hV, hU]
      simpa using this
    have hmaskM : MaskOf M (pre ++ [u]) := by
      intro j
      rw [hM, hU, Nat.testBit_or, Nat.testBit_two_pow, List.mem_append, List.mem_singleton, Bool.or_eq_true, hmask j, decide_eq_true_eq]
      exact ⟨fun h => h.imp id Eq.symm, fun h => h.imp id Eq.symm⟩
    have hw0 : ∀ W', Ret Tryd.prog 115 #[.agg #[.int .i64 n, .int .i64 F], .int .i64 M, .int .i64 v] W' (.int .i64 (stuckW n Wd u 0)) := fun W' => by have := s_l19Word n F M v hn hF hM2 hv hinM W'; rwa [hs0] at this
    have hw1 : ∀ W', Ret Tryd.prog 115 #[.agg #[.int .i64 n, .int .i64 F], .int .i64 M, .int .i64 V] W' (.int .i64 (stuckW n Wd u 1)) := fun W' => by have := s_l19Word n F M V hn hF hM2 hV2 hinV W'; rwa [hs1] at this
    have hw2 : ∀ W', Ret Tryd.prog 115 #[.agg #[.int .i64 n, .int .i64 F], .int .i64 m, .int .i64 v] W' (.int .i64 Wd) := fun W' => by have := s_l19Word n F m v hn hF hm hv hin W'; rwa [← hWd] at this
    have hcubeE : cubeOut n F m v = 2 := by unfold cubeOut; rw [hcst]; rfl
    have hq : ∀ W', Ret Tryd.prog 114 #[.agg #[.int .i64 n, .int .i64 F], .int .i64 m, .int .i64 v] W' (.int .i64 2) := fun W' => by have := s_l3Cube n F m v hn hF hm hv hin W'; rwa [hcubeE] at this
    rw [← hWd] at hW hcst ⊢
    -- the two calls
    have hcall0 : ∀ W', Two W' base s vl vn → base ≤ W'.heap.size → RdC W' (some ad) (ints (natI ord)) → Calls Tryd.prog 80 #[.agg #[.int .i64 n, .int .i64 F], .slice (some ad) N c, .int .i64 (L + 1), .int .i64 M, .int .i64 v, vl, vn] W' (BPost n vs s (stuckW n Wd u 0) base vl vn W') := fun W' k2 kb kr => by
      have := ih (pre ++ [u]) M v s vl vn W' (by rw [hord]; simp) hmaskM hM2 hv hinM k2 kb kr (by rw [List.length_cons, Nat.pow_succ] at hlen; omega)
      rw [hs0, List.length_append, ← hN, ← hL] at this
      exact this
    have hcall1 : ∀ (s' : List Nd) (vl' vn' : Value) W', s'.length ≤ s.length + 2 ^ vs.length → Two W' base s' vl' vn' → base ≤ W'.heap.size → RdC W' (some ad) (ints (natI ord)) → Calls Tryd.prog 80 #[.agg #[.int .i64 n, .int .i64 F], .slice (some ad) N c, .int .i64 (L + 1), .int .i64 M, .int .i64 V, vl', vn'] W' (BPost n vs s' (stuckW n Wd u 1) base vl' vn' W') := fun s' vl' vn' W' kl k2 kb kr => by
      have := ih (pre ++ [u]) M V s' vl' vn' W' (by rw [hord]; simp) hmaskM hM2 hV2 hinV k2 kb kr (by rw [List.length_cons, Nat.pow_succ] at hlen; omega)
      rw [hs1, List.length_append, ← hN, ← hL] at this
      exact this
    have H0 := Lib.hid hcall0; have H1 := Lib.hid hcall1; clear hcall0 hcall1 ih
    have H2 := Lib.hid h2; clear h2
    clear hM hV hU hs0 hs1 hmask hin hinM hinV hmaskM hord hcubeE
    have HN := Lib.hid (And.intro hou (And.intro hWd hN)); clear hou hWd hL
    have HC := Lib.hid hcst; clear hcst
    have HL := Lib.hid hlen; clear hlen
    have HR := Lib.hid hr; clear hr
    have hcw : ∀ c : BW w, c.val.cell? (ad.add L) = some (.int .i64 u) := fun c => c.cell hcell
    have hcu2 : ∀ c : BW (w.alloc (Obj.cells #[Value.int IntKind.i64 ↑n, Value.int IntKind.i64 ↑F] 30)), c.val.cell? (ad.add L) = some (.int .i64 u) := fun c => hcw ⟨c.val, below_box c⟩
    have HH := Lib.hid hcell; clear hcell
    clear hN hcw
    cases hdep : dep n Wd u with
    | false =>
      have heq : stuckW n Wd u 0 = stuckW n Wd u 1 := by unfold dep at hdep; simpa using hdep
      have hne : (((stuckW n Wd u 0 : Nat) : Int) == ((stuckW n Wd u 1 : Nat) : Int)) = true := by rw [heq]; simp
      have hst : stuckW n Wd u 0 = Wd := stuck_indep hW hdep (by decide)
      have hb : bld n (u :: vs) s Wd = bld n vs s Wd := bld_skip [u] vs s HC.out (fun z hz => by rw [List.mem_singleton.1 hz]; exact hdep)
      have HD := Lib.hid (And.intro hst hb); clear heq hst hb hdep
      go_enter Tryd.func80, Tryd.ntmps80
      go_upto_region 5 with (go_at_call 114; (with_reducible refine Ret.go (hq _) ?_); intro c1)
      refine wp_region_bw (by kernel_rfl) (by kernel_rfl) ?_
      have hd0 : ∀ c : BW c1.val, c.val.cell? ⟨w.heap.size, 0, none⟩ = some (.int .i64 n) := fun c => hc0 ⟨c.val, bl_then c1.out c.out⟩
      have hd1 : ∀ c : BW c1.val, c.val.cell? ⟨w.heap.size, 1, none⟩ = some (.int .i64 F) := fun c => hc1 ⟨c.val, bl_then c1.out c.out⟩
      repeat (quiet_step (first | (go_at_call 115; (with_reducible exact (hw0 _).bw)) | (go_at_call 115; (with_reducible exact (hw1 _).bw))))
      refine wpQuiet_nil ?_
      intro c2
      have hb2 : Below w.heap.size w c2.val := bl_then (bl_alloc (Below.refl _ _) _) (bl_then c1.out c2.out)
      have hx := H0.out c2.val (H2.out.later hb2) (Nat.le_trans hbw hb2.size) (HR.out.later hb2)
      have HX := Lib.hid hx; clear hx
      go_wp2_with (go_at_call 80; refine HX.out.mono ?_; rintro e w3 ⟨vl3, vn3, rfl, h3⟩)
      go_ret3
      obtain ⟨hst, hb⟩ := HD.out
      rw [hst] at h3 ⊢
      exact ⟨vl3, vn3, by rw [hb]; rfl, by rw [hb]; exact (Built.of_below H2.out hb2).trans h3⟩
    | true =>
      have hne : stuckW n Wd u 0 ≠ stuckW n Wd u 1 := by unfold dep at hdep; simpa using hdep
      have hneb : (((stuckW n Wd u 0 : Nat) : Int) == ((stuckW n Wd u 1 : Nat) : Int)) = false := by simp; omega
      obtain ⟨gn, cn, rfl, hrn⟩ := slice_rd H2.out.names H2.out.full.2
      have HD := Lib.hid (And.intro hdep hne); clear hdep hne
      go_enter Tryd.func80, Tryd.ntmps80
      go_upto_region 5 with (go_at_call 114; (with_reducible refine Ret.go (hq _) ?_); intro c1)
      refine wp_region_bw (by kernel_rfl) (by kernel_rfl) ?_
      have hd0 : ∀ c : BW c1.val, c.val.cell? ⟨w.heap.size, 0, none⟩ = some (.int .i64 n) := fun c => hc0 ⟨c.val, bl_then c1.out c.out⟩
      have hd1 : ∀ c : BW c1.val, c.val.cell? ⟨w.heap.size, 1, none⟩ = some (.int .i64 F) := fun c => hc1 ⟨c.val, bl_then c1.out c.out⟩
      repeat (quiet_step (first | (go_at_call 115; (with_reducible exact (hw0 _).bw)) | (go_at_call 115; (with_reducible exact (hw1 _).bw))))
      refine wpQuiet_nil ?_
      intro c2
      go_wp2_with (go_at_call 115; (with_reducible refine Ret.on (hw2 _) ?_); intro c3)
      have hb3 : Below w.heap.size w c3.val := bl_then (bl_alloc (Below.refl _ _) _) (bl_then c1.out c3.out)
      have hz0 := hd0 c3
      have hz1 := hd1 c3
      clear hd0 hd1 hc0 hc1 hw0 hw1 hw2 hq
      have hrn3 := hrn.later hb3
      have hwl : (ndWords s).length = s.length := ndWords_length s
      have hls : s.length ≤ 100000 := Nat.le_trans (Nat.le_add_right _ _) HL.out
      have HW := Lib.hid hwl; clear hwl
      generalize c3.val = w3 at *
      go_loop [23] (fun i => ∃ k : Nat, k ≤ s.length ∧ i = .int .i64 k ∧ Hid (∀ j, j < k → (ndWords s).getD j 0 ≠ Wd)) (fun i => s.length - (intOf i).toNat)
      case atStart => exact ⟨0, Nat.zero_le _, rfl, Lib.hid fun j hj => absurd hj (by omega)⟩
      case round =>
        obtain ⟨k, hk, rfl, hseen⟩ := hrel
        by_cases hlt : k < s.length
        · obtain ⟨ad', hA', hc⟩ := hrn3.int (i := k) (by rw [natI_length, HW.out]; exact hlt)
          cases hA'
          rw [natI_get (by rw [HW.out]; exact hlt), add0] at hc
          obtain ⟨y, hy⟩ : ∃ y, y = (ndWords s).getD k 0 := ⟨_, rfl⟩
          rw [← hy] at hc
          have HY := Lib.hid hy; clear hy
          by_cases hyw : y = Wd
          · have hyb : (((y : Nat) : Int) == ((Wd : Nat) : Int)) = true := by simp [hyw]
            have HYW := Lib.hid hyw; clear hyw
            go_wp2_with fail
            go_ret3
            have hp := pos_some hlt (by show (ndWords s).getD k 0 = Wd; rw [← HY.out]; exact HYW.out) hseen.out
            have hb : bld n (u :: vs) s Wd = ((k : Int), s) := by rw [bld, if_neg (by rw [HC.out]; simp), if_pos HD.out.1, hp]
            exact ⟨vl, _, by rw [hb]; rfl, by rw [hb]; exact Built.of_below H2.out hb3⟩
          · have hyb : (((y : Nat) : Int) == ((Wd : Nat) : Int)) = false := by simp; omega
            have hseen2 : Hid (∀ j, j < k + 1 → (ndWords s).getD j 0 ≠ Wd) := Lib.hid fun j hj => by
              by_cases e : j = k
              · rw [e, ← HY.out]; exact hyw
              · exact hseen.out j (by omega)
            clear hyw
            go_wp2_with fail
            go_round
            case rel => exact ⟨k + 1, by omega, by go_num, hseen2⟩
            case measure => simp [intOf]; omega
        · obtain rfl : k = s.length := by omega
          have hp := pos_none' hseen.out
          have hb : bld n (u :: vs) s Wd = (((bld n vs (bld n vs s (stuckW n Wd u 0)).2 (stuckW n Wd u 1)).2.length : Int), (bld n vs (bld n vs s (stuckW n Wd u 0)).2 (stuckW n Wd u 1)).2 ++ [⟨u, (bld n vs s (stuckW n Wd u 0)).1, (bld n vs (bld n vs s (stuckW n Wd u 0)).2 (stuckW n Wd u 1)).1, Wd⟩]) := by
            rw [bld, if_neg (by rw [HC.out]; simp), if_pos HD.out.1, hp]
          have hl1 := bld_len (n := n) vs s (stuckW n Wd u 0)
          generalize hr1 : bld n vs s (stuckW n Wd u 0) = r1 at hb hl1
          have hl2 := bld_len (n := n) vs r1.2 (stuckW n Wd u 1)
          have hcall1 := H1.out r1.2
          generalize hr2 : bld n vs r1.2 (stuckW n Wd u 1) = r2 at hb hl2
          have hlen2 : r1.2.length ≤ s.length + 2 ^ vs.length := by omega
          have hlen3 : r2.2.length ≤ 100000 := by
            have := HL.out
            rw [List.length_cons, Nat.pow_succ] at this
            omega
          have hx0 := H0.out w3 (H2.out.later hb3) (Nat.le_trans hbw hb3.size) (HR.out.later hb3)
          have HX := Lib.hid hx0; clear hx0 hp hrn3 hseen hl1 hl2
          have HE := Lib.hid (And.intro hr1 hr2); clear hr1 hr2
          have HC1 := Lib.hid hcall1; clear hcall1
          have HB := Lib.hid hb; clear hb
          have HL2 := Lib.hid hlen2; clear hlen2
          go_wp2_with fail
          refine HX.out.mono ?_
          rintro e w4 ⟨vl4, vn4, rfl, h4⟩
          rw [HE.out.1] at h4 ⊢
          have hbox : ¬ TwoX vl (.slice (some ⟨gn, 0, none⟩) s.length cn) w.heap.size := fun h => by have := (H2.out.lt h).2; omega
          have hba : ∀ k, TwoX vl (.slice (some ⟨gn, 0, none⟩) s.length cn) k → base ≤ k := fun k hk => (H2.out.lt hk).1
          have hy0 := h4.cell hz0 hbox
          have hy1 := h4.cell hz1 hbox
          have hr4 := (HR.out.later hb3).kp h4.2.1 fun a ha hx => by have := hA a ha; have := hba _ hx; omega
          have hb4 := Nat.le_trans (Nat.le_trans hbw hb3.size) h4.size
          have hw4 := Nat.le_trans hb3.size h4.size
          have hx1 := HC1.out vl4 vn4 w4 HL2.out h4.1 hb4 hr4
          have HX1 := Lib.hid hx1; clear hx1
          have HZ := Lib.hid (And.intro hz0 hz1)
          have H4 := Lib.hid h4; clear h4
          clear hy0 hy1 hz0 hz1
          have hy0' := H4.out.cell (p := ⟨w.heap.size, 0, none⟩) (HZ.out.1) hbox
          have hy1' := H4.out.cell (p := ⟨w.heap.size, 1, none⟩) (HZ.out.2) hbox
          go_wp2_with fail
          refine HX1.out.mono ?_
          rintro e w5 ⟨vl5, vn5, rfl, h5⟩
          rw [HE.out.2] at h5 ⊢
          have h45 := H4.out.trans h5
          have hba5 : ∀ k, TwoX vl4 vn4 k → base ≤ k := fun k hk => (H4.out.1.lt hk).1
          have hr5 := hr4.kp h5.2.1 fun a ha hx => by have := hA a ha; have := hba5 _ hx; omega
          obtain ⟨ad5, hA5, hcell5⟩ := hr5.int (i := L) (by rw [natI_length, ← HN.out.2.2]; exact hLN)
          cases hA5
          rw [natI_get (by rw [← HN.out.2.2]; exact hLN), HN.out.1] at hcell5
          obtain ⟨gl, cl, rfl, hgb, hgl⟩ := own_some h5.1.nodes h5.1.full.1
          have hb5 := Nat.le_trans hb4 h5.size
          have hbl5 : Built w base s vl (.slice (some ⟨gn, 0, none⟩) s.length cn) w5 r2.2 (.slice (some ⟨gl, 0, none⟩) r2.2.length cl) vn5 := (Built.of_below H2.out hb3).trans h45
          have H5 := Lib.hid h5; have HL5 := Lib.hid hbl5; clear h5 hbl5 h45 hy0' hy1' hr5 hr4
          generalize hs2 : r2.2.length = K at *
          have HS2 := Lib.hid hs2; clear hs2
          go_wp2_with (first
            | (at_builtin; refine ap_kp base rfl (.tmp 131) (.tmp 139) 61 94 (.agg #[.int .i64 0, .int .i64 0, .int .i64 0]) 3 24 rfl hu2 info_node rfl (by decide) (by decide) (.slice (some ⟨gl, 0, none⟩) K cl) K (ndCells r2.2) rfl (own_later (by have := H5.out.1.nodes; rwa [HS2.out] at this) (bl_alloc (Below.refl _ _) _)) ⟨w5.heap.size, 0, none⟩ 1 1 [.int .i64 u, .int .i64 r1.1, .int .i64 r2.1] rfl rfl (Blk.rdl (Blk.new w5 #[.int .i64 u, .int .i64 r1.1, .int .i64 r2.1] 94)) (by simp [Value.oneCell']) (by omega) (by simp; omega) ?_; intro v6 w6 ho6 hk6 hat6)
            | (at_builtin; refine ap_kp base rfl (.tmp 141) (.tmp 143) 31 3 (.int .i64 0) 1 8 rfl hu1 info_int rfl (by decide) (by decide) vn5 K (ints (natI (ndWords r2.2))) rfl (own_later (own_kp (own_later (by have := H5.out.1.names; rwa [HS2.out] at this) (bl_alloc (Below.refl _ _) _)) hk6 (fun k hk e => H5.out.1.apart k e hk)) (bl_alloc (Below.refl _ _) _)) ⟨w6.heap.size, 0, none⟩ 1 1 [.int .i64 Wd] rfl rfl (Blk.rdl (Blk.new w6 #[.int .i64 Wd] 3)) (by simp [Value.oneCell']) (by omega) (by have := hk6.size; simp at this ⊢; omega) ?_; intro v7 w7 ho7 hk7 hat7))
          go_ret3
          rw [← HS2.out] at ho6 ho7
          have hp7 := Two.push (nd := ⟨u, r1.1, r2.1, Wd⟩) H5.out.1 hb5 ho6 hk6 hat6 ho7 hk7 hat7
          exact ⟨v6, v7, by rw [HB.out]; rfl, by rw [HB.out]; exact HL5.out.trans hp7⟩
end Go.Proofs.YtmkgiakngjpfpaaDoor

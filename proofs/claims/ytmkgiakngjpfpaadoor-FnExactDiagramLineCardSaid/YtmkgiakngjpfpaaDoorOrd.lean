/- The first order of least size, of both. No conditions. -/
import Derived.Test.YtmkgiakngjpfpaaDoorSiz
import Derived.Test.YtmkgiakngjpfpaaDoorPermP
import Derived.Test.YtmkgiakngjpfpaaDoorSm
set_option linter.unusedVariables false
set_option linter.unusedSimpArgs false
set_option maxRecDepth 100000
namespace Go.Proofs.YtmkgiakngjpfpaaDoor
open Go.RowKit

/-- The first of the least of the first k. -/
def bestAt (f : Nat → Nat) : Nat → Nat
  | 0 => 0
  | k + 1 => if f k < f (bestAt f k) then k else bestAt f k
theorem bestAt_lt (f : Nat → Nat) : ∀ k, 0 < k → bestAt f k < k
  | 0, h => absurd h (Nat.lt_irrefl _)
  | k + 1, _ => by
    unfold bestAt
    split
    · omega
    · by_cases h : 0 < k
      · have := bestAt_lt f k h; omega
      · obtain rfl : k = 0 := by omega
        show 0 < 1; omega
theorem bestAt_one (f : Nat → Nat) : bestAt f 1 = 0 := by unfold bestAt; split <;> rfl
def ordAt (n i : Nat) : List Nat := (grow n n []).getD i []
def ordNum (n : Nat) : Nat := (grow n n []).length
def ordF (n W i : Nat) : Nat := (nodesOf n W (ordAt n i)).length
def bestI (n W : Nat) : Nat := bestAt (ordF n W) (ordNum n)
theorem grow_some : ∀ n, n < 5 → 0 < (grow n n []).length ∧ (grow n n []).length ≤ 24 := by decide +kernel
theorem grow_good : ∀ n, n < 5 → ∀ p ∈ grow n n [], p.length = n ∧ (∀ x ∈ p, x < n) ∧ p.Nodup := by decide +kernel
theorem ordNum_pos {n : Nat} (hn : n ≤ 4) : 0 < ordNum n := (grow_some n (by omega)).1
theorem ordNum_le {n : Nat} (hn : n ≤ 4) : ordNum n ≤ 24 := (grow_some n (by omega)).2
theorem ordAt_ord {n i : Nat} (hn : n ≤ 4) (hi : i < ordNum n) : IsOrd n (ordAt n i) := by
  have : ordAt n i = (grow n n [])[i] := by unfold ordAt; rw [List.getD_eq_getElem?_getD, List.getElem?_eq_getElem hi]; rfl
  rw [this]
  exact grow_good n (by omega) _ (List.getElem_mem hi)
theorem ordF_le {n W i : Nat} (hn : n ≤ 4) (hi : i < ordNum n) : ordF n W i ≤ 32 := nodesOf_len (by omega) (ordAt_ord hn hi)
/-- What a row of orders is for a walk. -/
theorem ord_row {n : Nat} {w : World} {base : Nat} {vs : List Value} (h : RowsOf w base vs (grow n n [])) {i : Nat} (hi : i < ordNum n) :
    ∃ A c, vs[i]? = some (.slice A (ordAt n i).length c) ∧ RdC w A (ints (natI (ordAt n i))) ∧ (∀ ad, A = some ad → ad.block < w.heap.size) ∧ w.ownsRow base 3 1 (.slice A (ordAt n i).length c) (ordAt n i).length (ints (natI (ordAt n i))) := by
  have e : (grow n n [])[i]? = some (ordAt n i) := by unfold ordAt; rw [List.getD_eq_getElem?_getD, List.getElem?_eq_getElem hi]; rfl
  have hv : i < vs.length := by rw [h.1]; exact hi
  have ho := h.2 i vs[i] _ (List.getElem?_eq_getElem hv) e
  obtain ⟨A, c, hs, hr, hb⟩ := own_rd' ho
  rw [hs] at ho
  exact ⟨A, c, by rw [List.getElem?_eq_getElem hv, hs], hr, fun ad had => (own_at ho (by rw [← hs]; exact hb ad had)).2, ho⟩
def RetL (f : FuncId) (args : Array Value) (w : World) (l : List Nat) (num : Nat) (ok : Bool) : Prop := Calls Tryd.prog f args w fun e w' => ∃ v, e = .returned (.tuple #[v, .int .i64 num, .bool ok]) ∧ w'.ownsRow w.heap.size 3 1 v l.length (ints (natI l)) ∧ Below w.heap.size w w'
set_option maxHeartbeats 1600000 in
theorem s_LeastOrder_no (b x : Int) (hs : isSm b x 4 = false) (w : World) : RetL 38 #[.agg #[.int .i64 b, .int .i64 x]] w [] 0 false := by
  unfold RetL
  have hu := Tryd.underlying30
  obtain ⟨hc0, hc1⟩ := box2 w (.int .i64 b) (.int .i64 x) 30
  cases ht : isTab b x with
  | false =>
    have hq : ∀ W', Ret Tryd.prog 70 #[.agg #[.int .i64 b, .int .i64 x]] W' (.bool false) := fun W' => by have := s_IsTable b x W'; rwa [ht] at this
    clear ht hs
    go_enter Tryd.func38, Tryd.ntmps38
    go_wp2_with (go_at_call 70; (with_reducible refine Ret.go (hq _) ?_); intro c)
    go_ret3
    exact ⟨_, rfl, World.ownsRow_lit c.val #[] 0 (below_box c).size (by decide) rfl, bl⟩
  | true =>
    have hb4 : 4 < b := by
      unfold isSm at hs
      rw [ht] at hs
      simp at hs
      omega
    have hq : ∀ W', Ret Tryd.prog 70 #[.agg #[.int .i64 b, .int .i64 x]] W' (.bool true) := fun W' => by have := s_IsTable b x W'; rwa [ht] at this
    clear ht hs
    go_enter Tryd.func38, Tryd.ntmps38
    go_wp2_with (go_at_call 70; (with_reducible refine Ret.go (hq _) ?_); intro c)
    go_ret3
    exact ⟨_, rfl, World.ownsRow_lit c.val #[] 0 (below_box c).size (by decide) rfl, bl⟩
set_option maxHeartbeats 3200000 in
theorem s_LeastOrder (n W : Nat) (hn : n ≤ 4) (hW : W < 2 ^ 2 ^ n) (w : World) : RetL 38 #[.agg #[.int .i64 n, .int .i64 W]] w (ordAt n (bestI n W)) (ordF n W (bestI n W)) true := by
  unfold RetL
  have hu := Tryd.underlying30
  have hu1 := Tryd.underlying86
  have hq : ∀ W', Ret Tryd.prog 70 #[.agg #[.int .i64 n, .int .i64 W]] W' (.bool true) := fun W' => by have := s_IsTable n W W'; rwa [isTab_nat (by omega) hW] at this
  obtain ⟨hc0, hc1⟩ := box2 w (.int .i64 n) (.int .i64 W) 30
  obtain ⟨K, hK⟩ : ∃ K, K = ordNum n := ⟨_, rfl⟩
  have hK0 : 0 < K := by rw [hK]; exact ordNum_pos hn
  have hK24 : K ≤ 24 := by rw [hK]; exact ordNum_le hn
  have hbi : bestI n W = bestAt (ordF n W) K := by rw [hK]; rfl
  rw [hbi]
  have HW := Lib.hid hW; clear hW
  have HK := Lib.hid hK; clear hK hbi
  have hn4 : decide ((4 : Int) < n) = false := decide_eq_false (by omega)
  go_enter Tryd.func38, Tryd.ntmps38
  go_wp2_with (first | (go_at_call 70; (with_reducible refine Ret.go (hq _) ?_); intro c1))
  have hp := s_l4Perms n hn n [] w.heap.size c1.val.heap.size 0 (c1.val.alloc (Obj.cells #[] 3)) (by simp) (bl_alloc (below_box c1) _).size (World.ownsRow_lit c1.val #[] 0 (below_box c1).size (by decide) rfl)
  have HP := Lib.hid hp; clear hp
  refine HP.out.mono ?_
  rintro e w2 ⟨v, vs, rfl, ho2, _, hrows, _, hb2⟩
  rw [show (grow n n []).length = K from HK.out.symm] at ho2
  obtain ⟨A2, cc2, rfl, hrd2⟩ := own_rd ho2
  have hb21 : Below c1.val.heap.size c1.val w2 := bl_then (bl_alloc (Below.refl _ _) _) hb2
  have hb0 : Below w.heap.size w w2 := bl_then (below_box c1) hb21
  have hz0 : ∀ c : BW w2, c.val.cell? ⟨w.heap.size, 0, none⟩ = some (.int .i64 n) := fun c => hc0 ⟨c.val, bl_then c1.out (bl_then hb21 c.out)⟩
  have hz1 : ∀ c : BW w2, c.val.cell? ⟨w.heap.size, 1, none⟩ = some (.int .i64 W) := fun c => hc1 ⟨c.val, bl_then c1.out (bl_then hb21 c.out)⟩
  have hrow : ∀ i, i < K → ∃ A c, vs[i]? = some (.slice A (ordAt n i).length c) ∧ RdC w2 A (ints (natI (ordAt n i))) ∧ (∀ ad, A = some ad → ad.block < w2.heap.size) ∧ w2.ownsRow w.heap.size 3 1 (.slice A (ordAt n i).length c) (ordAt n i).length (ints (natI (ordAt n i))) := fun i hi => ord_row hrows (by rw [← HK.out]; exact hi)
  have hvl : 0 < vs.length := by rw [hrows.1]; exact Nat.lt_of_lt_of_eq hK0 HK.out
  obtain ⟨ad2, rfl, hcv⟩ := hrd2 hvl
  clear ho2 hrows hc0 hc1 hrd2 hvl hb2 hb21
  have hsz : ∀ (i : Nat) (A : Option Addr) (c : Nat), i < K → vs[i]? = some (.slice A (ordAt n i).length c) → ∀ c5 : BW w2, c5.val.cell? (ad2.add i) = some (.slice A (ordAt n i).length c) ∧ Ret Tryd.prog 77 #[.agg #[.int .i64 n, .int .i64 W], .slice A (ordAt n i).length c] c5.val (.int .i64 (ordF n W i)) := fun i A c hi hv c5 => by
    obtain ⟨A', c', hv', hr, hb, _⟩ := hrow i hi
    rw [hv] at hv'
    simp only [Option.some.injEq, Value.slice.injEq, true_and] at hv'
    obtain ⟨rfl, rfl⟩ := hv'
    exact ⟨c5.cell (hcv i _ hv), s_SizeOfDiagram n W (by omega) HW.out _ (ordAt_ord hn (by rw [← HK.out]; exact hi)) A c c5.val (fun ad h => Nat.lt_of_lt_of_le (hb ad h) c5.size) (hr.bw c5)⟩
  have HR := Lib.hid hrow; clear hrow
  have HS := Lib.hid hsz; clear hsz hcv
  have HB := Lib.hid hb0; clear hb0
  have hbest : ∀ k, bestAt (ordF n W) (k + 1) = if ordF n W k < ordF n W (bestAt (ordF n W) k) then k else bestAt (ordF n W) k := fun k => rfl
  have hlt0 := bestAt_lt (ordF n W)
  have hone := bestAt_one (ordF n W)
  have HF := Lib.hid (And.intro hbest (And.intro hlt0 hone)); clear hbest hlt0 hone
  obtain ⟨A0, c0, hv0, -⟩ := HR.out 0 hK0
  have h0 := HS.out 0 A0 c0 hK0 hv0
  have hcell := fun c : BW w2 => (h0 c).1
  simp only [addz] at hcell
  have hs0 := fun c : BW w2 => (h0 c).2
  clear h0 hv0
  have hy : w.heap.size < w2.heap.size := by have := HB.out.size; have := World.block_lt_of_cell? w2 _ (hz0 ⟨w2, Below.refl _ _⟩); exact this
  go_wp2_with fail
  refine wp_region_bw (by kernel_rfl) (by kernel_rfl) ?_
  repeat (quiet_step (first | (go_at_call 77; (with_reducible exact (hs0 _).bw))))
  refine wpQuiet_nil ?_
  intro c5
  clear hs0 hcell
  go_wp2_with fail
  go_loopw [6, 7, 8] (fun bv lv i wr => ∃ k : Nat, 1 ≤ k ∧ k ≤ K ∧ i = .int .i64 k ∧ bv = .int .i64 (bestAt (ordF n W) k : Nat) ∧ lv = .int .i64 (ordF n W (bestAt (ordF n W) k) : Nat) ∧ ∃ c : BW w2, wr = c.val) (fun _ _ i _ => K - (intOf i).toNat)
  case atStart => exact ⟨1, Nat.le_refl _, by omega, rfl, by rw [HF.out.2.2]; rfl, by rw [HF.out.2.2], c5, rfl⟩
  case round =>
    obtain ⟨k, hk1, hk, rfl, rfl, rfl, cw, rfl⟩ := hrel
    by_cases hlt : k < K
    · obtain ⟨A, c, hv, -⟩ := HR.out k hlt
      have h0 := HS.out k A c hlt hv
      have hcell := fun c : BW cw.val => (h0 ⟨c.val, bl_then cw.out c.out⟩).1
      have hs0 := fun c : BW cw.val => (h0 ⟨c.val, bl_then cw.out c.out⟩).2
      have hy0 := fun c : BW cw.val => hz0 ⟨c.val, bl_then cw.out c.out⟩
      have hy1 := fun c : BW cw.val => hz1 ⟨c.val, bl_then cw.out c.out⟩
      have hFk := ordF_le (W := W) hn (i := k) (by rw [← HK.out]; exact hlt)
      have hst := HF.out.1 k
      obtain ⟨B, hB⟩ : ∃ B, B = bestAt (ordF n W) k := ⟨_, rfl⟩
      rw [← hB] at hst ⊢
      obtain ⟨fk, hfk⟩ : ∃ fk, fk = ordF n W k := ⟨_, rfl⟩
      obtain ⟨fB, hfB⟩ : ∃ fB, fB = ordF n W B := ⟨_, rfl⟩
      rw [← hfk, ← hfB] at hst
      rw [← hfB]
      rw [← hfk] at hs0 hFk
      have hk0 : (0 : Int) ≤ k := by omega
      have hkK : (k : Int) < K := by omega
      clear h0 hv
      by_cases hless : fk < fB
      · rw [if_pos hless] at hst
        have HST := Lib.hid (And.intro hst (And.intro hB (And.intro hfk hfB))); clear hst hB hfk hfB
        go_wp2_with fail
        refine wp_region_bw (by kernel_rfl) (by kernel_rfl) ?_
        repeat (quiet_step (first | (go_at_call 77; (with_reducible exact (hs0 _).bw))))
        refine wpQuiet_nil ?_
        intro c6
        clear hs0 hcell hy0 hy1
        go_wp2_with fail
        go_roundw
        case rel => exact ⟨k + 1, by omega, by omega, by go_num, by rw [HST.out.1], by rw [HST.out.1, ← HST.out.2.2.1], ⟨c6.val, bl_then cw.out c6.out⟩, rfl⟩
        case measure => simp [intOf]; omega
      · rw [if_neg hless] at hst
        have HST := Lib.hid (And.intro hst (And.intro hB (And.intro hfk hfB))); clear hst hB hfk hfB
        go_wp2_with fail
        refine wp_region_bw (by kernel_rfl) (by kernel_rfl) ?_
        repeat (quiet_step (first | (go_at_call 77; (with_reducible exact (hs0 _).bw))))
        refine wpQuiet_nil ?_
        intro c6
        clear hs0 hcell hy0 hy1
        go_wp2_with fail
        go_roundw
        case rel => exact ⟨k + 1, by omega, by omega, by go_num, by rw [HST.out.1], by rw [HST.out.1, ← HST.out.2.2.2], ⟨c6.val, bl_then cw.out c6.out⟩, rfl⟩
        case measure => simp [intOf]; omega
    · obtain rfl : k = K := by omega
      have hb1 := HF.out.2.1 k hK0
      obtain ⟨A, c, hv, _, _, ho⟩ := HR.out _ hb1
      have hcell := (HS.out _ A c hb1 hv cw).1
      obtain ⟨B, hB⟩ : ∃ B, B = bestAt (ordF n W) k := ⟨_, rfl⟩
      rw [← hB] at hcell ho hb1 ⊢
      have HO := Lib.hid ho; have HBB := Lib.hid hB; clear ho hv hB
      go_wp2_with fail
      go_ret3
      exact ⟨_, by rw [← HBB.out]; rfl, by rw [← HBB.out]; exact own_bw HO.out cw, bl_bw HB.out cw⟩
set_option maxHeartbeats 1600000 in
theorem i_LeastOrder_no (b x : Int) (hs : isSm b x 4 = false) (w : World) : RetL 43 #[.agg #[.int .i64 b, .int .i64 x]] w [] 0 false := by
  unfold RetL
  have hu := Tryd.underlying30
  have hq : ∀ W', Ret Tryd.prog 73 #[.agg #[.int .i64 b, .int .i64 x], .int .i64 4] W' (.bool false) := fun W' => by have := i_isSmall b x 4 W'; rwa [hs] at this
  clear hs
  go_enter Tryd.func43, Tryd.ntmps43
  go_wp2_with (go_at_call 73; (with_reducible refine Ret.go (hq _) ?_); intro c)
  go_ret3
  exact ⟨_, rfl, World.ownsRow_nil _ _ _ _, bl⟩
set_option maxHeartbeats 3200000 in
theorem i_LeastOrder (n W : Nat) (hn : n ≤ 4) (hW : W < 2 ^ 2 ^ n) (w : World) : RetL 43 #[.agg #[.int .i64 n, .int .i64 W]] w (ordAt n (bestI n W)) (ordF n W (bestI n W)) true := by
  unfold RetL
  have hu := Tryd.underlying30
  have hu1 := Tryd.underlying86
  have hq : ∀ W', Ret Tryd.prog 73 #[.agg #[.int .i64 n, .int .i64 W], .int .i64 4] W' (.bool true) := fun W' => by have := i_isSmall n W 4 W'; rwa [show isSm n W 4 = true from isSm_nat (m := 4) (by omega) hn hW] at this
  obtain ⟨hc0, hc1⟩ := box2 w (.int .i64 n) (.int .i64 W) 30
  obtain ⟨K, hK⟩ : ∃ K, K = ordNum n := ⟨_, rfl⟩
  have hK0 : 0 < K := by rw [hK]; exact ordNum_pos hn
  have hK24 : K ≤ 24 := by rw [hK]; exact ordNum_le hn
  have hbi : bestI n W = bestAt (ordF n W) K := by rw [hK]; rfl
  rw [hbi]
  have HW := Lib.hid hW; clear hW
  have HK := Lib.hid hK; clear hK hbi
  go_enter Tryd.func43, Tryd.ntmps43
  go_wp2_with (first | (go_at_call 73; (with_reducible refine Ret.go (hq _) ?_); intro c1) | (go_at_call 81; refine (i_permutations n hn _).mono ?_; rintro e w2 ⟨v, vs, rfl, ho2, hrows, hb2⟩; rw [show (grow n n []).length = K from HK.out.symm] at ho2; obtain ⟨A2, cc2, rfl, hrd2⟩ := own_rd ho2))
  have hb0 : Below w.heap.size w w2 := bl_then (below_box c1) hb2
  have hz0 : ∀ c : BW w2, c.val.cell? ⟨w.heap.size, 0, none⟩ = some (.int .i64 n) := fun c => hc0 ⟨c.val, bl_then c1.out (bl_then hb2 c.out)⟩
  have hz1 : ∀ c : BW w2, c.val.cell? ⟨w.heap.size, 1, none⟩ = some (.int .i64 W) := fun c => hc1 ⟨c.val, bl_then c1.out (bl_then hb2 c.out)⟩
  have hrow : ∀ i, i < K → ∃ A c, vs[i]? = some (.slice A (ordAt n i).length c) ∧ RdC w2 A (ints (natI (ordAt n i))) ∧ (∀ ad, A = some ad → ad.block < w2.heap.size) ∧ w2.ownsRow c1.val.heap.size 3 1 (.slice A (ordAt n i).length c) (ordAt n i).length (ints (natI (ordAt n i))) := fun i hi => ord_row hrows (by rw [← HK.out]; exact hi)
  have hvl : 0 < vs.length := by rw [hrows.1]; exact Nat.lt_of_lt_of_eq hK0 HK.out
  obtain ⟨ad2, rfl, hcv⟩ := hrd2 hvl
  clear ho2 hrows hc0 hc1 hrd2 hvl
  have HR := Lib.hid hrow; clear hrow
  have HCV := Lib.hid hcv; clear hcv
  have HB := Lib.hid hb0; clear hb0
  have hcs := (below_box c1).size
  have hbest : ∀ k, bestAt (ordF n W) (k + 1) = if ordF n W k < ordF n W (bestAt (ordF n W) k) then k else bestAt (ordF n W) k := fun k => rfl
  have hlt0 := bestAt_lt (ordF n W)
  have hone := bestAt_one (ordF n W)
  have HF := Lib.hid (And.intro hbest (And.intro hlt0 hone)); clear hbest hlt0 hone
  go_loopw [5, 6, 17] (fun bv lv i wr => ∃ k : Nat, k ≤ K ∧ i = .int .i64 k ∧ (if k = 0 then bv = .slice none 0 0 ∧ lv = .int .i64 (-1) else vs[bestAt (ordF n W) k]? = some bv ∧ lv = .int .i64 (ordF n W (bestAt (ordF n W) k))) ∧ ∃ c : BW w2, wr = c.val) (fun _ _ i _ => K - (intOf i).toNat)
  case atStart => exact ⟨0, Nat.zero_le _, rfl, ⟨rfl, rfl⟩, ⟨w2, Below.refl _ _⟩, rfl⟩
  case round =>
    obtain ⟨k, hk, rfl, hbv, cw, rfl⟩ := hrel
    by_cases hlt : k < K
    · obtain ⟨A, c, hv, hr, hb, _⟩ := HR.out k hlt
      have hcell : cw.val.cell? (ad2.add k) = some (.slice A (ordAt n k).length c) := cw.cell (HCV.out k _ hv)
      have hcall : Calls Tryd.prog 48 #[.agg #[.int .i64 n, .int .i64 W], .slice A (ordAt n k).length c] cw.val fun e w' => ∃ v, e = .returned v ∧ w'.ownsRow cw.val.heap.size 94 3 v (ordF n W k) (ndCells (nodesOf n W (ordAt n k))) ∧ Below cw.val.heap.size cw.val w' :=
        i_diagram n W (by omega) HW.out _ (ordAt_ord hn (by rw [← HK.out]; exact hlt)) A c cw.val (fun ad h => Nat.lt_of_lt_of_le (hb ad h) cw.size) (hr.bw cw)
      have hy0 := hz0 cw
      have hy1 := hz1 cw
      have hFk := ordF_le (W := W) hn (i := k) (by rw [← HK.out]; exact hlt)
      have HC := Lib.hid hcall; have HV := Lib.hid hv; clear hcall hr hb hv
      by_cases hk0 : k = 0
      · subst hk0
        obtain ⟨rfl, rfl⟩ := hbv
        rw [addz] at hcell
        have hw9 : Hid (ordF n W 0 = ordF n W (bestAt (ordF n W) 1)) := Lib.hid (by rw [HF.out.2.2])
        have hv9 : Hid (vs[bestAt (ordF n W) 1]? = some (.slice A (ordAt n 0).length c)) := Lib.hid (by rw [HF.out.2.2]; exact HV.out)
        go_wp2_with (go_at_call 48; refine HC.out.mono ?_; rintro e w4 ⟨v4, rfl, ho4, hb4⟩; obtain ⟨A4, c4, rfl, hrd4⟩ := own_rd ho4)
        go_roundw
        case rel => exact ⟨1, by omega, rfl, ⟨hv9.out, by rw [← hw9.out]⟩, ⟨w4, bl_then cw.out hb4⟩, rfl⟩
        case measure => simp [intOf]; omega
      · rw [if_neg hk0] at hbv
        obtain ⟨hbv, rfl⟩ := hbv
        have hst := HF.out.1 k
        obtain ⟨B, hB⟩ : ∃ B, B = bestAt (ordF n W) k := ⟨_, rfl⟩
        rw [← hB] at hbv hst ⊢
        obtain ⟨fk, hfk⟩ : ∃ fk, fk = ordF n W k := ⟨_, rfl⟩
        obtain ⟨fB, hfB⟩ : ∃ fB, fB = ordF n W B := ⟨_, rfl⟩
        rw [← hfk, ← hfB] at hst
        rw [← hfB]
        rw [← hfk] at HC hFk
        have HBV := Lib.hid hbv; clear hbv
        have hB0 : (0 : Int) ≤ fB := Int.natCast_nonneg _
        have hB1 : ¬ ((fB : Int) < 0) := by omega
        by_cases hless : fk < fB
        · rw [if_pos hless] at hst
          have HST := Lib.hid (And.intro hst (And.intro hB (And.intro hfk hfB))); clear hst hB hfk hfB
          go_wp2_with (go_at_call 48; refine HC.out.mono ?_; rintro e w4 ⟨v4, rfl, ho4, hb4⟩; obtain ⟨A4, c4, rfl, hrd4⟩ := own_rd ho4)
          go_roundw
          case rel => exact ⟨k + 1, by omega, by go_num, by rw [if_neg (by omega), HST.out.1, ← HST.out.2.2.1]; exact ⟨HV.out, rfl⟩, ⟨w4, bl_then cw.out hb4⟩, rfl⟩
          case measure => simp [intOf]; omega
        · rw [if_neg hless] at hst
          have HST := Lib.hid (And.intro hst (And.intro hB (And.intro hfk hfB))); clear hst hB hfk hfB
          go_wp2_with (go_at_call 48; refine HC.out.mono ?_; rintro e w4 ⟨v4, rfl, ho4, hb4⟩; obtain ⟨A4, c4, rfl, hrd4⟩ := own_rd ho4)
          go_roundw
          case rel => exact ⟨k + 1, by omega, by go_num, by rw [if_neg (by omega), HST.out.1, ← HST.out.2.2.2]; exact ⟨HBV.out, rfl⟩, ⟨w4, bl_then cw.out hb4⟩, rfl⟩
          case measure => simp [intOf]; omega
    · obtain rfl : k = K := by omega
      rw [if_neg (by omega)] at hbv
      obtain ⟨hbv, rfl⟩ := hbv
      have hb1 := HF.out.2.1 k hK0
      obtain ⟨A, c, hv, _, _, ho⟩ := HR.out _ hb1
      rw [hv] at hbv
      obtain rfl := Option.some.inj hbv
      have HO := Lib.hid ho; clear ho hv hb1 hbv
      go_wp2_with fail
      go_ret3
      exact ⟨_, rfl, own_mono (own_bw HO.out cw) hcs, bl_bw HB.out cw⟩
end Go.Proofs.YtmkgiakngjpfpaaDoor

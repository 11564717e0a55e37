/- The line of a table's diagram, of both. No conditions. -/
import Derived.Test.YtmkgiakngjpfpaaDoorFdia
import Derived.Test.YtmkgiakngjpfpaaDoorOrd
set_option linter.unusedVariables false
set_option linter.unusedSimpArgs false
set_option maxRecDepth 100000
namespace Go.Proofs.YtmkgiakngjpfpaaDoor
open Go.RowKit

theorem bld_ends {n : Nat} (vs : List Nat) : ∀ (s : List Nd) (W : Nat), -2 ≤ (bld n vs s W).1 ∧ (bld n vs s W).1 < ((bld n vs s W).2.length : Int) := by
  have he : ∀ W : Nat, -2 ≤ endOf W ∧ endOf W < 0 := fun W => by unfold endOf; have := bitAt_le W 0; omega
  induction vs with
  | nil => intro s W; have := he W; exact ⟨this.1, by show endOf W < (s.length : Int); omega⟩
  | cons v vs ih =>
    intro s W
    rw [bld]
    split
    · have := he W; exact ⟨this.1, by show endOf W < (s.length : Int); omega⟩
    · split
      · split
        · rename_i i hp
          have := pos_lt hp
          exact ⟨by show -2 ≤ (i : Int); omega, by show (i : Int) < (s.length : Int); omega⟩
        · refine ⟨?_, ?_⟩
          · show -2 ≤ ((_ : Nat) : Int); omega
          · simp only [List.length_append, List.length_singleton]; omega
      · exact ih s W
theorem bld_nodes {n : Nat} (vs : List Nat) : ∀ (s : List Nd) (W : Nat), (bld n vs s W).2.length ≤ 31 → ∀ a ∈ (bld n vs s W).2, a ∈ s ∨ (a.var ∈ vs ∧ -2 ≤ a.lo ∧ a.lo ≤ 30 ∧ -2 ≤ a.hi ∧ a.hi ≤ 30) := by
  induction vs with
  | nil => intro s W _ a ha; exact .inl ha
  | cons v vs ih =>
    intro s W hl a ha
    have hm : ∀ u, u ∈ vs → u ∈ v :: vs := fun u hu => by simp [hu]
    rw [bld] at ha hl
    split at ha
    · exact .inl ha
    · rename_i h1
      rw [if_neg h1] at hl
      split at ha
      · rename_i h2
        rw [if_pos h2] at hl
        split at ha
        · exact .inl ha
        · rename_i hp
          rw [hp] at hl
          simp only [List.length_append, List.length_singleton] at hl
          obtain ⟨t, ht⟩ := bld_grows (n := n) vs (bld n vs s (stuckW n W v 0)).2 (stuckW n W v 1)
          have hl1 : (bld n vs s (stuckW n W v 0)).2.length ≤ (bld n vs (bld n vs s (stuckW n W v 0)).2 (stuckW n W v 1)).2.length := by rw [ht]; simp
          simp only [List.mem_append, List.mem_singleton] at ha
          rcases ha with ha | rfl
          · rcases ih _ _ (by omega) a ha with h | h
            · rcases ih _ _ (by omega) a h with h | h
              · exact .inl h
              · exact .inr ⟨hm _ h.1, h.2⟩
            · exact .inr ⟨hm _ h.1, h.2⟩
          · have e1 := bld_ends (n := n) vs s (stuckW n W v 0)
            have e2 := bld_ends (n := n) vs (bld n vs s (stuckW n W v 0)).2 (stuckW n W v 1)
            refine .inr ⟨by simp, e1.1, ?_, e2.1, ?_⟩ <;> dsimp only <;> omega
      · rename_i h2
        rw [if_neg h2] at hl
        rcases ih _ _ hl a ha with h | h
        · exact .inl h
        · exact .inr ⟨hm _ h.1, h.2⟩
theorem nodes_len {n W : Nat} {p : List Nat} (hn : n ≤ 4) (ho : IsOrd n p) : (nodesOf n W p).length ≤ 31 := by
  have h := bld_len (n := n) p [] W
  have h2 : 2 ^ p.length ≤ 2 ^ 4 := Nat.pow_le_pow_right (by decide) (by rw [ho.1]; exact hn)
  unfold nodesOf
  simp at h
  omega
theorem nodes_ok {n W : Nat} {p : List Nat} (hn : n ≤ 4) (ho : IsOrd n p) : ∀ a ∈ nodesOf n W p, NdOk a := fun a ha => by
  rcases bld_nodes p [] W (nodes_len hn ho) a ha with h | ⟨h1, h2⟩
  · simp at h
  · exact ⟨by have := ho.2.1 _ h1; omega, h2⟩
theorem natI_i64 {p : List Nat} {n : Nat} (h : ∀ x ∈ p, x < n) (hn : n ≤ 1000) : I64 (natI p) := fun x hx => by
  obtain ⟨y, hy, rfl⟩ := List.mem_map.1 hx
  have := h y hy
  omega
/-- "diagram order ", " size ", " nodes ". -/
def tDiagram : List UInt8 := [100, 105, 97, 103, 114, 97, 109]
def tOrder : List UInt8 := [111, 114, 100, 101, 114]
def tSize : List UInt8 := [115, 105, 122, 101]
def tNodes : List UInt8 := [110, 111, 100, 101, 115]
def lineParts (n W : Nat) : List (List UInt8) :=
  [tDiagram, tOrder, listTxt (natI (ordAt n (bestI n W))), tSize, num (ordF n W (bestI n W) : Nat), tNodes, diaTxt (nodesOf n W (ordAt n (bestI n W)))]
def diaLine (b x : Int) : List UInt8 := if isSm b x 4 then jn 32 (lineParts b.toNat x.toNat) else []
theorem listTxt_len {xs : List Int} (h : I64 xs) : (listTxt xs).length ≤ 22 * xs.length + 4 := by
  unfold listTxt
  split
  · simp
  · have := jn_num_le h xs.length
    rw [List.take_length] at this
    omega
theorem diaTxt_len {s : List Nd} (h : ∀ a ∈ s, NdOk a) : (diaTxt s).length ≤ 45 * s.length + 4 := by
  unfold diaTxt
  split
  · simp
  · have := jn_nd_le h s.length
    rw [List.take_length] at this
    omega
set_option maxHeartbeats 1600000 in
theorem s_DiagramLine (b x : Int) (w : World) : Ret Tryd.prog 18 #[.agg #[.int .i64 b, .int .i64 x]] w (.string (bs (diaLine b x))) := by
  unfold Ret
  have hu := Tryd.underlying30
  obtain ⟨hc0, hc1⟩ := box2 w (.int .i64 b) (.int .i64 x) 30
  cases hs : isSm b x 4 with
  | false =>
    have hz : diaLine b x = [] := by unfold diaLine; rw [hs]; rfl
    have HS := Lib.hid hs; have HZ := Lib.hid hz; clear hs hz
    go_enter Tryd.func18, Tryd.ntmps18
    go_wp2_with (go_at_call 38; refine (s_LeastOrder_no b x HS.out _).mono ?_; rintro e w1 ⟨v, rfl, ho1, hb1⟩)
    go_ret
    exact ⟨ret_eq (by rw [HZ.out]; rfl), bl_then (bl_alloc (Below.refl _ _) _) hb1⟩
  | true =>
    obtain ⟨n, W, rfl, rfl, hn5, hn, hW⟩ := isSm_out (m := 4) hs
    have hord : IsOrd n (ordAt n (bestI n W)) := ordAt_ord hn (bestAt_lt (ordF n W) (ordNum n) (ordNum_pos hn))
    have hz : diaLine n W = jn 32 (lineParts n W) := by unfold diaLine; rw [hs]; rfl
    have hnum : ordF n W (bestI n W) = (nodesOf n W (ordAt n (bestI n W))).length := rfl
    have hl1 := natI_i64 hord.2.1 (by omega)
    have hl1' := listTxt_len hl1
    have hl2 := nodes_ok (W := W) hn hord
    have hl2' := diaTxt_len hl2
    have hl3 := nodes_len (W := W) hn hord
    have hle := hord.1
    rw [natI_length] at hl1'
    unfold lineParts at hz
    have hcall := s_LeastOrder n W hn hW
    generalize hnm : ordF n W (bestI n W) = N at hz hcall hnum
    generalize ordAt n (bestI n W) = p at *
    have hD := fun (A : Option Addr) (c : Nat) => s_DiagramOf n W hn5 hW p hord A c
    generalize nodesOf n W p = s at *
    have HC := Lib.hid hcall; have HZ := Lib.hid hz; have HD := Lib.hid hD; have H1 := Lib.hid hl1; have H2 := Lib.hid hl2; clear hcall hz hD hl1 hl2 hs hW
    obtain ⟨X, hX⟩ : ∃ X, X = listTxt (natI p) := ⟨_, rfl⟩
    obtain ⟨Y, hY⟩ : ∃ Y, Y = diaTxt s := ⟨_, rfl⟩
    rw [← hX] at hl1'
    rw [← hY] at hl2'
    have hnl := num_len (n := (N : Int)) (by omega) (by omega)
    obtain ⟨T1, hT1⟩ : ∃ T, T = [100, 105, 97, 103, 114, 97, 109, 32, 111, 114, 100, 101, 114, 32] ++ X := ⟨_, rfl⟩
    obtain ⟨T2, hT2⟩ : ∃ T, T = T1 ++ [32, 115, 105, 122, 101, 32] := ⟨_, rfl⟩
    obtain ⟨T3, hT3⟩ : ∃ T, T = T2 ++ num (N : Int) := ⟨_, rfl⟩
    obtain ⟨T4, hT4⟩ : ∃ T, T = T3 ++ [32, 110, 111, 100, 101, 115, 32] := ⟨_, rfl⟩
    obtain ⟨T5, hT5⟩ : ∃ T, T = T4 ++ Y := ⟨_, rfl⟩
    have l1 : T1.length = X.length + 14 := by rw [hT1]; simp
    have l2 : T2.length = T1.length + 6 := by rw [hT2]; simp
    have l3 : T3.length = T2.length + (num (N : Int)).length := by rw [hT3]; simp
    have l4 : T4.length = T3.length + 7 := by rw [hT4]; simp
    have a1 := add_bs (P := Tryd.prog) [100, 105, 97, 103, 114, 97, 109, 32, 111, 114, 100, 101, 114, 32] X (by simp; omega)
    have a2 := add_bs (P := Tryd.prog) T1 [32, 115, 105, 122, 101, 32] (by simp; omega)
    have a3 := add_bs (P := Tryd.prog) T2 (num (N : Int)) (by omega)
    have a4 := add_bs (P := Tryd.prog) T3 [32, 110, 111, 100, 101, 115, 32] (by simp; omega)
    have a5 := add_bs (P := Tryd.prog) T4 Y (by omega)
    rw [← hT1, show bs [100, 105, 97, 103, 114, 97, 109, 32, 111, 114, 100, 101, 114, 32] = ⟨#[100, 105, 97, 103, 114, 97, 109, 32, 111, 114, 100, 101, 114, 32]⟩ from rfl] at a1
    rw [← hT2, show bs [32, 115, 105, 122, 101, 32] = ⟨#[32, 115, 105, 122, 101, 32]⟩ from rfl] at a2
    rw [← hT3] at a3
    rw [← hT4, show bs [32, 110, 111, 100, 101, 115, 32] = ⟨#[32, 110, 111, 100, 101, 115, 32]⟩ from rfl] at a4
    rw [← hT5] at a5
    have hfin : T5 = diaLine n W := by
      rw [HZ.out, hT5, hT4, hT3, hT2, hT1, hX, hY]
      simp [jn, Lib.join, List.intercalate, List.intersperse, tDiagram, tOrder, tSize, tNodes]
    have hs1 : ∀ (A : Option Addr) (c : Nat) (W' : World), RdC W' A (ints (natI p)) → Ret Tryd.prog 40 #[.slice A p.length c] W' (.string (bs X)) := fun A c W' hr => by
      have := s_l34Numbers A c (natI p) H1.out W' hr (by rw [natI_length]; omega)
      rwa [natI_length, ← hX] at this
    have hs2 : ∀ W', Ret Tryd.prog 41 #[.int .i64 N] W' (.string (bs (num (N : Int)))) := fun W' => s_FormatInt N (by omega) (by omega) W'
    have hs3 : ∀ (A : Option Addr) (c : Nat) (W' : World), RdC W' A (ndCells s) → Ret Tryd.prog 42 #[.slice A s.length c] W' (.string (bs Y)) := fun A c W' hr => by
      have := s_FormatDiagram A c s H2.out hl3 W' hr
      rwa [← hY] at this
    have HF := Lib.hid hfin; have HS := Lib.hid (And.intro hs1 hs3); clear hfin hT1 hT2 hT3 hT4 hT5 hX hY hs1 hs3 hnm hnum hle l1 l2 l3 l4
    go_enter Tryd.func18, Tryd.ntmps18
    go_wp2_with (first
      | (go_at_call 38; refine (HC.out _).mono ?_; rintro e w1 ⟨v, rfl, ho1, hb1⟩; obtain ⟨A1, cc1, hv1, hrd1, hab1⟩ := own_rd' ho1; subst hv1; obtain ⟨c1, rfl⟩ : ∃ c1 : BW (w.alloc (Obj.cells #[Value.int IntKind.i64 n, Value.int IntKind.i64 W] 30)), w1 = c1.val := ⟨⟨w1, hb1⟩, rfl⟩)
      | (go_at_call 39; refine (HD.out A1 cc1 _ (fun ad h => (own_at ho1 (hab1 ad h)).2) hrd1).mono ?_; rintro e w2 ⟨v2, rfl, ho2, hb2⟩; obtain ⟨A2, cc2, rfl, hrd2⟩ := own_rd ho2; have hrd12 := hrd1.later hb2)
      | (go_at_call 40; (with_reducible refine Ret.go (HS.out.1 A1 cc1 _ hrd12) ?_); intro c3)
      | (go_at_call 41; (with_reducible refine Ret.on (hs2 _) ?_); intro c4)
      | (go_at_call 42; (with_reducible refine Ret.on (HS.out.2 A2 cc2 _ (hrd2.bw c4)) ?_); intro c5))
    go_ret
    exact ⟨ret_eq (by rw [← HF.out]; rfl), bl_then (bl_then (below_box c1) hb2) c5.out⟩
set_option maxHeartbeats 3200000 in
theorem i_DiagramLine (b x : Int) (w : World) (ht : Pow w) : Ret Tryd.prog 19 #[.agg #[.int .i64 b, .int .i64 x]] w (.string (bs (diaLine b x))) := by
  unfold Ret
  have hu := Tryd.underlying30
  obtain ⟨hc0, hc1⟩ := box2 w (.int .i64 b) (.int .i64 x) 30
  cases hs : isSm b x 4 with
  | false =>
    have hz : diaLine b x = [] := by unfold diaLine; rw [hs]; rfl
    have HS := Lib.hid hs; have HZ := Lib.hid hz; clear hs hz
    go_enter Tryd.func19, Tryd.ntmps19
    go_wp2_with (go_at_call 43; refine (i_LeastOrder_no b x HS.out _).mono ?_; rintro e w1 ⟨v, rfl, ho1, hb1⟩)
    go_ret
    exact ⟨ret_eq (by rw [HZ.out]; rfl), bl_then (bl_alloc (Below.refl _ _) _) hb1⟩
  | true =>
    obtain ⟨n, W, rfl, rfl, hn5, hn, hW⟩ := isSm_out (m := 4) hs
    have hord : IsOrd n (ordAt n (bestI n W)) := ordAt_ord hn (bestAt_lt (ordF n W) (ordNum n) (ordNum_pos hn))
    have hz : diaLine n W = jn 32 (lineParts n W) := by unfold diaLine; rw [hs]; rfl
    have hnum : ordF n W (bestI n W) = (nodesOf n W (ordAt n (bestI n W))).length := rfl
    have hl1 := natI_i64 hord.2.1 (by omega)
    have hl1' := listTxt_len hl1
    have hl2 := nodes_ok (W := W) hn hord
    have hl2' := diaTxt_len hl2
    have hl3 := nodes_len (W := W) hn hord
    have hle := hord.1
    rw [natI_length] at hl1'
    unfold lineParts at hz
    have hcall := i_LeastOrder n W hn hW
    generalize hnm : ordF n W (bestI n W) = N at hz hcall hnum
    generalize ordAt n (bestI n W) = p at *
    have hD := fun (A : Option Addr) (c : Nat) => i_diagram n W hn5 hW p hord A c
    generalize nodesOf n W p = s at *
    have HC := Lib.hid hcall; have HZ := Lib.hid hz; have HD := Lib.hid hD; have H1 := Lib.hid hl1; have H2 := Lib.hid hl2; clear hcall hz hD hl1 hl2 hs hW
    obtain ⟨X, hX⟩ : ∃ X, X = listTxt (natI p) := ⟨_, rfl⟩
    obtain ⟨Y, hY⟩ : ∃ Y, Y = diaTxt s := ⟨_, rfl⟩
    rw [← hX] at hl1'
    rw [← hY] at hl2'
    have hnl := num_len (n := (N : Int)) (by omega) (by omega)
    obtain ⟨Z, hZ⟩ : ∃ Z, Z = num (N : Int) := ⟨_, rfl⟩
    rw [← hZ] at hnl
    have hs1 : ∀ (A : Option Addr) (c : Nat) (W' : World), Pow W' → RdC W' A (ints (natI p)) → Ret Tryd.prog 45 #[.slice A p.length c] W' (.string (bs X)) := fun A c W' hp hr => by
      have := i_listText A c (natI p) H1.out W' hp hr (by rw [natI_length]; omega)
      rwa [natI_length, ← hX] at this
    have hs2 : ∀ W', Pow W' → Ret Tryd.prog 46 #[.int .i64 N] W' (.string (bs Z)) := fun W' hp => by rw [hZ]; exact i_FormatInt N (by omega) (by omega) W' hp
    have hs3 : ∀ (A : Option Addr) (c : Nat) (W' : World), Pow W' → RdC W' A (ndCells s) → Ret Tryd.prog 47 #[.slice A s.length c] W' (.string (bs Y)) := fun A c W' hp hr => by
      have := i_FormatDiagram A c s H2.out hl3 W' hp hr
      rwa [← hY] at this
    have hfin : jn 32 [tDiagram, tOrder, X, tSize, Z, tNodes, Y] = diaLine n W := by rw [HZ.out, hX, hZ, hY]
    have hlens : Lib.lens [tDiagram, tOrder, X, tSize, Z, tNodes, Y] ≤ 10000 := by simp [Lib.lens, tDiagram, tOrder, tSize, tNodes]; omega
    have HF := Lib.hid (And.intro hfin hlens); have HS := Lib.hid (And.intro hs1 (And.intro hs2 hs3)); have HT := Lib.hid ht; clear hfin hX hY hZ hs1 hs2 hs3 hnm hnum hle ht hlens
    go_enter Tryd.func19, Tryd.ntmps19
    go_upto_region 5 with (go_at_call 43; refine (HC.out _).mono ?_; rintro e w1 ⟨v, rfl, ho1, hb1⟩; obtain ⟨A1, cc1, hv1, hrd1, hab1⟩ := own_rd' ho1; subst hv1; obtain ⟨c1, rfl⟩ : ∃ c1 : BW (w.alloc (Obj.cells #[Value.int IntKind.i64 n, Value.int IntKind.i64 W] 30)), w1 = c1.val := ⟨⟨w1, hb1⟩, rfl⟩)
    have hL := Blk.new c1.val #[.slice none 0 0] 68
    have hbx : ∀ W', Below c1.val.heap.size c1.val W' → W'.cell? ⟨w.heap.size, 0, none⟩ = some (.int .i64 n) ∧ W'.cell? ⟨w.heap.size, 1, none⟩ = some (.int .i64 W) := fun W' hb => ⟨hc0 ⟨W', bl_then c1.out hb⟩, hc1 ⟨W', bl_then c1.out hb⟩⟩
    have hpow : ∀ W', Below c1.val.heap.size c1.val W' → Pow W' := fun W' hb => HT.out.later (bl_then (below_box c1) hb)
    have hAb : ∀ W', Below c1.val.heap.size c1.val W' → ∀ ad, A1 = some ad → ad.block < W'.heap.size := fun W' hb ad h => Nat.lt_of_lt_of_le (own_at ho1 (hab1 ad h)).2 hb.size
    obtain ⟨hz00, hz01⟩ := hbx (c1.val.alloc (.cells #[.slice none 0 0] 68)) (bl_alloc (Below.refl _ _) _)
    have HBX := Lib.hid (And.intro hbx (And.intro hpow hAb)); have HL := Lib.hid hL; clear hbx hpow hAb hL hc0 hc1
    go_region_held3 (fun w' => w'.cell? ⟨w.heap.size, 0, none⟩ = some (.int .i64 n) ∧ w'.cell? ⟨w.heap.size, 1, none⟩ = some (.int .i64 W)) ((first | go_keep | exact ⟨by assumption, by assumption⟩))
      (first
        | ((go_at_call 45; (with_reducible refine Ret.go (HS.out.1 A1 cc1 _ (HBX.out.2.1 _ bl) (hrd1.later bl)) ?_); intro c3; obtain ⟨hz30, hz31⟩ := HBX.out.1 c3.val bl))
        | ((go_at_call 46; (with_reducible refine Ret.go (HS.out.2.1 _ (HBX.out.2.1 _ bl)) ?_); intro c4; obtain ⟨hz40, hz41⟩ := HBX.out.1 c4.val bl))
        | ((go_at_call 48; refine (HD.out A1 cc1 _ (HBX.out.2.2 _ bl) (hrd1.later bl)).mono ?_; rintro e w5 ⟨v5, rfl, ho5, hb5⟩; obtain ⟨A5, cc5, rfl, hrd5⟩ := own_rd ho5; obtain ⟨c5, rfl⟩ : ∃ c5 : BW c4.val, w5 = c5.val := ⟨⟨w5, hb5⟩, rfl⟩; obtain ⟨hz50, hz51⟩ := HBX.out.1 c5.val bl))
        | ((go_at_call 47; (with_reducible refine Ret.go (HS.out.2.2 A5 cc5 _ (HBX.out.2.1 _ bl) hrd5) ?_); intro c6; obtain ⟨hz60, hz61⟩ := HBX.out.1 c6.val bl; have hL6 := HL.out.later (bl : Below (c1.val.alloc (Obj.cells #[.slice none 0 0] 68)).heap.size _ c6.val); have hS6 := (bl : Below (c1.val.alloc (Obj.cells #[.slice none 0 0] 68)).heap.size _ c6.val).size; have HLb := Lib.hid (show c1.val.heap.size + 1 ≤ c6.val.heap.size from by simpa using hS6)))
        | ((go_at_call 44; refine (i_put c1.val.heap.size (c1.val.heap.size + 1) (.slice none 0 0) [] [tDiagram, tOrder, X, tSize, Z, tNodes, Y] ⟨c6.val.heap.size, 0, none⟩ 7 _ (hL6.alloc _) (World.ownsRow_nil _ _ _ _) (Blk.rdl (Blk.new c6.val (strs [tDiagram, tOrder, X, tSize, Z, tNodes, Y]).toArray 9)) (by simp) (Nat.lt_succ_self _) (by have := HLb.out; simp; omega) (by simp)).mono ?_; rintro e w7 ⟨rfl, v7, hB7, ho7, hk7⟩; obtain ⟨hz70, hz71⟩ : w7.cell? ⟨w.heap.size, 0, none⟩ = some (.int .i64 n) ∧ w7.cell? ⟨w.heap.size, 1, none⟩ = some (.int .i64 W) := ⟨hk7.cell (HBX.out.1 _ bl).1 (by simp [Value.ownBlock]; have := box_lt c1; omega), hk7.cell (HBX.out.1 _ bl).2 (by simp [Value.ownBlock]; have := box_lt c1; omega)⟩)))
    have hx := i_text _ _ v7 _ w7 hB7 ho7 (by have := HF.out.2; simp only [List.nil_append, List.length_cons, List.length_nil]; omega)
    have HX := Lib.hid hx; clear hx
    go_wp2_with (go_at_call 49; (with_reducible refine Ret.go HX.out ?_); intro c8)
    go_ret
    refine ⟨ret_eq (by rw [← HF.out.1]; rfl), bl_bw ?_ c8⟩
    have h6 : Below w.heap.size w (c6.val.alloc (Obj.cells (strs [tDiagram, tOrder, X, tSize, Z, tNodes, Y]).toArray 9)) := bl
    refine h6.trans (hk7.below h6.size fun i hi hx => ?_)
    rcases hx with e | e
    · have := box_lt c1; omega
    · cases e
end Go.Proofs.YtmkgiakngjpfpaaDoor

/- The orders of n variables, as the reference lists them. No conditions. -/
import Derived.Test.YtmkgiakngjpfpaaDoorKp
import Derived.Deep.LoopGhost
set_option linter.unusedVariables false
set_option linter.unusedSimpArgs false
set_option maxRecDepth 100000
namespace Go.Proofs.YtmkgiakngjpfpaaDoor
open Go.RowKit

def natI (p : List Nat) : List Int := p.map fun (x : Nat) => (x : Int)
theorem natI_length (p : List Nat) : (natI p).length = p.length := by simp [natI]
theorem natI_append (p q : List Nat) : natI (p ++ q) = natI p ++ natI q := by simp [natI]
theorem natI_get {p : List Nat} {i : Nat} (h : i < p.length) : (natI p).getD i 0 = (p.getD i 0 : Nat) := by simp [natI, h, List.getD_eq_getElem?_getD]
/-- The orders that begin with p, k variables more. -/
def grow (n : Nat) : Nat → List Nat → List (List Nat)
  | 0, p => [p]
  | k + 1, p => (List.range n).flatMap fun x => if x ∈ p then [] else grow n k (p ++ [x])
/-- .. those whose next variable is below j. -/
def growTo (n k : Nat) (p : List Nat) (j : Nat) : List (List Nat) := (List.range j).flatMap fun x => if x ∈ p then [] else grow n k (p ++ [x])
theorem growTo_all (n k : Nat) (p : List Nat) : growTo n k p n = grow n (k + 1) p := rfl
theorem growTo_step (n k : Nat) (p : List Nat) (j : Nat) : growTo n k p (j + 1) = growTo n k p j ++ if j ∈ p then [] else grow n k (p ++ [j]) := by
  unfold growTo
  rw [List.range_succ, List.flatMap_append, List.flatMap_singleton]
theorem grow_length_le (n : Nat) (hn : n ≤ 4) : ∀ k p, (grow n k p).length ≤ 4 ^ k
  | 0, p => by simp [grow]
  | k + 1, p => by
    have h : ∀ j, j ≤ n → (growTo n k p j).length ≤ j * 4 ^ k := by
      intro j
      induction j with
      | zero => intro _; simp [growTo]
      | succ j ih =>
        intro hj
        rw [growTo_step, List.length_append, Nat.succ_mul]
        have h1 := ih (by omega)
        have h2 := grow_length_le n hn k (p ++ [j])
        split
        · simp only [List.length_nil]; omega
        · omega
    have h1 := h n (Nat.le_refl _)
    rw [growTo_all] at h1
    have : n * 4 ^ k ≤ 4 * 4 ^ k := Nat.mul_le_mul_right _ hn
    rw [Nat.pow_succ]
    omega
/-- Slices that are rows of whole numbers. -/
def RowsOf (w : World) (base : Nat) (vs : List Value) (ps : List (List Nat)) : Prop :=
  vs.length = ps.length ∧ ∀ (j : Nat) (v : Value) (p : List Nat), vs[j]? = some v → ps[j]? = some p → w.ownsRow base 3 1 v p.length (ints (natI p))
theorem RowsOf.nil (w : World) (base : Nat) : RowsOf w base [] [] := ⟨rfl, fun j v p h => by simp at h⟩
theorem RowsOf.one {w : World} {base : Nat} {v : Value} {p : List Nat} (h : w.ownsRow base 3 1 v p.length (ints (natI p))) : RowsOf w base [v] [p] :=
  ⟨rfl, fun j u q hu hq => by
    cases j with
    | zero => simp at hu hq; subst hu hq; exact h
    | succ j => simp at hu⟩
theorem RowsOf.append {w : World} {base : Nat} {vs us : List Value} {ps qs : List (List Nat)} (h : RowsOf w base vs ps) (k : RowsOf w base us qs) : RowsOf w base (vs ++ us) (ps ++ qs) := by
  refine ⟨by rw [List.length_append, List.length_append, h.1, k.1], fun j v p hv hp => ?_⟩
  by_cases hj : j < vs.length
  · rw [List.getElem?_append_left hj] at hv
    rw [List.getElem?_append_left (by rw [← h.1]; exact hj)] at hp
    exact h.2 j v p hv hp
  · rw [List.getElem?_append_right (by omega)] at hv
    rw [List.getElem?_append_right (by rw [← h.1]; omega), ← h.1] at hp
    exact k.2 _ v p hv hp
theorem RowsOf.later {w W : World} {base : Nat} {vs : List Value} {ps : List (List Nat)} (h : RowsOf w base vs ps) (hb : Below w.heap.size w W) : RowsOf W base vs ps :=
  ⟨h.1, fun j v p hv hp => own_later (h.2 j v p hv hp) hb⟩
theorem RowsOf.kp {X : Nat → Prop} {w W : World} {base : Nat} {vs : List Value} {ps : List (List Nat)} (h : RowsOf w base vs ps) (hb : Kp X w W) (hx : ∀ v ∈ vs, ∀ k, v.ownBlock = some k → ¬ X k) : RowsOf W base vs ps :=
  ⟨h.1, fun j v p hv hp => own_kp (h.2 j v p hv hp) hb (hx v (List.mem_of_getElem? hv))⟩
theorem RowsOf.slice {w : World} {base : Nat} {vs : List Value} {ps : List (List Nat)} (h : RowsOf w base vs ps) : ∀ v ∈ vs, v.oneCell' = true := by
  intro v hv
  obtain ⟨j, hj⟩ := List.getElem?_of_mem hv
  have hl : j < ps.length := by rw [← h.1]; exact (List.getElem?_eq_some_iff.1 hj).1
  obtain ⟨A, c, rfl, _⟩ := own_rd (h.2 j v _ hj (List.getElem?_eq_getElem hl))
  rfl
theorem RowsOf.mono {w : World} {base base' : Nat} {vs : List Value} {ps : List (List Nat)} (h : RowsOf w base vs ps) (hb : base' ≤ base) : RowsOf w base' vs ps :=
  ⟨h.1, fun j v p hv hp => own_mono (h.2 j v p hv hp) hb⟩
theorem info_ints : (Tryd.prog.info? 31).map (fun i => (i.zero, i.size, i.bytes)) = some (some (.slice none 0 0), 1, 24) := by kernel_rfl
theorem growTo_length_le {n k : Nat} (hn : n ≤ 4) (hk : k ≤ 4) (p : List Nat) {j : Nat} (hj : j ≤ n) : (growTo n k p j).length ≤ 1024 := by
  have h : ∀ j, j ≤ n → (growTo n k p j).length ≤ j * 4 ^ k := by
    intro j
    induction j with
    | zero => intro _; simp [growTo]
    | succ j ih =>
      intro hj
      rw [growTo_step, List.length_append, Nat.succ_mul]
      have h1 := ih (by omega)
      have h2 := grow_length_le n hn k (p ++ [j])
      split
      · simp only [List.length_nil]; omega
      · omega
  have h1 := h j hj
  have h2 : 4 ^ k ≤ 4 ^ 4 := Nat.pow_le_pow_right (by decide) hk
  have h3 : j * 4 ^ k ≤ 4 * 4 ^ 4 := Nat.mul_le_mul (by omega) h2
  omega
theorem mem_take_step {p : List Nat} {m j : Nat} (h : m < p.length) : decide (j ∈ p.take (m + 1)) = (decide (j ∈ p.take m) || decide (p.getD m 0 = j)) := by
  have e : p.getD m 0 = p[m] := by simp [h]
  have e2 : p.take (m + 1) = p.take m ++ [p[m]] := by simp
  rw [e, e2, Bool.eq_iff_iff]
  simp only [decide_eq_true_eq, Bool.or_eq_true, List.mem_append, List.mem_singleton]
  exact ⟨fun h => h.imp id Eq.symm, fun h => h.imp id Eq.symm⟩
theorem own_some {w : World} {base : Nat} {e : TypeId} {size n : Nat} {v : Value} {xs : List Value} (ho : w.ownsRow base e size v n xs) (h : v.ownBlock ≠ none) : ∃ g c, v = .slice (some ⟨g, 0, none⟩) n c ∧ base ≤ g ∧ g < w.heap.size := by
  rcases ho.2 with ⟨rfl, _⟩ | ⟨g, cap, cur, rfl, hg, hh, r⟩
  · exact absurd rfl h
  · exact ⟨g, cap, rfl, hg, (Array.getElem?_eq_some_iff.1 hh).1⟩
/-- No row of these lies where v lies. -/
def Off (vs : List Value) (v : Value) : Prop := ∀ u ∈ vs, ∀ k, u.ownBlock = some k → v.ownBlock ≠ some k
theorem RowsOf.at {w : World} {base : Nat} {vs : List Value} {ps : List (List Nat)} (h : RowsOf w base vs ps) {u : Value} (hu : u ∈ vs) {k : Nat} (hk : u.ownBlock = some k) : base ≤ k ∧ k < w.heap.size := by
  obtain ⟨j, hj⟩ := List.getElem?_of_mem hu
  have hl : j < ps.length := by rw [← h.1]; exact (List.getElem?_eq_some_iff.1 hj).1
  exact own_at (h.2 j u _ hj (List.getElem?_eq_getElem hl)) hk
set_option maxHeartbeats 3200000 in
theorem s_l4Perms (n : Nat) (hn : n ≤ 4) : ∀ (k : Nat) (p : List Nat) (base g c : Nat) (w : World), p.length + k = n → base ≤ w.heap.size → w.ownsRow base 3 1 (.slice (some ⟨g, 0, none⟩) p.length c) p.length (ints (natI p)) →
    Calls Tryd.prog 76 #[.int .i64 n, .slice (some ⟨g, 0, none⟩) p.length c] w fun e w' => ∃ v vs, e = .returned v ∧ w'.ownsRow w.heap.size 31 1 v (grow n k p).length vs ∧ v.ownBlock ≠ none ∧ RowsOf w' base vs (grow n k p) ∧ Off vs v ∧ Below w.heap.size w w' := by
  intro k
  induction k with
  | zero =>
    intro p base g c w hk hbw ho
    obtain rfl : n = p.length := by omega
    go_enter Tryd.func76, Tryd.ntmps76
    go_wp2_with fail
    go_ret
    refine ⟨_, [.slice (some ⟨g, 0, none⟩) p.length c], rfl, World.ownsRow_lit w #[.slice (some ⟨g, 0, none⟩) p.length c] 1 (Nat.le_refl _) (by decide) rfl, by simp [Value.ownBlock], RowsOf.one (own_later ho bl), ?_, bl⟩
    intro u hu k hk
    obtain rfl := List.mem_singleton.1 hu
    have := (own_at ho hk).2
    intro e
    simp [Value.ownBlock] at e
    omega
  | succ k ih =>
    intro p base g c w hk hbw ho
    have hne : ((p.length : Int) == (n : Int)) = false := by simp; omega
    have hu1 := Tryd.underlying31
    have hu2 := Tryd.underlying86
    obtain ⟨A, c', he, hrd⟩ := own_rd ho
    simp only [Value.slice.injEq] at he
    obtain ⟨rfl, _, rfl⟩ := he
    have HO := Lib.hid ho; clear ho
    have IH := Lib.hid ih; clear ih
    have hp4 : p.length ≤ 3 := by omega
    have HK := Lib.hid hk; clear hk
    go_enter Tryd.func76, Tryd.ntmps76
    go_wp2_with fail
    go_loopw [5, 6] (fun vo i wr => ∃ j : Nat, j ≤ n ∧ i = .int .i64 j ∧ (∃ vs, wr.ownsRow w.heap.size 31 1 vo (growTo n k p j).length vs ∧ vo.ownBlock ≠ none ∧ RowsOf wr base vs (growTo n k p j) ∧ Off vs vo) ∧ ∃ cw : BW w, wr = cw.val) (fun _ i _ => n - (intOf i).toNat)
    case atStart => exact ⟨0, Nat.zero_le _, rfl, ⟨[], World.ownsRow_lit w #[] 0 (Nat.le_refl _) (by decide) rfl, by simp [Value.ownBlock], RowsOf.nil _ _, fun u hu => by simp at hu⟩, ⟨⟨_, bl_alloc (Below.refl _ _) _⟩, rfl⟩⟩
    case round =>
      obtain ⟨j, hj, rfl, ⟨vs, hvo, hno, hrows, hoff⟩, cw, rfl⟩ := hrel
      have HR := Lib.hid (And.intro hvo (And.intro hno (And.intro hrows hoff))); clear hvo hno hrows hoff
      by_cases hlt : j < n
      · go_wp2_with fail
        go_loop [7, 8] (fun us i => ∃ m : Nat, m ≤ p.length ∧ i = .int .i64 m ∧ us = .bool (decide (j ∈ p.take m))) (fun _ i => p.length - (intOf i).toNat)
        case atStart => exact ⟨0, Nat.zero_le _, rfl, by simp⟩
        case round =>
          obtain ⟨m, hm, rfl, rfl⟩ := hrel
          by_cases hlm : m < p.length
          · obtain ⟨ad', hA, hc⟩ := (hrd.bw cw).int (i := m) (by rw [natI_length]; exact hlm)
            cases hA
            rw [natI_get hlm, add0] at hc
            have hst := mem_take_step (j := j) hlm
            obtain ⟨y, hy⟩ : ∃ y, y = p.getD m 0 := ⟨_, rfl⟩
            rw [← hy] at hc hst
            clear hy
            cases hd : decide (j ∈ p.take m) with
            | true =>
              rw [hd, Bool.true_or] at hst
              have HS := Lib.hid hst; clear hst hd
              go_wp2_with fail
              go_round
              case rel => exact ⟨m + 1, by omega, by go_num, by rw [HS.out]⟩
              case measure => simp [intOf]; omega
            | false =>
              rw [hd, Bool.false_or] at hst
              have HS := Lib.hid hst; clear hst hd
              go_wp2_with fail
              go_round
              case rel => exact ⟨m + 1, by omega, by go_num, by rw [HS.out]; refine congrArg Value.bool ?_; rw [Bool.eq_iff_iff]; simp; omega⟩
              case measure => simp [intOf]; omega
          · obtain rfl : m = p.length := by omega
            rw [List.take_length]
            have hgs := growTo_step n k p j
            have hgl := growTo_length_le (n := n) (k := k) hn (by have := HK.out; omega) p (j := j) (by omega)
            cases hd : decide (j ∈ p) with
            | true =>
              rw [if_pos (by simpa using hd), List.append_nil] at hgs
              have HG := Lib.hid hgs; clear hgs hd
              go_wp2_with fail
              go_roundw
              case rel => exact ⟨j + 1, by omega, by go_num, ⟨vs, by rw [HG.out]; exact HR.out⟩, cw, rfl⟩
              case measure => simp [intOf]; omega
            | false =>
              rw [if_neg (by simpa using hd)] at hgs
              have HG := Lib.hid hgs; clear hgs hd
              have hc1 := cw.out.size
              have hcall : Hid (∀ (g2 c2 : Nat) (W : World), cw.val.heap.size ≤ W.heap.size → W.ownsRow cw.val.heap.size 3 1 (.slice (some ⟨g2, 0, none⟩) (p.length + 1) c2) (p.length + 1) (ints (natI p) ++ [.int .i64 j]) →
                  Calls Tryd.prog 76 #[.int .i64 n, .slice (some ⟨g2, 0, none⟩) (p.length + 1) c2] W fun e w' => ∃ v vs, e = .returned v ∧ w'.ownsRow W.heap.size 31 1 v (grow n k (p ++ [j])).length vs ∧ v.ownBlock ≠ none ∧ RowsOf w' cw.val.heap.size vs (grow n k (p ++ [j])) ∧ Off vs v ∧ Below W.heap.size W w') := Lib.hid fun g2 c2 W hW hO => by
                have h := IH.out (p ++ [j]) cw.val.heap.size g2 c2 W (by have := HK.out; simp; omega) hW
                rw [show (p ++ [j]).length = p.length + 1 by simp, natI_append, ints_append] at h
                exact h hO
              have hlen1 : (ints (natI p)).length = p.length * 1 := by rw [ints_length, natI_length, Nat.mul_one]
              have HL1 := Lib.hid hlen1; clear hlen1
              have hgl2 := grow_length_le n hn k (p ++ [j])
              have hgl3 : 4 ^ k ≤ 4 ^ 4 := Nat.pow_le_pow_right (by decide) (by have := HK.out; omega)
              have hgl4 : (grow n k (p ++ [j])).length ≤ 256 := Nat.le_trans hgl2 hgl3
              clear hgl2
              go_wp2_with (first
                | (at_builtin; refine ap_own (w0 := cw.val) cw.val.heap.size rfl (.tmp 40) (.tmp 41) 31 3 (.int .i64 0) 1 8 rfl hu1 info_int rfl (by decide) (by decide) (.slice (some ⟨cw.val.heap.size, 0, none⟩) 0 0) 0 [] rfl (World.ownsRow_lit cw.val #[] 0 (Nat.le_refl _) (by decide) rfl) ⟨g, 0, none⟩ p.length c (ints (natI p)) rfl HL1.out (hrd.later (bl_alloc cw.out _)) (ints_one _) (by omega) (by simp) (bl_alloc (Below.refl _ _) _) ?_; intro v1 w1 ho1 hb1 hg1 hat1; rw [Nat.zero_add, List.nil_append] at ho1)
                | (at_builtin; refine ap_own (w0 := cw.val) cw.val.heap.size rfl (.tmp 42) (.tmp 44) 31 3 (.int .i64 0) 1 8 rfl hu1 info_int rfl (by decide) (by decide) v1 p.length (ints (natI p)) rfl (own_later ho1 (bl_alloc (Below.refl _ _) _)) ⟨w1.heap.size, 0, none⟩ 1 1 [.int .i64 j] rfl rfl (fun _ => ⟨_, rfl, fun i u hi => (Blk.new w1 #[.int .i64 j] 3).rd1 hi⟩) (by simp [Value.oneCell']) (by omega) (by have := hb1.size; simp; omega) (hb1.alloc hb1.size _) ?_; intro v2 w2 ho2 hb2 hg2 hat2))
              have hn1 : v1.ownBlock ≠ none := by
                rcases hat1 with h | h
                · rw [h]; simp [Value.ownBlock]
                · rw [h]; simp
              have hn2 : v2.ownBlock ≠ none := by
                rcases hat2 with h | h
                · rw [h]; exact hn1
                · rw [h]; simp
              obtain ⟨g2, c2, rfl, hg2b, hg2l⟩ := own_some ho2 hn2
              refine (hcall.out g2 c2 w2 hb2.size ho2).mono ?_
              rintro e w3 ⟨v3, vs3, rfl, ho3, hn3, hr3, hoff3, hb3⟩
              obtain ⟨g3, c3, rfl, hg3b, hg3l⟩ := own_some ho3 hn3
              have hb23 : Below cw.val.heap.size cw.val w3 := hb2.trans (hb3.mono hb2.size)
              obtain ⟨hvo, hno, hrows, hoff⟩ := HR.out
              have hvo3 := own_later hvo hb23
              obtain ⟨A3, cc3, hv3, hrd3⟩ := own_rd ho3
              simp only [Value.slice.injEq] at hv3
              obtain ⟨rfl, _, rfl⟩ := hv3
              have hbw3 : Below w.heap.size w w3 := cw.out.trans (hb23.mono hc1)
              have hone := hr3.slice
              have hl3 : vs3.length = (grow n k (p ++ [j])).length * 1 := by rw [hr3.1, Nat.mul_one]
              generalize hq1 : (growTo n k p j).length = q1 at *
              generalize hq2 : (grow n k (p ++ [j])).length = q2 at *
              have hs3 := hbw3.size
              have HX := Lib.hid (And.intro hrows (And.intro hoff (And.intro hno (And.intro hr3 (And.intro hoff3 hl3))))); clear hrows hoff hno hr3 hoff3 hl3
              have HQ := Lib.hid (And.intro hq1 hq2); clear hq1 hq2
              clear ho1 ho2 hvo hat1 hat2 hg1 hn1 hn2 hcall hgl3
              go_wp2_with (at_builtin; refine ap_own (w0 := w) w.heap.size rfl (.tmp 38) (.tmp 46) 86 31 (.slice none 0 0) 1 24 rfl hu2 info_ints rfl (by decide) (by decide) u5 q1 vs rfl hvo3 ⟨g3, 0, none⟩ q2 _ vs3 rfl HX.out.2.2.2.2.2 hrd3 hone (by omega) hs3 hbw3 ?_; intro v4 w4 ho4 hb4 hg4 hat4)
              obtain ⟨hrows, hoff, hno, hr3, hoff3, hl3⟩ := HX.out
              obtain ⟨hq1, hq2⟩ := HQ.out
              have hkp : Kp (fun i => u5.ownBlock = some i) w3 w4 := Kp.of_grown hg4 fun k e => e
              have hu5 : ∀ k, u5.ownBlock = some k → k < cw.val.heap.size := fun k hk => (own_at HR.out.1 hk).2
              have hr4 : RowsOf w4 base (vs ++ vs3) (growTo n k p (j + 1)) := by
                rw [HG.out]
                refine RowsOf.append ((hrows.later (hb23.mono (Nat.le_refl _))).kp hkp fun u hu k hk e => hoff u hu k hk e) ((hr3.mono (by omega)).kp hkp fun u hu k hk e => ?_)
                have h1 := (hr3.at hu hk).1
                have h2 := hu5 k e
                omega
              have hoff4 : Off (vs ++ vs3) v4 := by
                intro u hu k hk e
                rcases List.mem_append.1 hu with hu | hu
                · rcases hat4 with h | h
                  · exact hoff u hu k hk (by rw [← h]; exact e)
                  · rw [h] at e
                    cases e
                    have h1 := (hrows.at hu hk).2
                    have h2 := hb23.size
                    omega
                · rcases hat4 with h | h
                  · have h1 := (hr3.at hu hk).1
                    have h2 := hu5 k (by rw [← h]; exact e)
                    omega
                  · rw [h] at e
                    cases e
                    have h1 := (hr3.at hu hk).2
                    omega
              have hn4 : v4.ownBlock ≠ none := by
                rcases hat4 with h | h
                · rw [h]; exact hno
                · rw [h]; simp
              go_roundw
              case rel =>
                refine ⟨j + 1, by omega, by go_num, ⟨vs ++ vs3, ?_, hn4, hr4, hoff4⟩, ⟨w4, hb4⟩, rfl⟩
                rw [HG.out, List.length_append, hq1, hq2]
                exact ho4
              case measure => simp [intOf]; omega
      · obtain rfl : j = n := by omega
        rw [growTo_all] at HR
        go_wp2_with fail
        go_ret
        exact ⟨_, vs, rfl, HR.out.1, HR.out.2.1, HR.out.2.2.1, HR.out.2.2.2, cw.out⟩
end Go.Proofs.YtmkgiakngjpfpaaDoor

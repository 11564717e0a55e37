/- Ordered diagrams of tables: the nodes that an order gives. Plain numbers, no program. No conditions. -/
import Derived.Test.YtmkgiakngjpfpaaDoorBits
set_option linter.unusedVariables false
set_option linter.unusedSimpArgs false
set_option maxRecDepth 100000
namespace Go.Proofs.YtmkgiakngjpfpaaDoor

/-! ### bits put and held -/
/-- The bits of a that b does not have. -/
def anot (a b : Nat) : Nat := a ^^^ (a &&& b)
theorem anot_testBit (x y j : Nat) : (anot x y).testBit j = (x.testBit j && !y.testBit j) := by unfold anot; rw [Nat.testBit_xor, Nat.testBit_and]; cases x.testBit j <;> cases y.testBit j <;> rfl
theorem anot_lt {x y k : Nat} (h : x < 2 ^ k) : anot x y < 2 ^ k := Nat.lt_pow_two_of_testBit _ fun j hj => by rw [anot_testBit, Nat.testBit_lt_two_pow (Nat.lt_of_lt_of_le h (two_pow_le hj))]; rfl
/-- x with bit i set to b. -/
def put (x i b : Nat) : Nat := anot x (2 ^ i) ||| b * 2 ^ i
theorem put_testBit {b : Nat} (hb : b ≤ 1) (x i j : Nat) : (put x i b).testBit j = if i = j then decide (b = 1) else x.testBit j := by
  unfold put
  rw [Nat.testBit_or, anot_testBit, Nat.testBit_two_pow]
  have hc : b = 0 ∨ b = 1 := by omega
  by_cases e : i = j
  · subst e
    rcases hc with rfl | rfl
    · simp
    · simp [Nat.one_mul, Nat.testBit_two_pow]
  · rcases hc with rfl | rfl
    · simp [e]
    · simp [Nat.one_mul, Nat.testBit_two_pow, e]
theorem put_lt {x i b n : Nat} (hx : x < 2 ^ n) (hi : i < n) (hb : b ≤ 1) : put x i b < 2 ^ n :=
  Nat.lt_pow_two_of_testBit _ fun j hj => by
    rw [put_testBit hb, if_neg (by omega)]
    exact Nat.testBit_lt_two_pow (Nat.lt_of_lt_of_le hx (two_pow_le hj))
theorem put_put {b c : Nat} (hb : b ≤ 1) (hc : c ≤ 1) (x i : Nat) : put (put x i b) i c = put x i c := by
  apply Nat.eq_of_testBit_eq
  intro j
  rw [put_testBit hc, put_testBit hc, put_testBit hb]
  split <;> rfl
theorem put_comm {b c : Nat} (hb : b ≤ 1) (hc : c ≤ 1) {i k : Nat} (hne : i ≠ k) (x : Nat) : put (put x i b) k c = put (put x k c) i b := by
  apply Nat.eq_of_testBit_eq
  intro j
  rw [put_testBit hc, put_testBit hb, put_testBit hb, put_testBit hc]
  by_cases h1 : k = j
  · rw [if_pos h1, if_neg (by omega), if_pos h1]
  · rw [if_neg h1, if_neg h1]
theorem put_self (x i : Nat) : put x i (bitAt x i) = x := by
  apply Nat.eq_of_testBit_eq
  intro j
  rw [put_testBit (bitAt_le _ _)]
  split
  · rename_i e
    subst e
    unfold bitAt
    cases x.testBit i <;> simp
  · rfl

/-! ### tables: what is held, what depends -/
/-- The word of W with variable i held at b. -/
def stuckW (n W i b : Nat) : Nat := mk n fun x => W.testBit (put x i b)
theorem stuckW_lt (n W i b : Nat) : stuckW n W i b < 2 ^ 2 ^ n := mk_lt _ _
/-- Does W depend on variable i? -/
def dep (n W i : Nat) : Bool := decide (stuckW n W i 0 ≠ stuckW n W i 1)
theorem dep_iff {n W i : Nat} : dep n W i = false ↔ ∀ x, x < 2 ^ n → W.testBit (put x i 0) = W.testBit (put x i 1) := by
  unfold dep
  rw [decide_eq_false_iff_not, Decidable.not_not]
  constructor
  · intro h x hx
    have h0 : (stuckW n W i 0).testBit x = W.testBit (put x i 0) := mk_bit hx
    have h1 : (stuckW n W i 1).testBit x = W.testBit (put x i 1) := mk_bit hx
    rw [← h0, ← h1, h]
  · intro h
    exact mk_congr fun x hx => h x hx
/-- What does not depend is the same whatever is put. -/
theorem dep_put {n W i : Nat} (h : dep n W i = false) {x b : Nat} (hx : x < 2 ^ n) (hb : b ≤ 1) : W.testBit (put x i b) = W.testBit x := by
  have h1 := dep_iff.1 h x hx
  have h2 := put_self x i
  have hc : b = 0 ∨ b = 1 := by omega
  rcases bitAt_cases x i with e | e <;> rw [e] at h2 <;> rcases hc with rfl | rfl
  · rw [h2]
  · rw [← h1, h2]
  · rw [h1, h2]
  · rw [h2]
theorem stuck_indep {n W i b : Nat} (hW : W < 2 ^ 2 ^ n) (h : dep n W i = false) (hb : b ≤ 1) : stuckW n W i b = W :=
  mk_eq hW fun x hx => (dep_put h hx hb).symm
theorem dep_stuck_same {n W i b : Nat} (hi : i < n) (hb : b ≤ 1) : dep n (stuckW n W i b) i = false := by
  rw [dep_iff]
  intro x hx
  have h0 : (stuckW n W i b).testBit (put x i 0) = W.testBit (put (put x i 0) i b) := mk_bit (put_lt hx hi (by decide))
  have h1 : (stuckW n W i b).testBit (put x i 1) = W.testBit (put (put x i 1) i b) := mk_bit (put_lt hx hi (by decide))
  rw [h0, h1, put_put (by decide) hb, put_put (by decide) hb]
theorem dep_stuck {n W i b k : Nat} (hi : i < n) (hk : k < n) (hb : b ≤ 1) (h : dep n W k = false) : dep n (stuckW n W i b) k = false := by
  by_cases e : i = k
  · subst e; exact dep_stuck_same hi hb
  · rw [dep_iff]
    intro x hx
    have h0 : (stuckW n W i b).testBit (put x k 0) = W.testBit (put (put x k 0) i b) := mk_bit (put_lt hx hk (by decide))
    have h1 : (stuckW n W i b).testBit (put x k 1) = W.testBit (put (put x k 1) i b) := mk_bit (put_lt hx hk (by decide))
    rw [h0, h1, put_comm (by decide) hb (fun e' => e e'.symm), put_comm (by decide) hb (fun e' => e e'.symm)]
    exact dep_iff.1 h _ (put_lt hx hi hb)
/-- All ones. -/
def full (n : Nat) : Nat := 2 ^ 2 ^ n - 1
theorem full_lt (n : Nat) : full n < 2 ^ 2 ^ n := by unfold full; have := Nat.two_pow_pos (2 ^ n); omega
theorem full_bit {n x : Nat} (h : x < 2 ^ n) : (full n).testBit x = true := by unfold full; rw [Nat.testBit_two_pow_sub_one]; simpa using h
/-- Is W constant? -/
def isConst (n W : Nat) : Bool := W == 0 || W == full n
theorem isConst_iff {n W : Nat} (hW : W < 2 ^ 2 ^ n) : isConst n W = true ↔ ∀ x, x < 2 ^ n → W.testBit x = W.testBit 0 := by
  have hp := Nat.two_pow_pos n
  unfold isConst
  rw [Bool.or_eq_true, beq_iff_eq, beq_iff_eq]
  constructor
  · rintro (rfl | rfl) x hx
    · simp
    · rw [full_bit hx, full_bit hp]
  · intro h
    cases h0 : W.testBit 0 with
    | false => exact .inl (word_ext hW (by have := Nat.two_pow_pos (2 ^ n); omega) fun x hx => by rw [h x hx, h0]; simp)
    | true => exact .inr (word_ext hW (full_lt n) fun x hx => by rw [h x hx, h0, full_bit hx])
/-- The first k bits of x put to 0. -/
def clearTo (x : Nat) : Nat → Nat
  | 0 => x
  | k + 1 => put (clearTo x k) k 0
theorem clearTo_lt {n x : Nat} (hx : x < 2 ^ n) : ∀ k, k ≤ n → clearTo x k < 2 ^ n
  | 0, _ => hx
  | k + 1, h => put_lt (clearTo_lt hx k (by omega)) (by omega) (by decide)
theorem clearTo_testBit (x j : Nat) : ∀ k, (clearTo x k).testBit j = (decide (k ≤ j) && x.testBit j)
  | 0 => by simp [clearTo]
  | k + 1 => by
    unfold clearTo
    rw [put_testBit (by decide), clearTo_testBit x j k]
    by_cases e : k = j
    · subst e
      have : ¬ k + 1 ≤ k := by omega
      simp [this]
    · have : (k ≤ j) ↔ (k + 1 ≤ j) := by omega
      simp [e, this]
theorem clearTo_all {n x : Nat} (hx : x < 2 ^ n) : clearTo x n = 0 := by
  apply Nat.eq_of_testBit_eq
  intro j
  rw [clearTo_testBit, Nat.zero_testBit]
  by_cases h : n ≤ j
  · rw [Nat.testBit_lt_two_pow (Nat.lt_of_lt_of_le hx (two_pow_le h))]; simp
  · simp [h]
/-- What depends on no variable is constant. -/
theorem const_of_indep {n W : Nat} (hW : W < 2 ^ 2 ^ n) (h : ∀ i, i < n → dep n W i = false) : isConst n W = true := by
  rw [isConst_iff hW]
  intro x hx
  have key : ∀ k, k ≤ n → W.testBit (clearTo x k) = W.testBit x := by
    intro k
    induction k with
    | zero => intro _; rfl
    | succ k ih =>
      intro hk
      show W.testBit (put (clearTo x k) k 0) = _
      rw [dep_put (h k (by omega)) (clearTo_lt hx k (by omega)) (by decide)]
      exact ih (by omega)
  rw [← key n (Nat.le_refl _), clearTo_all hx]
theorem const_indep {n W : Nat} (hW : W < 2 ^ 2 ^ n) (h : isConst n W = true) {i : Nat} (hi : i < n) : dep n W i = false := by
  rw [dep_iff]
  intro x hx
  rw [(isConst_iff hW).1 h _ (put_lt hx hi (by decide)), (isConst_iff hW).1 h _ (put_lt hx hi (by decide))]

/-! ### the nodes -/
structure Nd where
  var : Nat
  lo : Int
  hi : Int
  word : Nat
/-- Where a word stands among the nodes. -/
def pos (W : Nat) : List Nd → Option Nat
  | [] => none
  | a :: r => if a.word = W then some 0 else (pos W r).map (· + 1)
theorem pos_append (W : Nat) (s : List Nd) (a : Nd) : pos W (s ++ [a]) = match pos W s with | some i => some i | none => if a.word = W then some s.length else none := by
  induction s with
  | nil => simp [pos]
  | cons b r ih =>
    simp only [List.cons_append, pos, ih]
    split
    · rfl
    · cases pos W r with
      | some i => rfl
      | none => simp
theorem pos_none {W : Nat} {s : List Nd} : pos W s = none ↔ ∀ a ∈ s, a.word ≠ W := by
  induction s with
  | nil => simp [pos]
  | cons b r ih =>
    simp only [pos, List.mem_cons, forall_eq_or_imp]
    split
    · rename_i h; simp [h]
    · rename_i h
      simp only [Option.map_eq_none_iff, ih]
      exact ⟨fun k => ⟨h, k⟩, fun k => k.2⟩
theorem pos_lt {W : Nat} {s : List Nd} {i : Nat} (h : pos W s = some i) : i < s.length := by
  induction s generalizing i with
  | nil => simp [pos] at h
  | cons b r ih =>
    simp only [pos] at h
    split at h
    · cases h; simp
    · cases hr : pos W r with
      | none => rw [hr] at h; simp at h
      | some j =>
        rw [hr] at h
        simp only [Option.map_some, Option.some.injEq] at h
        have := ih hr
        simp; omega
/-- The end of a constant. -/
def endOf (W : Nat) : Int := (bitAt W 0 : Int) - 2
/-- The diagram of W for an order of variables, behind nodes s: where it begins, and the nodes. -/
def bld (n : Nat) : List Nat → List Nd → Nat → Int × List Nd
  | [], s, W => (endOf W, s)
  | v :: vs, s, W =>
    if isConst n W then (endOf W, s)
    else if dep n W v then
      match pos W s with
      | some i => ((i : Int), s)
      | none =>
        let a := bld n vs s (stuckW n W v 0)
        let b := bld n vs a.2 (stuckW n W v 1)
        ((b.2.length : Int), b.2 ++ [⟨v, a.1, b.1, W⟩])
    else bld n vs s W
theorem bld_const {n W : Nat} (h : isConst n W = true) (vs : List Nat) (s : List Nd) : bld n vs s W = (endOf W, s) := by
  cases vs with
  | nil => rfl
  | cons v vs => rw [bld, if_pos h]
theorem bld_skip {n W : Nat} (vs0 vs : List Nat) (s : List Nd) (hc : isConst n W = false) (h : ∀ v ∈ vs0, dep n W v = false) : bld n (vs0 ++ vs) s W = bld n vs s W := by
  induction vs0 with
  | nil => rfl
  | cons v r ih =>
    rw [List.cons_append, bld, if_neg (by simp [hc]), if_neg (by simp [h v (by simp)])]
    exact ih fun u hu => h u (by simp [hu])
/-- The words that come depend on no more than W does. -/
theorem bld_words {n : Nat} (vs : List Nat) : ∀ (s : List Nd) (W : Nat), (∀ v ∈ vs, v < n) → ∀ a ∈ (bld n vs s W).2, a ∈ s ∨ ∀ u, u < n → dep n W u = false → dep n a.word u = false := by
  induction vs with
  | nil => intro s W _ a ha; exact .inl ha
  | cons v vs ih =>
    intro s W hv a ha
    have hv' : ∀ u ∈ vs, u < n := fun u hu => hv u (by simp [hu])
    rw [bld] at ha
    split at ha
    · exact .inl ha
    · split at ha
      · split at ha
        · exact .inl ha
        · simp only [List.mem_append, List.mem_singleton] at ha
          rcases ha with ha | rfl
          · rcases ih _ _ hv' a ha with h | h
            · rcases ih _ _ hv' a h with h | h
              · exact .inl h
              · exact .inr fun u hu hd => h u hu (dep_stuck (hv v (by simp)) hu (by decide) hd)
            · exact .inr fun u hu hd => h u hu (dep_stuck (hv v (by simp)) hu (by decide) hd)
          · exact .inr fun u hu hd => hd
      · exact ih s W hv' a ha
theorem bld_len {n : Nat} (vs : List Nat) : ∀ (s : List Nd) (W : Nat), (bld n vs s W).2.length + 1 ≤ s.length + 2 ^ vs.length := by
  induction vs with
  | nil => intro s W; simp [bld]
  | cons v vs ih =>
    intro s W
    have hp : 2 ^ (v :: vs).length = 2 ^ vs.length + 2 ^ vs.length := by rw [List.length_cons, Nat.pow_succ]; omega
    have h1 := Nat.two_pow_pos vs.length
    rw [hp, bld]
    split
    · show s.length + 1 ≤ _; omega
    · split
      · split
        · show s.length + 1 ≤ _; omega
        · have a := ih s (stuckW n W v 0)
          have b := ih (bld n vs s (stuckW n W v 0)).2 (stuckW n W v 1)
          simp only [List.length_append, List.length_singleton]
          omega
      · have := ih s W; omega
/-- The first of the words that is W. -/
theorem pos_some {W : Nat} {s : List Nd} {k : Nat} (hk : k < s.length) (h : (s.map Nd.word).getD k 0 = W) (hb : ∀ j, j < k → (s.map Nd.word).getD j 0 ≠ W) : pos W s = some k := by
  induction s generalizing k with
  | nil => simp at hk
  | cons a r ih =>
    cases k with
    | zero =>
      simp at h
      simp [pos, h]
    | succ k =>
      have h0 := hb 0 (by omega)
      simp at h0
      rw [pos, if_neg h0, ih (by simpa using hk) (by simpa using h) (fun j hj => by have := hb (j + 1) (by omega); simpa using this)]
      rfl
theorem pos_none' {W : Nat} {s : List Nd} (hb : ∀ j, j < s.length → (s.map Nd.word).getD j 0 ≠ W) : pos W s = none := by
  rw [pos_none]
  intro a ha
  obtain ⟨j, hj, e⟩ := List.getElem_of_mem ha
  have := hb j hj
  simpa [hj, e] using this
theorem bld_grows {n : Nat} (vs : List Nat) : ∀ (s : List Nd) (W : Nat), ∃ t, (bld n vs s W).2 = s ++ t := by
  induction vs with
  | nil => intro s W; exact ⟨[], by simp [bld]⟩
  | cons v vs ih =>
    intro s W
    rw [bld]
    split
    · exact ⟨[], by simp⟩
    · split
      · split
        · exact ⟨[], by simp⟩
        · obtain ⟨t1, h1⟩ := ih s (stuckW n W v 0)
          obtain ⟨t2, h2⟩ := ih (s ++ t1) (stuckW n W v 1)
          refine ⟨t1 ++ t2 ++ [⟨v, (bld n vs s (stuckW n W v 0)).1, (bld n vs (bld n vs s (stuckW n W v 0)).2 (stuckW n W v 1)).1, W⟩], ?_⟩
          simp only [h1, h2, List.append_assoc]
      · exact ih s W
end Go.Proofs.YtmkgiakngjpfpaaDoor

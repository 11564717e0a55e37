/- Words of bits: the number whose bits a predicate tells, and when two are one. Plain numbers, no program. No conditions. -/
set_option linter.unusedVariables false
namespace Go.Proofs.YtmkgiakngjpfpaaDoor

/-- The bit x of a word, as a number. -/
def bitAt (W x : Nat) : Nat := (W.testBit x).toNat
theorem bitAt_le (W x : Nat) : bitAt W x ≤ 1 := by unfold bitAt; cases W.testBit x <;> simp
theorem bitAt_eq (W x : Nat) : W >>> x &&& 1 = bitAt W x := by
  unfold bitAt
  rw [Nat.and_one_is_mod, Nat.shiftRight_eq_div_pow, Nat.testBit_eq_decide_div_mod_eq]
  rcases Nat.mod_two_eq_zero_or_one (W / 2 ^ x) with h | h <;> simp [h]
theorem bitAt_one {W x : Nat} : bitAt W x = 1 ↔ W.testBit x = true := by unfold bitAt; cases W.testBit x <;> simp
theorem bitAt_zero {W x : Nat} : bitAt W x = 0 ↔ W.testBit x = false := by unfold bitAt; cases W.testBit x <;> simp
theorem bitAt_cases (W x : Nat) : bitAt W x = 0 ∨ bitAt W x = 1 := by have := bitAt_le W x; omega

/-- The word whose bits below k a predicate tells. -/
def mkUpto (p : Nat → Bool) : Nat → Nat
  | 0 => 0
  | k + 1 => if p k then mkUpto p k ||| 2 ^ k else mkUpto p k
theorem mkUpto_testBit (p : Nat → Bool) : ∀ k i, (mkUpto p k).testBit i = (decide (i < k) && p i)
  | 0, i => by simp [mkUpto]
  | k + 1, i => by
    unfold mkUpto
    by_cases h : p k = true
    · rw [if_pos h, Nat.testBit_or, mkUpto_testBit p k i, Nat.testBit_two_pow]
      by_cases e : k = i
      · subst e; simp [h]
      · have : (i < k + 1) ↔ (i < k) := by omega
        simp [e, this]
    · rw [if_neg h, mkUpto_testBit p k i]
      by_cases e : k = i
      · subst e; simp [h]
      · have : (i < k + 1) ↔ (i < k) := by omega
        simp [this]
theorem mkUpto_lt (p : Nat → Bool) (k : Nat) : mkUpto p k < 2 ^ k :=
  Nat.lt_pow_two_of_testBit _ fun i hi => by rw [mkUpto_testBit]; simp; omega
theorem mkUpto_eq {p : Nat → Bool} {k W : Nat} (hW : W < 2 ^ k) (h : ∀ i, i < k → W.testBit i = p i) : mkUpto p k = W := by
  apply Nat.eq_of_testBit_eq
  intro i
  rw [mkUpto_testBit]
  by_cases hi : i < k
  · simp [hi, h i hi]
  · rw [Nat.testBit_lt_two_pow (Nat.lt_of_lt_of_le hW (Nat.pow_le_pow_right (by decide) (by omega)))]
    simp [hi]
theorem mkUpto_congr {p q : Nat → Bool} {k : Nat} (h : ∀ i, i < k → p i = q i) : mkUpto p k = mkUpto q k :=
  mkUpto_eq (mkUpto_lt q k) fun i hi => by rw [mkUpto_testBit, h i hi]; simp [hi]
/-- The word of the function of n variables with these values. -/
def mk (n : Nat) (p : Nat → Bool) : Nat := mkUpto p (2 ^ n)
theorem mk_lt (n : Nat) (p : Nat → Bool) : mk n p < 2 ^ 2 ^ n := mkUpto_lt _ _
theorem mk_testBit (n : Nat) (p : Nat → Bool) (i : Nat) : (mk n p).testBit i = (decide (i < 2 ^ n) && p i) := mkUpto_testBit _ _ _
theorem mk_bit {n : Nat} {p : Nat → Bool} {i : Nat} (h : i < 2 ^ n) : (mk n p).testBit i = p i := by rw [mk_testBit]; simp [h]
theorem mk_eq {n : Nat} {p : Nat → Bool} {W : Nat} (hW : W < 2 ^ 2 ^ n) (h : ∀ i, i < 2 ^ n → W.testBit i = p i) : mk n p = W := mkUpto_eq hW h
theorem mk_congr {n : Nat} {p q : Nat → Bool} (h : ∀ i, i < 2 ^ n → p i = q i) : mk n p = mk n q := mkUpto_congr h
theorem word_ext {n V W : Nat} (hV : V < 2 ^ 2 ^ n) (hW : W < 2 ^ 2 ^ n) (h : ∀ i, i < 2 ^ n → V.testBit i = W.testBit i) : V = W := by
  rw [← mk_eq hV (p := fun i => V.testBit i) (fun _ _ => rfl), ← mk_eq hW (p := fun i => W.testBit i) (fun _ _ => rfl)]
  exact mk_congr h

theorem two_pow_le {n m : Nat} (h : n ≤ m) : 2 ^ n ≤ 2 ^ m := Nat.pow_le_pow_right (by decide) h
theorem two_pow_lt {n m : Nat} (h : n < m) : 2 ^ n < 2 ^ m := Nat.pow_lt_pow_right (by decide) h
theorem pow_small {n : Nat} (h : n ≤ 5) : 2 ^ n ≤ 32 := two_pow_le h
theorem word_small {n W : Nat} (h : n ≤ 5) (hW : W < 2 ^ 2 ^ n) : W < 4294967296 := Nat.lt_of_lt_of_le hW (two_pow_le (pow_small h))

/-- May there be so many variables? -/
def okBits (b : Int) : Bool := decide (0 ≤ b ∧ b ≤ 5)
theorem okBits_nat {n : Nat} (h : n ≤ 5) : okBits n = true := by unfold okBits; simp; omega
theorem okBits_no {b : Int} (h : ¬ (0 ≤ b ∧ b ≤ 5)) : okBits b = false := by unfold okBits; simp; omega
theorem okBits_out {b : Int} (h : okBits b = true) : ∃ n : Nat, b = n ∧ n ≤ 5 := by
  unfold okBits at h
  simp only [decide_eq_true_eq] at h
  obtain ⟨n, rfl⟩ := Int.eq_ofNat_of_zero_le h.1
  exact ⟨n, rfl, by omega⟩
/-- Is this a table? -/
def isTab (b x : Int) : Bool := decide (0 ≤ b ∧ b ≤ 5 ∧ 0 ≤ x ∧ x < 2 ^ 2 ^ b.toNat)
theorem isTab_nat {n W : Nat} (hn : n ≤ 5) (hW : W < 2 ^ 2 ^ n) : isTab n W = true := by
  unfold isTab
  have e : ((2 : Int) ^ 2 ^ n) = ((2 ^ 2 ^ n : Nat) : Int) := by simp
  rw [Int.toNat_natCast, e]
  simp only [decide_eq_true_eq]
  omega
theorem isTab_out {b x : Int} (h : isTab b x = true) : ∃ n W : Nat, b = n ∧ x = W ∧ n ≤ 5 ∧ W < 2 ^ 2 ^ n := by
  unfold isTab at h
  simp only [decide_eq_true_eq] at h
  obtain ⟨h0, h1, h2, h3⟩ := h
  obtain ⟨n, rfl⟩ := Int.eq_ofNat_of_zero_le h0
  obtain ⟨W, rfl⟩ := Int.eq_ofNat_of_zero_le h2
  refine ⟨n, W, rfl, rfl, by omega, ?_⟩
  have e : ((2 : Int) ^ 2 ^ n) = ((2 ^ 2 ^ n : Nat) : Int) := by simp
  rw [Int.toNat_natCast, e] at h3
  omega
theorem isTab_bits {b x : Int} (h : okBits b = false) : isTab b x = false := by unfold okBits at h; unfold isTab; simp at h ⊢; omega
theorem isTab_neg {b x : Int} (h : x < 0) : isTab b x = false := by unfold isTab; simp; omega
theorem isTab_word {n W : Nat} (hn : n ≤ 5) : isTab n W = decide (W < 2 ^ 2 ^ n) := by
  unfold isTab
  have e : ((2 : Int) ^ 2 ^ n) = ((2 ^ 2 ^ n : Nat) : Int) := by simp
  rw [Int.toNat_natCast, e]
  apply decide_eq_decide.2
  omega
theorem shr_zero (W k : Nat) : (W >>> k = 0) ↔ W < 2 ^ k := by
  rw [Nat.shiftRight_eq_div_pow, Nat.div_eq_zero_iff]
  have := Nat.two_pow_pos k
  omega
end Go.Proofs.YtmkgiakngjpfpaaDoor

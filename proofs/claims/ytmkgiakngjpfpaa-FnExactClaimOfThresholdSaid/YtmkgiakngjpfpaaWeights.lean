/- Weights in their order, the best ones of a table; sums of sizes. Plain numbers. No conditions. -/
import Derived.Test.YtmkgiakngjpfpaaThr
set_option linter.unusedVariables false
set_option linter.unusedSimpArgs false
namespace Go.Proofs.Ytmkgiakngjpfpaa

def sz (a : Int) : Int := max a (-a)
def sszTo (xs : List Int) : Nat → Int
  | 0 => 0
  | k + 1 => sszTo xs k + sz (xs.getD k 0)
def ssz (xs : List Int) : Int := sszTo xs xs.length
theorem sz_le {b : Int} {xs : List Int} (h : small b xs) (k : Nat) : 0 ≤ sz (xs.getD k 0) ∧ sz (xs.getD k 0) ≤ b := by have := h k; unfold sz; omega
theorem sszTo_le {xs : List Int} (h : small 3 xs) (k : Nat) : 0 ≤ sszTo xs k ∧ sszTo xs k ≤ 3 * k := by
  induction k with
  | zero => simp [sszTo]
  | succ k ih => have := sz_le h k; unfold sszTo; omega
/-- Digit j of the weights with number c. -/
def dig (c j : Nat) : Nat := c / 7 ^ j % 7
theorem dig_lt (c j : Nat) : dig c j < 7 := Nat.mod_lt _ (by decide)
/-- The weights with number c: n digits to the base 7, the highest one first. -/
def wl (n c : Nat) : List Int := (List.range n).map fun i => (dig c (n - 1 - i) : Int) - 3
theorem wl_length (n c : Nat) : (wl n c).length = n := by simp [wl]
theorem wl_get {n c i : Nat} (h : i < n) : (wl n c).getD i 0 = (dig c (n - 1 - i) : Int) - 3 := by simp [wl, h, List.getD_eq_getElem?_getD]
theorem wl_small (n c : Nat) : small 3 (wl n c) := fun k => by
  by_cases h : k < n
  · rw [wl_get h]; have := dig_lt c (n - 1 - k); omega
  · rw [List.getD_eq_getElem?_getD, List.getElem?_eq_none (by rw [wl_length]; omega)]; simp
theorem wl_zero (n : Nat) : wl n 0 = List.replicate n (-3) := by
  apply List.ext_getElem (by simp [wl])
  intro i h1 h2
  simp [wl, dig]
/-- The digits below j are 6, digit j is not: what the next number's digits are. -/
theorem low_six {c j : Nat} (h : c % 7 ^ j = 7 ^ j - 1) (hd : dig c j = 6) : c % 7 ^ (j + 1) = 7 ^ (j + 1) - 1 := by
  have hp := Nat.pow_pos (n := j) (show 0 < 7 by decide)
  have e : c % 7 ^ (j + 1) = c % 7 ^ j + 7 ^ j * (c / 7 ^ j % 7) := by rw [Nat.pow_succ, Nat.mod_mul]
  unfold dig at hd
  rw [e, h, hd, Nat.pow_succ]
  omega
theorem div_next {c j : Nat} (h : c % 7 ^ j = 7 ^ j - 1) : (c + 1) / 7 ^ j = c / 7 ^ j + 1 := by
  have hp := Nat.pow_pos (n := j) (show 0 < 7 by decide)
  have e := Nat.div_add_mod c (7 ^ j)
  rw [h] at e
  have : c + 1 = 7 ^ j * (c / 7 ^ j + 1) := by rw [Nat.mul_add]; omega
  rw [this, Nat.mul_div_cancel_left _ hp]
theorem dig_low {c j t : Nat} (h : c % 7 ^ j = 7 ^ j - 1) (ht : t < j) : dig (c + 1) t = 0 := by
  have hp := Nat.pow_pos (n := j) (show 0 < 7 by decide)
  have e := Nat.div_add_mod c (7 ^ j)
  rw [h] at e
  obtain ⟨m, rfl⟩ : ∃ m, j = t + 1 + m := ⟨j - t - 1, by omega⟩
  have : c + 1 = 7 ^ t * (7 * (7 ^ m * (c / 7 ^ (t + 1 + m) + 1))) := by
    rw [← Nat.mul_assoc, ← Nat.mul_assoc, ← Nat.pow_succ, show t.succ = t + 1 from rfl, ← Nat.pow_add, Nat.mul_add]; omega
  unfold dig
  rw [this, Nat.mul_div_cancel_left _ (Nat.pow_pos (by decide)), Nat.mul_mod_right]
theorem dig_at {c j : Nat} (h : c % 7 ^ j = 7 ^ j - 1) (hd : dig c j ≠ 6) : dig (c + 1) j = dig c j + 1 := by
  have := dig_lt c j
  unfold dig at *
  rw [div_next h]; omega
theorem dig_high {c j t : Nat} (h : c % 7 ^ j = 7 ^ j - 1) (hd : dig c j ≠ 6) (ht : j < t) : dig (c + 1) t = dig c t := by
  have := dig_lt c j
  obtain ⟨m, rfl⟩ : ∃ m, t = j + (1 + m) := ⟨t - j - 1, by omega⟩
  unfold dig at *
  rw [Nat.pow_add, ← Nat.div_div_eq_div_mul, ← Nat.div_div_eq_div_mul, div_next h, Nat.pow_add, ← Nat.div_div_eq_div_mul, ← Nat.div_div_eq_div_mul]
  rw [show (c / 7 ^ j + 1) / 7 ^ 1 = c / 7 ^ j / 7 ^ 1 by rw [Nat.pow_one]; omega]
/-- What the odometer holds when j digits have been turned. -/
def odo (n c j : Nat) : List Int := (wl n c).take (n - j) ++ List.replicate j (-3)
theorem odo_length {n c j : Nat} (h : j ≤ n) : (odo n c j).length = n := by simp [odo, wl_length]; omega
theorem odo_get {n c j i : Nat} (h : j ≤ n) (hi : i < n) : (odo n c j).getD i 0 = if i < n - j then (dig c (n - 1 - i) : Int) - 3 else -3 := by
  unfold odo
  rw [List.getD_eq_getElem?_getD]
  by_cases h1 : i < n - j
  · rw [if_pos h1, List.getElem?_append_left (by simp [wl_length]; omega), List.getElem?_take_of_lt h1]
    simp [wl, hi]
  · rw [if_neg h1, List.getElem?_append_right (by simp [wl_length]; omega)]
    have : i - ((wl n c).take (n - j)).length < j := by simp [wl_length]; omega
    rw [List.getElem?_replicate, if_pos this]; rfl
theorem odo_ext {n : Nat} {xs ys : List Int} (hx : xs.length = n) (hy : ys.length = n) (h : ∀ i, i < n → xs.getD i 0 = ys.getD i 0) : xs = ys := by
  apply List.ext_getElem (by omega)
  intro i h1 h2
  have := h i (by omega)
  rw [List.getD_eq_getElem?_getD, List.getD_eq_getElem?_getD, List.getElem?_eq_getElem h1, List.getElem?_eq_getElem h2] at this
  simpa using this
theorem getD_set (xs : List Int) (i j : Nat) (a : Int) (h : i < xs.length) : (xs.set i a).getD j 0 = if i = j then a else xs.getD j 0 := by
  simp only [List.getD_eq_getElem?_getD, List.getElem?_set]
  split <;> simp_all
theorem odo_step {n c j : Nat} (h : j < n) : (odo n c j).set (n - 1 - j) (-3) = odo n c (j + 1) := by
  refine odo_ext (n := n) (by rw [List.length_set, odo_length (by omega)]) (odo_length (by omega)) fun i hi => ?_
  rw [getD_set _ _ _ _ (by rw [odo_length (by omega)]; omega), odo_get (by omega) hi, odo_get (by omega) hi]
  split <;> split <;> first | rfl | (split <;> first | rfl | omega) | omega
theorem odo_end {n c j : Nat} (h : j < n) (hc : c % 7 ^ j = 7 ^ j - 1) (hd : dig c j ≠ 6) : (odo n c j).set (n - 1 - j) ((dig c j : Int) - 3 + 1) = wl n (c + 1) := by
  refine odo_ext (n := n) (by rw [List.length_set, odo_length (by omega)]) (wl_length _ _) fun i hi => ?_
  rw [getD_set _ _ _ _ (by rw [odo_length (by omega)]; omega), odo_get (by omega) hi, wl_get hi]
  by_cases e : n - 1 - j = i
  · rw [if_pos e, show n - 1 - i = j by omega, dig_at hc hd]; omega
  · rw [if_neg e]
    by_cases h2 : i < n - j
    · rw [if_pos h2, dig_high hc hd (by omega)]
    · rw [if_neg h2, dig_low hc (by omega)]; rfl
theorem odo_zero (n c : Nat) : odo n c 0 = wl n c := by simp [odo]; rw [List.take_of_length_le (by rw [wl_length]; omega)]
/-- All digits are 6: the last number. -/
theorem last_code {n c : Nat} (hc : c < 7 ^ n) (h : c % 7 ^ n = 7 ^ n - 1) : c + 1 = 7 ^ n := by rw [Nat.mod_eq_of_lt hc] at h; omega
theorem not_last {n c j : Nat} (h : j < n) (hc : c < 7 ^ n) (h1 : c % 7 ^ j = 7 ^ j - 1) (hd : dig c j ≠ 6) : c + 1 < 7 ^ n := by
  rcases Nat.lt_or_ge (c + 1) (7 ^ n) with h2 | h2
  · exact h2
  · have e : c + 1 = 7 ^ n := by omega
    have h3 := dig_at h1 hd
    obtain ⟨m, rfl⟩ : ∃ m, n = j + (1 + m) := ⟨n - j - 1, by omega⟩
    unfold dig at h3
    rw [e, Nat.pow_add, Nat.mul_div_cancel_left _ (Nat.pow_pos (by decide)), Nat.pow_add, Nat.pow_one, Nat.mul_mod_right] at h3
    omega

/-- The best of the first c weights: they, their threshold, their size; size 100: none yet. -/
def wbest (n W : Nat) : Nat → List Int × Int × Int
  | 0 => ([], 0, 100)
  | c + 1 => if ssz (wl n c) < (wbest n W c).2.2 ∧ (thr n W (wl n c)).2 = true then (wl n c, (thr n W (wl n c)).1, ssz (wl n c)) else wbest n W c
theorem ssz_wl {n : Nat} (hn : n ≤ 4) (c : Nat) : 0 ≤ ssz (wl n c) ∧ ssz (wl n c) ≤ 12 := by have := sszTo_le (wl_small n c) (wl n c).length; rw [wl_length] at this; unfold ssz; rw [wl_length]; omega
theorem wbest_inv {n W : Nat} (hn : n ≤ 4) : ∀ c, (wbest n W c = ([], 0, 100)) ∨ (∃ d, d < c ∧ wbest n W c = (wl n d, (thr n W (wl n d)).1, ssz (wl n d)))
  | 0 => .inl rfl
  | c + 1 => by
    unfold wbest
    by_cases h : ssz (wl n c) < (wbest n W c).2.2 ∧ (thr n W (wl n c)).2 = true
    · rw [if_pos h]; exact .inr ⟨c, by omega, rfl⟩
    · rw [if_neg h]
      rcases wbest_inv hn c with h | ⟨d, h1, h2⟩
      · exact .inl h
      · exact .inr ⟨d, by omega, h2⟩
theorem wbest_yes {n W c : Nat} (h1 : ssz (wl n c) < (wbest n W c).2.2) (h2 : (thr n W (wl n c)).2 = true) : wbest n W (c + 1) = (wl n c, (thr n W (wl n c)).1, ssz (wl n c)) := by rw [wbest, if_pos ⟨h1, h2⟩]
theorem wbest_no {n W c : Nat} (h : ¬ (ssz (wl n c) < (wbest n W c).2.2 ∧ (thr n W (wl n c)).2 = true)) : wbest n W (c + 1) = wbest n W c := by rw [wbest, if_neg h]
/-- The weights of a table, their threshold, whether there are some. -/
def weights (n W : Nat) : List Int × Int × Bool := ((wbest n W (7 ^ n)).1, (wbest n W (7 ^ n)).2.1, decide ((wbest n W (7 ^ n)).2.2 < 100))
end Go.Proofs.Ytmkgiakngjpfpaa

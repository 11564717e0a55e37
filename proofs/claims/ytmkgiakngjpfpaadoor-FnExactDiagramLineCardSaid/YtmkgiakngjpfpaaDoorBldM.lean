/- Cubes of a table: the word of what is left when variables are held. Plain numbers, no program. No conditions. -/
import Derived.Test.YtmkgiakngjpfpaaDoorDiaM
set_option linter.unusedVariables false
set_option linter.unusedSimpArgs false
set_option maxRecDepth 100000
namespace Go.Proofs.YtmkgiakngjpfpaaDoor

/-- The word of F with the variables of a mask held at a value. -/
def cubeW (n F m v : Nat) : Nat := mk n fun x => F.testBit (anot x m ||| v)
theorem cubeW_lt (n F m v : Nat) : cubeW n F m v < 2 ^ 2 ^ n := mk_lt _ _
def Inside (v m : Nat) : Prop := ∀ j, v.testBit j = true → m.testBit j = true
theorem cube_pt {n x m v : Nat} (hx : x < 2 ^ n) (hv : v < 2 ^ n) : anot x m ||| v < 2 ^ n := Nat.or_lt_two_pow (anot_lt hx) hv
theorem cube_bit {n F m v x : Nat} (hx : x < 2 ^ n) : (cubeW n F m v).testBit x = F.testBit (anot x m ||| v) := mk_bit hx
theorem cube_and {x m v : Nat} (h : Inside v m) : (anot x m ||| v) &&& m = v := by
  apply Nat.eq_of_testBit_eq
  intro j
  rw [Nat.testBit_and, Nat.testBit_or, anot_testBit]
  have := h j
  cases hv : v.testBit j <;> cases hm : m.testBit j <;> simp_all
theorem cube_self {x m v : Nat} (h : x &&& m = v) : anot x m ||| v = x := by
  apply Nat.eq_of_testBit_eq
  intro j
  subst h
  rw [Nat.testBit_or, anot_testBit, Nat.testBit_and]
  cases x.testBit j <;> cases m.testBit j <;> rfl
theorem cube_zero {n F : Nat} (hF : F < 2 ^ 2 ^ n) : cubeW n F 0 0 = F := mk_eq hF fun x hx => by
  congr 1
  apply Nat.eq_of_testBit_eq
  intro j
  rw [Nat.testBit_or, anot_testBit]
  simp
theorem or_bit_testBit {b : Nat} (hb : b ≤ 1) (v i j : Nat) : (v ||| b * 2 ^ i).testBit j = (v.testBit j || (decide (i = j) && decide (b = 1))) := by
  rw [Nat.testBit_or]
  have hc : b = 0 ∨ b = 1 := by omega
  rcases hc with rfl | rfl
  · simp
  · rw [Nat.one_mul, Nat.testBit_two_pow]; simp
theorem cube_stuck {n F m v i b : Nat} (hi : i < n) (hb : b ≤ 1) (hm : m.testBit i = false) (hv : Inside v m) : stuckW n (cubeW n F m v) i b = cubeW n F (m ||| 2 ^ i) (v ||| b * 2 ^ i) := by
  refine mk_congr fun x hx => ?_
  rw [cube_bit (put_lt hx hi hb)]
  congr 1
  apply Nat.eq_of_testBit_eq
  intro j
  rw [Nat.testBit_or, Nat.testBit_or, anot_testBit, anot_testBit, put_testBit hb, or_bit_testBit hb, Nat.testBit_or, Nat.testBit_two_pow]
  have := hv j
  by_cases e : i = j
  · subst e
    cases hvi : v.testBit i <;> simp_all
  · cases hvj : v.testBit j <;> cases hmj : m.testBit j <;> cases hxj : x.testBit j <;> simp_all
theorem cube_low {n F m v i : Nat} (hi : i < n) (hm : m.testBit i = false) (hv : Inside v m) : cubeW n F (m ||| 2 ^ i) v = stuckW n (cubeW n F m v) i 0 := by
  have h := cube_stuck (F := F) (b := 0) hi (Nat.zero_le 1) hm hv
  rw [Nat.zero_mul, Nat.or_zero] at h
  exact h.symm
theorem cube_high {n F m v i : Nat} (hi : i < n) (hm : m.testBit i = false) (hv : Inside v m) : cubeW n F (m ||| 2 ^ i) (v ||| 2 ^ i) = stuckW n (cubeW n F m v) i 1 := by
  have h := cube_stuck (F := F) (b := 1) hi (Nat.le_refl 1) hm hv
  rw [Nat.one_mul] at h
  exact h.symm
theorem inside_or {v m i b : Nat} (hb : b ≤ 1) (hv : Inside v m) : Inside (v ||| b * 2 ^ i) (m ||| 2 ^ i) := by
  intro j hj
  rw [or_bit_testBit hb] at hj
  rw [Nat.testBit_or, Nat.testBit_two_pow]
  have := hv j
  cases hvj : v.testBit j <;> simp_all
theorem inside_more {v m i : Nat} (hv : Inside v m) : Inside v (m ||| 2 ^ i) := by
  intro j hj
  rw [Nat.testBit_or, hv j hj]; rfl
theorem cube_dep {n F m v i : Nat} (hi : i < n) (hm : m.testBit i = true) : dep n (cubeW n F m v) i = false := by
  rw [dep_iff]
  intro x hx
  rw [cube_bit (put_lt hx hi (by decide)), cube_bit (put_lt hx hi (by decide))]
  congr 2
  apply Nat.eq_of_testBit_eq
  intro j
  rw [anot_testBit, anot_testBit, put_testBit (by decide), put_testBit (by decide)]
  by_cases e : i = j
  · subst e; simp [hm]
  · simp [e]
/-- What the reference's cube says: the one value, or 2. -/
def cubeOut (n F m v : Nat) : Nat := if isConst n (cubeW n F m v) then bitAt (cubeW n F m v) 0 else 2
/-- All of the cube below k says what y says. -/
theorem cube_const {n F m v y : Nat} (hv : v < 2 ^ n) (hvm : Inside v m) (hy : y &&& m = v) (hyn : y < 2 ^ n) (h : ∀ x, x < 2 ^ n → x &&& m = v → bitAt F x = bitAt F y) : cubeOut n F m v = bitAt F y := by
  have hb : ∀ x, x < 2 ^ n → (cubeW n F m v).testBit x = F.testBit y := by
    intro x hx
    rw [cube_bit hx]
    have := h _ (cube_pt hx hv) (cube_and hvm)
    unfold bitAt at this
    cases h1 : F.testBit (anot x m ||| v) <;> cases h2 : F.testBit y <;> simp_all
  have hp := Nat.two_pow_pos n
  have hc : isConst n (cubeW n F m v) = true := (isConst_iff (cubeW_lt _ _ _ _)).2 fun x hx => by rw [hb x hx, hb 0 hp]
  unfold cubeOut
  rw [if_pos hc]
  unfold bitAt
  rw [hb 0 hp]
theorem cube_differ {n F m v y z : Nat} (hy : y &&& m = v) (hyn : y < 2 ^ n) (hz : z &&& m = v) (hzn : z < 2 ^ n) (h : bitAt F y ≠ bitAt F z) : cubeOut n F m v = 2 := by
  unfold cubeOut
  rw [if_neg]
  intro hc
  have h1 := (isConst_iff (cubeW_lt _ _ _ _)).1 hc y hyn
  have h2 := (isConst_iff (cubeW_lt _ _ _ _)).1 hc z hzn
  rw [cube_bit hyn, cube_self hy] at h1
  rw [cube_bit hzn, cube_self hz] at h2
  apply h
  unfold bitAt
  rw [h1, h2]
theorem or_add : ∀ a, a < 32 → ∀ b, b < 32 → a &&& b = 0 → a + b = a ||| b := by decide +kernel
theorem sub_and : ∀ x, x < 32 → ∀ m, m < 32 → x - (x &&& m) = anot x m := by decide +kernel
theorem cube_sum {x m v : Nat} (hx : x < 32) (hm : m < 32) (hv : v < 32) (h : Inside v m) : x - (x &&& m) + v = anot x m ||| v := by
  rw [sub_and x hx m hm]
  refine or_add _ (anot_lt (k := 5) hx) v hv ?_
  apply Nat.eq_of_testBit_eq
  intro j
  rw [Nat.testBit_and, anot_testBit, Nat.zero_testBit]
  have := h j
  cases hvj : v.testBit j <;> simp_all
end Go.Proofs.YtmkgiakngjpfpaaDoor

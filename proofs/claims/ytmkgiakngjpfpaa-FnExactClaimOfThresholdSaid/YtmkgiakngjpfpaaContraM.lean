/- The first two ones and two zeros with the same sums. Plain numbers. No conditions. -/
import Derived.Test.YtmkgiakngjpfpaaBits
set_option linter.unusedVariables false
namespace Go.Proofs.Ytmkgiakngjpfpaa

/-- The first number below k of which p holds. -/
def firstN (p : Nat → Bool) : Nat → Option Nat
  | 0 => none
  | k + 1 => match firstN p k with | some i => some i | none => if p k then some k else none
theorem firstN_hit {p : Nat → Bool} {k : Nat} (h : firstN p k = none) (hk : p k = true) : ∀ m, k < m → firstN p m = some k
  | 0, hm => absurd hm (by omega)
  | m + 1, hm => by
    unfold firstN
    rcases Nat.lt_or_ge k m with h1 | h1
    · rw [firstN_hit h hk m h1]
    · obtain rfl : k = m := by omega
      rw [h, if_pos hk]
theorem firstN_miss {p : Nat → Bool} {k : Nat} (h : firstN p k = none) (hk : p k = false) : firstN p (k + 1) = none := by unfold firstN; rw [h, hk]; rfl
theorem firstN_some {p : Nat → Bool} {i : Nat} : ∀ {k : Nat}, firstN p k = some i → i < k ∧ p i = true
  | 0, h => by simp [firstN] at h
  | k + 1, h => by
    unfold firstN at h
    cases hq : firstN p k with
    | some j => rw [hq] at h; have := firstN_some hq; simp at h; subst h; exact ⟨by omega, this.2⟩
    | none => rw [hq] at h; simp at h; obtain ⟨h1, rfl⟩ := h; exact ⟨by omega, h1⟩
theorem firstN_none {p : Nat → Bool} : ∀ {k : Nat}, firstN p k = none → ∀ i, i < k → p i = false
  | 0, _, i, hi => absurd hi (by omega)
  | k + 1, h, i, hi => by
    unfold firstN at h
    cases hq : firstN p k with
    | some j => rw [hq] at h; simp at h
    | none =>
      rw [hq] at h
      rcases Nat.lt_or_ge i k with h1 | h1
      · exact firstN_none hq i h1
      · obtain rfl : i = k := by omega
        cases hp : p i with
        | false => rfl
        | true => rw [hp] at h; simp at h

/-- Two zeros with the sums of a and b. -/
def okD (W a b c d : Nat) : Bool := (a &&& b == c &&& d) && (a ^^^ b == c ^^^ d) && !W.testBit c && !W.testBit d
def okC (W a b c : Nat) : Bool := decide (c ≤ a ^^^ b ^^^ c) && okD W a b c (a ^^^ b ^^^ c)
theorem okD_xor {W a b c d : Nat} (h : okD W a b c d = true) : d = a ^^^ b ^^^ c := by
  unfold okD at h
  simp only [Bool.and_eq_true, beq_iff_eq] at h
  rw [h.1.1.2, Nat.xor_comm c d, Nat.xor_assoc, Nat.xor_self, Nat.xor_zero]
theorem xor3_lt {n a b c : Nat} (ha : a < 2 ^ n) (hb : b < 2 ^ n) (hc : c < 2 ^ n) : a ^^^ b ^^^ c < 2 ^ n := Nat.xor_lt_two_pow (Nat.xor_lt_two_pow ha hb) hc
def cB (W N a : Nat) : Nat → Option (Nat × Nat)
  | 0 => none
  | k + 1 => match cB W N a k with | some r => some r | none => if decide (a ≤ k) && W.testBit a && W.testBit k then (firstN (okC W a k) N).map fun c => (k, c) else none
def cA (W N : Nat) : Nat → Option (Nat × Nat × Nat)
  | 0 => none
  | k + 1 => match cA W N k with | some r => some r | none => (cB W N k N).map fun r => (k, r.1, r.2)
theorem cB_hit {W N a k c : Nat} (h : cB W N a k = none) (h1 : a ≤ k) (h2 : W.testBit a = true) (h3 : W.testBit k = true) (h4 : firstN (okC W a k) N = some c) : ∀ m, k < m → cB W N a m = some (k, c)
  | 0, hm => absurd hm (by omega)
  | m + 1, hm => by
    unfold cB
    rcases Nat.lt_or_ge k m with h5 | h5
    · rw [cB_hit h h1 h2 h3 h4 m h5]
    · obtain rfl : k = m := by omega
      simp [h, h1, h2, h3, h4]
theorem cB_miss {W N a k : Nat} (h : cB W N a k = none) (h1 : (W.testBit a && W.testBit k) = false ∨ firstN (okC W a k) N = none) : cB W N a (k + 1) = none := by
  unfold cB
  rw [h]
  rcases h1 with h1 | h1
  · rw [Bool.and_assoc, h1]; simp
  · rw [h1]; simp
theorem cB_low (W N a : Nat) : ∀ k, k ≤ a → cB W N a k = none
  | 0, _ => rfl
  | k + 1, h => by unfold cB; rw [cB_low W N a k (by omega)]; simp; omega
theorem cA_hit {W N k : Nat} {r : Nat × Nat} (h : cA W N k = none) (h1 : cB W N k N = some r) : ∀ m, k < m → cA W N m = some (k, r.1, r.2)
  | 0, hm => absurd hm (by omega)
  | m + 1, hm => by
    unfold cA
    rcases Nat.lt_or_ge k m with h5 | h5
    · rw [cA_hit h h1 m h5]
    · obtain rfl : k = m := by omega
      rw [h, h1]; rfl
theorem cA_miss {W N k : Nat} (h : cA W N k = none) (h1 : cB W N k N = none) : cA W N (k + 1) = none := by unfold cA; rw [h, h1]; rfl
/-- The contradiction of a table: the list, and whether there is one. -/
def contra (n W : Nat) : List Int × Bool :=
  match cA W (2 ^ n) (2 ^ n) with
  | none => ([], false)
  | some (a, b, c) => ([(a : Int), (b : Int), (c : Int), ((a ^^^ b ^^^ c : Nat) : Int)], true)
theorem contra_some {n W N a b c d : Nat} (hN : N = 2 ^ n) (hA : cA W N a = none) (hB : cB W N a b = none) (hC : firstN (okC W a b) c = none) (h1 : a ≤ b) (h2 : W.testBit a = true) (h3 : W.testBit b = true)
    (hcd : c ≤ d) (hd : okD W a b c d = true) (ha : a < N) (hb : b < N) (hc : c < N) : contra n W = ([(a : Int), (b : Int), (c : Int), (d : Int)], true) := by
  have e := okD_xor hd
  have hok : okC W a b c = true := by unfold okC; rw [← e, hd]; simp [hcd]
  have := cA_hit hA (cB_hit hB h1 h2 h3 (firstN_hit hC hok N hc) N hb) N ha
  unfold contra
  rw [← hN, this, e]
theorem contra_none {n W N : Nat} (hN : N = 2 ^ n) (hA : cA W N N = none) : contra n W = ([], false) := by unfold contra; rw [← hN, hA]
end Go.Proofs.Ytmkgiakngjpfpaa

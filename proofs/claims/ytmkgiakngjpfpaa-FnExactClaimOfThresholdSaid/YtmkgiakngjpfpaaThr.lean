/- What the functions of weights and thresholds compute. No conditions. -/
import Derived.Test.YtmkgiakngjpfpaaTab
import Derived.Test.YtmkgiakngjpfpaaLib
set_option linter.unusedVariables false
set_option linter.unusedSimpArgs false
namespace Go.Proofs.Ytmkgiakngjpfpaa
open Go.RowKit

/-- The sum of the first k weights whose variables are 1. -/
def wsumTo (xs : List Int) (x : Nat) : Nat → Int
  | 0 => 0
  | k + 1 => wsumTo xs x k + xs.getD k 0 * (bitAt x k : Int)
def wsum (xs : List Int) (x : Nat) : Int := wsumTo xs x xs.length
def small (b : Int) (xs : List Int) : Prop := ∀ k, -b ≤ xs.getD k 0 ∧ xs.getD k 0 ≤ b
theorem bit_mul (a : Int) (x k : Nat) : a * (bitAt x k : Int) = if x.testBit k then a else 0 := by unfold bitAt; cases x.testBit k <;> simp
theorem wsumTo_le {b : Int} {xs : List Int} (h : small b xs) (hb : 0 ≤ b) (x k : Nat) : -(b * k) ≤ wsumTo xs x k ∧ wsumTo xs x k ≤ b * k := by
  induction k with
  | zero => simp [wsumTo]
  | succ k ih =>
    have := h k
    have e : b * ((k + 1 : Nat) : Int) = b * k + b := by rw [Int.natCast_add, Int.mul_add]; simp
    rw [e]; unfold wsumTo; rw [bit_mul]
    split <;> omega

theorem w_step {xs : List Int} {x k : Nat} (hx : x < 4294967296) (hb : small 100 xs) (hl : xs.length ≤ 5) (hlt : k < xs.length) :
    wrap64 (wsumTo xs x k + wrap64 (xs[k] * bits BinOp.and IntKind.i64 (↑x / 2 ^ k) 1)) = wsumTo xs x (k + 1) := by
  have hs := wsumTo_le hb (by omega) x k
  have hs1 := wsumTo_le hb (by omega) x (k + 1)
  have hk := hb k
  have e : xs[k] = xs.getD k 0 := by simp [hlt]
  rw [at_int' (by omega), e, bit_mul]
  have e2 : wsumTo xs x (k + 1) = wsumTo xs x k + if x.testBit k then xs.getD k 0 else 0 := by rw [← bit_mul]; rfl
  rw [e2]
  have hd : -100 ≤ (if x.testBit k = true then xs.getD k 0 else 0) ∧ (if x.testBit k = true then xs.getD k 0 else 0) ≤ 100 := by split <;> omega
  generalize (if x.testBit k = true then xs.getD k 0 else 0) = d at *
  rw [IntWalk.wrap64_in d (by omega), IntWalk.wrap64_in _ (by omega)]
set_option maxHeartbeats 400000 in
theorem i_weightAt (A : Option Addr) (c : Nat) (xs : List Int) (x : Nat) (w : World) (hr : RdC w A (ints xs)) (hx : x < 4294967296) (hb : small 100 xs) (hl : xs.length ≤ 5) :
    Ret Try.prog 45 #[.slice A xs.length c, .int .i64 x] w (.int .i64 (wsum xs x)) := by
  unfold Ret
  go_enter Try.func45, Try.ntmps45
  go_wp2
  go_loop [5, 10] (fun s i => ∃ k : Nat, k ≤ xs.length ∧ i = .int .i64 k ∧ s = .int .i64 (wsumTo xs x k)) (fun _ i => xs.length - (intOf i).toNat)
  case atStart => exact ⟨0, Nat.zero_le _, rfl, rfl⟩
  case round =>
    obtain ⟨k, hk, rfl, rfl⟩ := hrel
    by_cases hlt : k < xs.length
    · obtain ⟨ad, rfl, hc⟩ := hr.int hlt
      have hw := w_step hx hb hl hlt
      have HW := Lib.hid hw; clear hw
      go_wp2
      go_round
      case rel => exact ⟨k + 1, by omega, by go_num, by rw [HW.out]⟩
      case measure => simp [intOf]; omega
    · have : k = xs.length := by omega
      subst this
      go_wp2
      go_ret
      exact ⟨rfl, bl⟩
theorem w_step' {xs : List Int} {x k : Nat} (hb : small 100 xs) (hl : xs.length ≤ 5) (hlt : k < xs.length) (hbit : x.testBit k = true) : wrap64 (wsumTo xs x k + xs[k]) = wsumTo xs x (k + 1) := by
  have hs := wsumTo_le hb (by omega) x k
  have hk := hb k
  have e : xs[k] = xs.getD k 0 := by simp [hlt]
  have e2 : wsumTo xs x (k + 1) = wsumTo xs x k + xs.getD k 0 := by show wsumTo xs x k + xs.getD k 0 * (bitAt x k : Int) = _; rw [bit_mul, if_pos hbit]
  rw [e2, e, IntWalk.wrap64_in _ (by omega)]
theorem w_skip {xs : List Int} {x k : Nat} (hbit : x.testBit k = false) : wsumTo xs x k = wsumTo xs x (k + 1) := by
  show _ = wsumTo xs x k + xs.getD k 0 * (bitAt x k : Int)
  rw [bit_mul, if_neg (by simp [hbit])]; omega
set_option maxHeartbeats 400000 in
theorem s_l16Sum (A : Option Addr) (c : Nat) (xs : List Int) (x : Nat) (w : World) (hr : RdC w A (ints xs)) (hx : x < 4294967296) (hb : small 100 xs) (hl : xs.length ≤ 5) :
    Ret Try.prog 42 #[.slice A xs.length c, .int .i64 x] w (.int .i64 (wsum xs x)) := by
  unfold Ret
  go_enter Try.func42, Try.ntmps42
  go_wp2
  go_loop [5, 6] (fun s i => ∃ k : Nat, k ≤ xs.length ∧ i = .int .i64 k ∧ s = .int .i64 (wsumTo xs x k)) (fun _ i => xs.length - (intOf i).toNat)
  case atStart => exact ⟨0, Nat.zero_le _, rfl, rfl⟩
  case round =>
    obtain ⟨k, hk, rfl, rfl⟩ := hrel
    by_cases hlt : k < xs.length
    · obtain ⟨ad, rfl, hc⟩ := hr.int hlt
      have e := at_int' (W := x) (x := k) (by omega)
      cases hbit : x.testBit k with
      | true =>
        have hw := w_step' hb hl hlt hbit
        have e1 : (bits BinOp.and IntKind.i64 (↑x / 2 ^ k) 1 == 1) = true := by rw [e]; simp [bitAt, hbit]
        have HW := Lib.hid hw; clear hw e hbit
        go_wp2
        go_round
        case rel => exact ⟨k + 1, by omega, by go_num, by rw [HW.out]⟩
        case measure => simp [intOf]; omega
      | false =>
        have HW := Lib.hid (w_skip (xs := xs) hbit)
        have e1 : (bits BinOp.and IntKind.i64 (↑x / 2 ^ k) 1 == 1) = false := by rw [e]; simp [bitAt, hbit]
        clear e hbit
        go_wp2
        go_round
        case rel => exact ⟨k + 1, by omega, by go_num, by rw [HW.out]⟩
        case measure => simp [intOf]; omega
    · have : k = xs.length := by omega
      subst this
      go_wp2
      go_ret
      exact ⟨rfl, bl⟩

/-- The least sum of a one below k, the greatest sum of a zero below k. -/
def minOnes (W : Nat) (xs : List Int) : Nat → Option Int
  | 0 => none
  | k + 1 => if W.testBit k then (match minOnes W xs k with | none => some (wsum xs k) | some m => some (min m (wsum xs k))) else minOnes W xs k
def maxZeros (W : Nat) (xs : List Int) : Nat → Option Int
  | 0 => none
  | k + 1 => if W.testBit k then maxZeros W xs k else (match maxZeros W xs k with | none => some (wsum xs k) | some m => some (max m (wsum xs k)))
/-- The threshold of weights for a table, and whether there is one. -/
def thr (n W : Nat) (xs : List Int) : Int × Bool :=
  match minOnes W xs (2 ^ n) with
  | none => ((maxZeros W xs (2 ^ n)).getD 0 + 1, true)
  | some m => (m, match maxZeros W xs (2 ^ n) with | none => true | some M => decide (M < m))
theorem wsum_le {b : Int} {xs : List Int} (h : small b xs) (hb : 0 ≤ b) (x : Nat) : -(b * xs.length) ≤ wsum xs x ∧ wsum xs x ≤ b * xs.length := wsumTo_le h hb x _
theorem small_mono {a b : Int} {xs : List Int} (h : small a xs) (hab : a ≤ b) : small b xs := fun k => by have := h k; omega
theorem wsum_12 {xs : List Int} (h : small 3 xs) (hl : xs.length ≤ 4) (x : Nat) : -12 ≤ wsum xs x ∧ wsum xs x ≤ 12 := by have := wsum_le h (by omega) x; omega
theorem minOnes_le {W : Nat} {xs : List Int} (h : small 3 xs) (hl : xs.length ≤ 4) : ∀ k m, minOnes W xs k = some m → -12 ≤ m ∧ m ≤ 12
  | 0, m, e => by simp [minOnes] at e
  | k + 1, m, e => by
    have := wsum_12 h hl k
    unfold minOnes at e
    split at e
    · cases hq : minOnes W xs k with
      | none => rw [hq] at e; simp at e; omega
      | some q => have := minOnes_le h hl k q hq; rw [hq] at e; simp at e; omega
    · exact minOnes_le h hl k m e
theorem maxZeros_le {W : Nat} {xs : List Int} (h : small 3 xs) (hl : xs.length ≤ 4) : ∀ k m, maxZeros W xs k = some m → -12 ≤ m ∧ m ≤ 12
  | 0, m, e => by simp [maxZeros] at e
  | k + 1, m, e => by
    have := wsum_12 h hl k
    unfold maxZeros at e
    split at e
    · exact maxZeros_le h hl k m e
    · cases hq : maxZeros W xs k with
      | none => rw [hq] at e; simp at e; omega
      | some q => have := maxZeros_le h hl k q hq; rw [hq] at e; simp at e; omega
/-- Some input has a value. -/
theorem some_of_pos {W : Nat} {xs : List Int} : ∀ k, 0 < k → minOnes W xs k = none → ∃ M, maxZeros W xs k = some M
  | 0, h, _ => absurd h (by omega)
  | k + 1, _, e => by
    unfold minOnes at e
    unfold maxZeros
    split at e
    · cases hq : minOnes W xs k <;> rw [hq] at e <;> simp at e
    · rename_i hb
      rw [if_neg hb]
      cases hq : maxZeros W xs k <;> exact ⟨_, rfl⟩

theorem min_step {W k : Nat} {xs : List Int} (h : small 3 xs) (hl : xs.length ≤ 4) (hbit : W.testBit k = true) :
    (if wsum xs k < (minOnes W xs k).getD 100 then wsum xs k else (minOnes W xs k).getD 100) = (minOnes W xs (k + 1)).getD 100 := by
  have := wsum_12 h hl k
  have e : minOnes W xs (k + 1) = (match minOnes W xs k with | none => some (wsum xs k) | some m => some (min m (wsum xs k))) := by rw [minOnes, if_pos hbit]
  rw [e]
  cases minOnes W xs k with
  | none => simp; omega
  | some m => simp; split <;> omega
theorem max_step {W k : Nat} {xs : List Int} (h : small 3 xs) (hl : xs.length ≤ 4) (hbit : W.testBit k = false) :
    (if (maxZeros W xs k).getD (-100) < wsum xs k then wsum xs k else (maxZeros W xs k).getD (-100)) = (maxZeros W xs (k + 1)).getD (-100) := by
  have := wsum_12 h hl k
  have e : maxZeros W xs (k + 1) = (match maxZeros W xs k with | none => some (wsum xs k) | some m => some (max m (wsum xs k))) := by rw [maxZeros, if_neg (by simp [hbit])]
  rw [e]
  cases maxZeros W xs k with
  | none => simp; omega
  | some m => simp; split <;> omega
theorem min_skip {W k : Nat} {xs : List Int} (hbit : W.testBit k = false) : minOnes W xs (k + 1) = minOnes W xs k := by rw [minOnes, if_neg (by simp [hbit])]
theorem max_skip {W k : Nat} {xs : List Int} (hbit : W.testBit k = true) : maxZeros W xs (k + 1) = maxZeros W xs k := by rw [maxZeros, if_pos hbit]
theorem bit_yes {W k : Nat} (hW : W < 9223372036854775808) (h : (bits BinOp.and IntKind.i64 (↑W / 2 ^ k) 1 == 1) = true) : W.testBit k = true := by
  rw [at_int' hW] at h; unfold bitAt at h; cases hb : W.testBit k <;> simp_all
theorem bit_no {W k : Nat} (hW : W < 9223372036854775808) (h : (bits BinOp.and IntKind.i64 (↑W / 2 ^ k) 1 == 1) = false) : W.testBit k = false := by
  rw [at_int' hW] at h; unfold bitAt at h; cases hb : W.testBit k <;> simp_all
set_option maxHeartbeats 800000 in
theorem s_l16Fits (n W : Nat) (hn : n ≤ 4) (hW : W < 2 ^ 2 ^ n) (A : Option Addr) (c : Nat) (xs : List Int) (w : World) (hr : RdC w A (ints xs)) (hb : small 3 xs) (hl : xs.length = n) :
    Ret Try.prog 29 #[.agg #[.int .i64 n, .int .i64 W], .slice A xs.length c] w (.tuple #[.int .i64 (thr n W xs).1, .bool (thr n W xs).2]) := by
  subst hl
  unfold Ret
  have hu := Try.underlying24
  have hW' := word_small (by omega) hW
  obtain ⟨s, hs⟩ : ∃ s : Nat, s = 2 ^ xs.length := ⟨_, rfl⟩
  have hs16 : s ≤ 16 := by rw [hs]; exact two_pow_le hn
  have hsh : wrap64 (2 ^ xs.length) = (s : Int) := by rw [hs]; exact shl_one' _ (by omega)
  have HS := Lib.hid hs; clear hs
  go_enter Try.func29, Try.ntmps29
  go_wp2
  have hq : RdC (w.alloc (Obj.cells #[Value.int IntKind.i64 xs.length, Value.int IntKind.i64 W] 24)) A (ints xs) := hr.later ((Below.refl _ _).alloc (Nat.le_refl _) _)
  have hc0 : (w.alloc (Obj.cells #[Value.int IntKind.i64 xs.length, Value.int IntKind.i64 W] 24)).cell? ⟨w.heap.size, 0, none⟩ = some (.int .i64 xs.length) := by go_simp
  have hc1 : (w.alloc (Obj.cells #[Value.int IntKind.i64 xs.length, Value.int IntKind.i64 W] 24)).cell? ⟨w.heap.size, 1, none⟩ = some (.int .i64 W) := by go_simp
  have hbl : Below w.heap.size w (w.alloc (Obj.cells #[Value.int IntKind.i64 xs.length, Value.int IntKind.i64 W] 24)) := bl
  generalize (w.alloc (Obj.cells #[Value.int IntKind.i64 xs.length, Value.int IntKind.i64 W] 24)) = w1 at *
  have hd0 : ∀ c : BW w1, c.val.cell? ⟨w.heap.size, 0, none⟩ = some (.int .i64 xs.length) := fun c => c.cell hc0
  have hd1 : ∀ c : BW w1, c.val.cell? ⟨w.heap.size, 1, none⟩ = some (.int .i64 W) := fun c => c.cell hc1
  go_loopw [6, 7, 8] (fun lo hi i wr => ∃ k : Nat, k ≤ s ∧ i = .int .i64 k ∧ lo = .int .i64 ((minOnes W xs k).getD 100) ∧ hi = .int .i64 ((maxZeros W xs k).getD (-100)) ∧ ∃ c : BW w1, wr = c.val) (fun _ _ i _ => s - (intOf i).toNat)
  case atStart => exact ⟨0, Nat.zero_le _, rfl, rfl, rfl, ⟨w1, Below.refl _ _⟩, rfl⟩
  case round =>
    obtain ⟨k, hk, rfl, rfl, rfl, cw, rfl⟩ := hrel
    by_cases hlt : k < s
    · go_wp2_with (go_at_call 42; (with_reducible refine Ret.on (s_l16Sum A c xs k _ (hq.bw _) (by omega) (small_mono hb (by omega)) (by omega)) ?_); intro c2)
      · have hbit : W.testBit k = true := bit_yes (by omega) (by assumption)
        go_roundw
        case rel => exact ⟨k + 1, by omega, by go_num, by rw [min_step hb hn hbit], by rw [max_skip hbit], c2, rfl⟩
        case measure => simp [intOf]; omega
      · have hbit : W.testBit k = false := bit_no (by omega) (by assumption)
        go_roundw
        case rel => exact ⟨k + 1, by omega, by go_num, by rw [min_skip hbit], by rw [max_step hb hn hbit], c2, rfl⟩
        case measure => simp [intOf]; omega
    · obtain rfl : k = s := by omega
      have hth : thr xs.length W xs = match minOnes W xs k with
          | none => ((maxZeros W xs k).getD 0 + 1, true)
          | some m => (m, match maxZeros W xs k with | none => true | some M => decide (M < m)) := by rw [HS.out]; rfl
      cases hmo : minOnes W xs k with
      | none =>
        obtain ⟨M, hM⟩ := some_of_pos k (by rw [HS.out]; exact Nat.two_pow_pos _) hmo
        have hM2 := maxZeros_le hb hn _ _ hM
        rw [hmo, hM] at hth
        have HT := Lib.hid hth; clear hth
        simp only [hM, Option.getD_none, Option.getD_some]
        have HM := Lib.hid hM; clear hM
        have HO := Lib.hid hmo; clear hmo
        go_wp2
        go_ret2
        exact ⟨by rw [HT.out]; rfl, hbl.trans (cw.out.mono hbl.size)⟩
      | some m =>
        have hm2 := minOnes_le hb hn _ _ hmo
        rw [hmo] at hth
        cases hM : maxZeros W xs k with
        | none =>
          rw [hM] at hth
          have HT := Lib.hid hth; clear hth
          have HM := Lib.hid hM; clear hM
          have HO := Lib.hid hmo; clear hmo
          go_wp2
          go_ret2
          exact ⟨by rw [HT.out]; simp; omega, hbl.trans (cw.out.mono hbl.size)⟩
        | some M =>
          rw [hM] at hth
          have HT := Lib.hid hth; clear hth
          have HM := Lib.hid hM; clear hM
          have HO := Lib.hid hmo; clear hmo
          go_wp2
          go_ret2
          exact ⟨by rw [HT.out]; rfl, hbl.trans (cw.out.mono hbl.size)⟩
theorem int_bit_yes {W k : Nat} (h : W.testBit k = true) : (((bitAt W k : Nat) : Int) == 1) = true ∧ (((bitAt W k : Nat) : Int) == 0) = false := by unfold bitAt; rw [h]; exact ⟨rfl, rfl⟩
theorem int_bit_no {W k : Nat} (h : W.testBit k = false) : (((bitAt W k : Nat) : Int) == 1) = false ∧ (((bitAt W k : Nat) : Int) == 0) = true := by unfold bitAt; rw [h]; exact ⟨rfl, rfl⟩
theorem min_first {W k : Nat} {xs : List Int} (hbit : W.testBit k = true) (h : minOnes W xs k = none) : minOnes W xs (k + 1) = some (wsum xs k) := by rw [minOnes, if_pos hbit, h]
theorem min_next {W k : Nat} {xs : List Int} {m : Int} (hbit : W.testBit k = true) (h : minOnes W xs k = some m) : minOnes W xs (k + 1) = some (min m (wsum xs k)) := by rw [minOnes, if_pos hbit, h]
theorem max_first {W k : Nat} {xs : List Int} (hbit : W.testBit k = false) (h : maxZeros W xs k = none) : maxZeros W xs (k + 1) = some (wsum xs k) := by rw [maxZeros, if_neg (by simp [hbit]), h]
theorem max_next {W k : Nat} {xs : List Int} {m : Int} (hbit : W.testBit k = false) (h : maxZeros W xs k = some m) : maxZeros W xs (k + 1) = some (max m (wsum xs k)) := by rw [maxZeros, if_neg (by simp [hbit]), h]
set_option maxHeartbeats 1600000 in
theorem i_threshold (W : Nat) (A : Option Addr) (c : Nat) (xs : List Int) (hn : xs.length ≤ 4) (hW : W < 2 ^ 2 ^ xs.length) (w : World) (hr : RdC w A (ints xs)) (hb : small 3 xs) :
    Ret Try.prog 32 #[.agg #[.int .i64 xs.length, .int .i64 W], .slice A xs.length c] w (.tuple #[.int .i64 (thr xs.length W xs).1, .bool (thr xs.length W xs).2]) := by
  unfold Ret
  have hu := Try.underlying24
  have hW' := word_small (by omega) hW
  obtain ⟨s, hs⟩ : ∃ s : Nat, s = 2 ^ xs.length := ⟨_, rfl⟩
  have hs16 : s ≤ 16 := by rw [hs]; exact two_pow_le hn
  have HS := Lib.hid hs; clear hs
  have HW := Lib.hid hW; clear hW
  go_enter Try.func32, Try.ntmps32
  go_wp2_with fail
  have hq : RdC (w.alloc (Obj.cells #[Value.int IntKind.i64 xs.length, Value.int IntKind.i64 W] 24)) A (ints xs) := hr.later ((Below.refl _ _).alloc (Nat.le_refl _) _)
  have hc0 : (w.alloc (Obj.cells #[Value.int IntKind.i64 xs.length, Value.int IntKind.i64 W] 24)).cell? ⟨w.heap.size, 0, none⟩ = some (.int .i64 xs.length) := by go_simp
  have hc1 : (w.alloc (Obj.cells #[Value.int IntKind.i64 xs.length, Value.int IntKind.i64 W] 24)).cell? ⟨w.heap.size, 1, none⟩ = some (.int .i64 W) := by go_simp
  have hbl : Below w.heap.size w (w.alloc (Obj.cells #[Value.int IntKind.i64 xs.length, Value.int IntKind.i64 W] 24)) := bl
  generalize (w.alloc (Obj.cells #[Value.int IntKind.i64 xs.length, Value.int IntKind.i64 W] 24)) = w1 at *
  have hd0 : ∀ c : BW w1, c.val.cell? ⟨w.heap.size, 0, none⟩ = some (.int .i64 xs.length) := fun c => c.cell hc0
  have hd1 : ∀ c : BW w1, c.val.cell? ⟨w.heap.size, 1, none⟩ = some (.int .i64 W) := fun c => c.cell hc1
  refine (i_size _ _ _ (by omega) HS.out _).go ?_; intro c1
  go_wp2_with fail
  go_loopw [6, 7, 8, 9, 14] (fun lo hi so no i wr => ∃ k : Nat, k ≤ s ∧ i = .int .i64 k ∧ lo = .int .i64 ((minOnes W xs k).getD 0) ∧ hi = .int .i64 ((maxZeros W xs k).getD 0) ∧ so = .bool (minOnes W xs k).isSome ∧ no = .bool (maxZeros W xs k).isNone ∧ ∃ c : BW w1, wr = c.val) (fun _ _ _ _ i _ => s - (intOf i).toNat)
  case atStart => exact ⟨0, Nat.zero_le _, rfl, rfl, rfl, rfl, rfl, c1, rfl⟩
  case round =>
    obtain ⟨k, hk, rfl, rfl, rfl, rfl, rfl, cw, rfl⟩ := hrel
    by_cases hlt : k < s
    · cases hbit : W.testBit k with
      | true =>
        obtain ⟨e1, e2⟩ := int_bit_yes hbit
        cases hmo : minOnes W xs k with
        | none =>
          have h2 := min_first hbit hmo
          have h3 := max_skip (xs := xs) hbit
          have H2 := Lib.hid h2; have H3 := Lib.hid h3; clear h2 h3 hbit hmo
          go_wp2_with (first | (go_at_call 45; (with_reducible refine Ret.on (i_weightAt A c xs k _ (hq.bw _) (by omega) (small_mono hb (by omega)) (by omega)) ?_); intro c2) | (go_at_call 36; (with_reducible refine Ret.on (i_at _ W k hW' _) ?_); intro c3))
          go_roundw
          case rel => exact ⟨k + 1, by omega, by go_num, by rw [H2.out]; rfl, by rw [H3.out], by rw [H2.out]; rfl, by rw [H3.out], _, rfl⟩
          case measure => simp [intOf]; omega
        | some m =>
          have h2 := min_next hbit hmo
          have h3 := max_skip (xs := xs) hbit
          have H2 := Lib.hid h2; have H3 := Lib.hid h3; clear h2 h3 hbit hmo
          go_wp2_with (first | (go_at_call 45; (with_reducible refine Ret.on (i_weightAt A c xs k _ (hq.bw _) (by omega) (small_mono hb (by omega)) (by omega)) ?_); intro c2) | (go_at_call 36; (with_reducible refine Ret.on (i_at _ W k hW' _) ?_); intro c3))
          all_goals
            go_roundw
            case rel => exact ⟨k + 1, by omega, by go_num, by rw [H2.out]; simp; omega, by rw [H3.out], by rw [H2.out]; rfl, by rw [H3.out], _, rfl⟩
            case measure => simp [intOf]; omega
      | false =>
        obtain ⟨e1, e2⟩ := int_bit_no hbit
        cases hmo : maxZeros W xs k with
        | none =>
          have h2 := max_first hbit hmo
          have h3 := min_skip (xs := xs) hbit
          have H2 := Lib.hid h2; have H3 := Lib.hid h3; clear h2 h3 hbit hmo
          go_wp2_with (first | (go_at_call 45; (with_reducible refine Ret.on (i_weightAt A c xs k _ (hq.bw _) (by omega) (small_mono hb (by omega)) (by omega)) ?_); intro c2) | (go_at_call 36; (with_reducible refine Ret.on (i_at _ W k hW' _) ?_); intro c3))
          go_roundw
          case rel => exact ⟨k + 1, by omega, by go_num, by rw [H3.out], by rw [H2.out]; rfl, by rw [H3.out], by rw [H2.out]; rfl, _, rfl⟩
          case measure => simp [intOf]; omega
        | some m =>
          have h2 := max_next hbit hmo
          have h3 := min_skip (xs := xs) hbit
          have H2 := Lib.hid h2; have H3 := Lib.hid h3; clear h2 h3 hbit hmo
          go_wp2_with (first | (go_at_call 45; (with_reducible refine Ret.on (i_weightAt A c xs k _ (hq.bw _) (by omega) (small_mono hb (by omega)) (by omega)) ?_); intro c2) | (go_at_call 36; (with_reducible refine Ret.on (i_at _ W k hW' _) ?_); intro c3))
          all_goals
            go_roundw
            case rel => exact ⟨k + 1, by omega, by go_num, by rw [H3.out], by rw [H2.out]; simp; omega, by rw [H3.out], by rw [H2.out]; rfl, _, rfl⟩
            case measure => simp [intOf]; omega
    · obtain rfl : k = s := by omega
      have hth : thr xs.length W xs = match minOnes W xs k with
          | none => ((maxZeros W xs k).getD 0 + 1, true)
          | some m => (m, match maxZeros W xs k with | none => true | some M => decide (M < m)) := by rw [HS.out]; rfl
      cases hmo : minOnes W xs k with
      | none =>
        obtain ⟨M, hM⟩ := some_of_pos k (by rw [HS.out]; exact Nat.two_pow_pos _) hmo
        have hM2 := maxZeros_le hb hn _ _ hM
        rw [hmo, hM] at hth
        have HT := Lib.hid hth; clear hth
        simp only [hM, Option.getD_none, Option.getD_some]
        have HM := Lib.hid hM; clear hM
        have HO := Lib.hid hmo; clear hmo
        go_wp2_with fail
        go_ret2
        exact ⟨by rw [HT.out]; rfl, hbl.trans (cw.out.mono hbl.size)⟩
      | some m =>
        rw [hmo] at hth
        cases hM : maxZeros W xs k <;>
        · rw [hM] at hth
          have HT := Lib.hid hth; clear hth
          have HM := Lib.hid hM; clear hM
          have HO := Lib.hid hmo; clear hmo
          go_wp2_with fail
          go_ret2
          exact ⟨by rw [HT.out]; rfl, hbl.trans (cw.out.mono hbl.size)⟩
end Go.Proofs.Ytmkgiakngjpfpaa

/- Strings as lists of bytes, and the texts of whole numbers, of both. No conditions. -/
import Derived.Test.YtmkgiakngjpfpaaDoorSlice
import Derived.Laws.Concat
import Derived.Laws.Strings
import Derived.Laws.BytesString
import Derived.Laws.Strings2
import Derived.Lib.ItoaNum
set_option linter.unusedVariables false
set_option linter.unusedSimpArgs false
set_option maxRecDepth 100000
namespace Go.Proofs.YtmkgiakngjpfpaaDoor
open Go.RowKit

/-- A string of these bytes. -/
def bs (l : List UInt8) : ByteArray := ⟨l.toArray⟩
theorem bs_size (l : List UInt8) : (bs l).size = l.length := by show l.toArray.size = _; simp
theorem bs_nil : bs [] = ⟨#[]⟩ := rfl
theorem bs_append (a b : List UInt8) : bs a ++ bs b = bs (a ++ b) := by
  unfold bs
  rw [ByteArray.mk_append_mk]
theorem bs_list (s : ByteArray) : bs s.data.toList = s := by cases s; rfl
theorem bs_inj {a b : List UInt8} (h : bs a = bs b) : a = b := by
  have := congrArg (fun s : ByteArray => s.data.toList) h
  simpa [bs] using this
theorem bs_eq (a b : List UInt8) : (bs a = bs b) ↔ a = b := ⟨bs_inj, fun h => by rw [h]⟩
theorem bs_toList (l : List UInt8) : (bs l).toList = l := by rw [ByteArray.toList_eq]; rfl
theorem bs_empty {l : List UInt8} (h : l ≠ []) : (bs l).toList.isEmpty = false := by rw [bs_toList]; cases l <;> simp_all
/-- a + b. -/
theorem add_bs {P : Program} (a b : List UInt8) (h : a.length + b.length ≤ 9223372036854775807) (w : World) : (Op.stringOp .add (bs a) (bs b)).run P w = .ok (.string (bs (a ++ b))) w := by
  rw [run_string_add_sum w _ _ (by rw [bs_size, bs_size]; exact h), bs_append]
/-- Bytes, as cells. -/
def u8s (l : List UInt8) : List Value := l.map fun c => .int .u8 c.toNat
theorem u8s_length (l : List UInt8) : (u8s l).length = l.length := by simp [u8s]
theorem u8s_append (a b : List UInt8) : u8s (a ++ b) = u8s a ++ u8s b := by simp [u8s]
theorem u8s_one (l : List UInt8) : ∀ u ∈ u8s l, u.oneCell' = true := by
  intro u hu
  obtain ⟨x, _, rfl⟩ := List.mem_map.1 hu
  rfl
theorem push_all (l : List UInt8) : ∀ s : ByteArray, (l.map fun c : UInt8 => (c.toNat : Int)).foldl (fun r n => r.push (UInt8.ofNat n.toNat)) s = s ++ bs l := by
  induction l with
  | nil => intro s; rw [← bs_list s, bs_append, List.append_nil]; rfl
  | cons c r ih =>
    intro s
    rw [List.map_cons, List.foldl_cons, ih]
    have : s.push (UInt8.ofNat ((c.toNat : Int)).toNat) = s ++ bs [c] := by
      rw [Int.toNat_natCast, UInt8.ofNat_toNat, ← bs_list (s.push c), ← bs_list s, bs_append]
      simp [bs]
    rw [this, ← bs_list s, bs_append, bs_append, bs_append]
    simp
/-- string(b), b's bytes in memory. -/
theorem conv_bytes {W : World} {ad : Addr} {l : List UInt8} {n c : Nat} (hn : l.length = n) (hr : RdC W (some ad) (u8s l)) : (convert 92 9 (.slice (some ad) n c)).run Tryd.prog W = .ok (.string (bs l)) W := by
  subst hn
  rw [run_convert_bytes_string W _ _ _ (some ad) l.length c Tryd.underlying92 Tryd.underlying5 Tryd.underlying9, run_bytesToString W ad l.length c (l.map fun c : UInt8 => (c.toNat : Int)), push_all]
  · rw [show ByteArray.empty = bs [] from rfl, bs_append]; rfl
  · have := run_loadCells_list (P := Tryd.prog) (w := W) ad (u8s l) fun j v hj => by
      obtain ⟨ad', e, hc⟩ := hr (by have := (List.getElem?_eq_some_iff.1 hj).1; omega)
      cases e
      exact hc j v hj
    rw [u8s_length] at this
    rw [this]
    simp [u8s]
theorem conv_byte (W : World) (c : UInt8) : (convert 92 9 (.slice (some ⟨W.heap.size, 0, none⟩) 1 1)).run Tryd.prog (W.alloc (Obj.cells #[.int .u8 c.toNat] 5)) = .ok (.string (bs [c])) (W.alloc (Obj.cells #[.int .u8 c.toNat] 5)) :=
  conv_bytes (l := [c]) rfl fun _ => ⟨_, rfl, fun i v hi => by
    match i, hi with
    | 0, hi => simp [u8s] at hi; subst hi; rw [add0]; go_simp
    | i + 1, hi => simp [u8s] at hi⟩
theorem abc_cut : ∀ v, v < 5 → (⟨#[97, 98, 99, 100, 101]⟩ : ByteArray).extract v (v + 1) = bs [UInt8.ofNat (97 + v)] := by decide +kernel
/-- "abcde"[v:v+1]. -/
theorem slice_abc {v : Nat} (hv : v < 5) (W : World) : (Instr.slice 9 (.string ⟨#[97, 98, 99, 100, 101]⟩) (some (.int .i64 v)) (some (.int .i64 ((v : Int) + 1))) none).run Tryd.prog W = .ok (.string (bs [UInt8.ofNat (97 + v)])) W := by
  rw [run_slice_string W _ _ .i64 .i64 v ((v : Int) + 1) Tryd.underlying9 (by omega) (by omega) (by show (v : Int) + 1 ≤ ((5 : Nat) : Int); omega)]
  rw [← abc_cut v hv]
  congr 2
/-- The text of a number. -/
def num (n : Int) : List UInt8 := Lib.itoa n
theorem digits_small {k : Nat} (h : k < 10) : Lib.decDigits k = [UInt8.ofNat (48 + k)] := by rw [Lib.decDigits, dif_pos h]
theorem digits_big {k : Nat} (h : ¬ k < 10) : Lib.decDigits k = Lib.decDigits (k / 10) ++ [UInt8.ofNat (48 + k % 10)] := by rw [Lib.decDigits, dif_neg h]
/-- The digits of m, but for the last ones. -/
def restOf (m k : Nat) (ds : List UInt8) : Prop := Lib.decDigits m = (if k = 0 then ds else Lib.decDigits k ++ ds) ∧ 2 * ds.length + k ≤ m + 1 ∧ (k ≠ 0 → 2 * ds.length + k ≤ m)
theorem restOf_step {m k : Nat} {ds : List UInt8} (h : restOf m k ds) (hk : k ≠ 0) : restOf m (k / 10) (UInt8.ofNat (48 + k % 10) :: ds) := by
  refine ⟨?_, ?_⟩
  · rw [h.1, if_neg hk]
    by_cases h10 : k < 10
    · rw [if_pos (by omega), digits_small h10, Nat.mod_eq_of_lt h10]; rfl
    · rw [if_neg (by omega), digits_big h10, List.append_assoc]; rfl
  · have := h.2.2 hk
    rw [List.length_cons]
    omega
theorem byte_digit (k : Nat) : ((UInt8.ofNat (48 + k % 10)).toNat : Int) = 48 + (k : Int) % 10 := by
  rw [UInt8.toNat_ofNat_of_lt' (by show 48 + k % 10 < 256; omega)]
  omega
set_option maxHeartbeats 1600000 in
theorem s_FormatInt (n : Int) (h0 : -9223372036854775808 ≤ n) (h1 : n ≤ 9223372036854775807) (w : World) : Ret Tryd.prog 41 #[.int .i64 n] w (.string (bs (num n))) := by
  unfold Ret
  by_cases hz : n = 0
  · subst hz
    go_enter Tryd.func41, Tryd.ntmps41
    go_wp2_with fail
    go_ret
    exact ⟨ret_eq (by unfold num Lib.itoa; rw [if_neg (by decide)]; rw [show (0 : Int).toNat = 0 from rfl, digits_small (by decide)]; rfl), bl⟩
  · by_cases hneg : n < 0
    · obtain ⟨m, hm⟩ : ∃ m : Nat, n = -(m : Int) := ⟨n.natAbs, by omega⟩
      subst hm
      have hm0 : 0 < m := by omega
      have hneg' : decide (-(m : Int) < 0) = true := decide_eq_true hneg
      have hz' : (-(m : Int) == 0) = false := by simp; omega
      have hnum : num (-(m : Int)) = 45 :: Lib.decDigits m := by unfold num Lib.itoa; rw [if_pos hneg]; simp
      rw [hnum]
      clear hnum hz
      go_enter Tryd.func41, Tryd.ntmps41
      go_wp2_with fail
      go_loopw [0, 3] (fun x o wr => ∃ (k : Nat) (ds : List UInt8), k ≤ m ∧ x = .int .i64 (-(k : Int)) ∧ o = .string (bs ds) ∧ Hid (restOf m k ds) ∧ ∃ c : BW w, wr = c.val) (fun x _ _ => (-(intOf x)).toNat)
      case atStart => exact ⟨m, [], Nat.le_refl _, rfl, rfl, Lib.hid ⟨by rw [if_neg (by omega), List.append_nil], by simp⟩, ⟨w, Below.refl _ _⟩, rfl⟩
      case round =>
        obtain ⟨k, ds, hk, rfl, rfl, hds, cw, rfl⟩ := hrel
        by_cases hk0 : k = 0
        · subst hk0
          have hadd := add_bs (P := Tryd.prog) [45] ds (by have := hds.out.2.1; simp; omega)
          rw [show bs [45] = ⟨#[45]⟩ from rfl] at hadd
          go_wp2_with fail
          go_ret
          exact ⟨ret_eq (by rw [hds.out.1]; rfl), cw.out⟩
        · have hkz : (-(k : Int) == 0) = false := by simp; omega
          have hk1 : (1 : Int) ≤ k := by omega
          obtain ⟨dg, hdg⟩ : ∃ dg, dg = UInt8.ofNat (48 + k % 10) := ⟨_, rfl⟩
          have hcv := conv_byte cw.val dg
          rw [show ((dg.toNat : Nat) : Int) = 48 + (k : Int) % 10 by rw [hdg]; exact byte_digit k] at hcv
          have hadd := add_bs (P := Tryd.prog) [dg] ds (by have := hds.out.2.1; simp; omega)
          have hst := Lib.hid (restOf_step hds.out hk0)
          rw [← hdg] at hst
          clear hdg
          by_cases hr : (k : Int) % 10 = 0
          · rw [hr] at hcv
            simp only [Int.add_zero] at hcv
            go_wp2_with fail
            go_roundw
            case rel => exact ⟨k / 10, dg :: ds, by omega, by go_num, rfl, hst, ⟨_, bl_alloc cw.out _⟩, rfl⟩
            case measure => simp [intOf]; omega
          · have hr' : decide (0 < (k : Int) % 10) = true := decide_eq_true (by omega)
            clear hr
            go_wp2_with fail
            go_roundw
            case rel => exact ⟨k / 10, dg :: ds, by omega, by go_num, rfl, hst, ⟨_, bl_alloc cw.out _⟩, rfl⟩
            case measure => simp [intOf]; omega
    · obtain ⟨m, rfl⟩ := Int.eq_ofNat_of_zero_le (Int.not_lt.1 hneg)
      have hm0 : 0 < m := by omega
      have hneg' : decide ((m : Int) < 0) = false := decide_eq_false hneg
      have hz' : ((m : Int) == 0) = false := by simp; omega
      have hnum : num m = Lib.decDigits m := by unfold num Lib.itoa; rw [if_neg hneg]; rfl
      rw [hnum]
      clear hnum hz
      go_enter Tryd.func41, Tryd.ntmps41
      go_wp2_with fail
      go_loopw [0, 3] (fun x o wr => ∃ (k : Nat) (ds : List UInt8), k ≤ m ∧ x = .int .i64 k ∧ o = .string (bs ds) ∧ Hid (restOf m k ds) ∧ ∃ c : BW w, wr = c.val) (fun x _ _ => (intOf x).toNat)
      case atStart => exact ⟨m, [], Nat.le_refl _, rfl, rfl, Lib.hid ⟨by rw [if_neg (by omega), List.append_nil], by simp⟩, ⟨w, Below.refl _ _⟩, rfl⟩
      case round =>
        obtain ⟨k, ds, hk, rfl, rfl, hds, cw, rfl⟩ := hrel
        by_cases hk0 : k = 0
        · subst hk0
          go_wp2_with fail
          go_ret
          exact ⟨ret_eq (by rw [hds.out.1]; rfl), cw.out⟩
        · have hkz : ((k : Int) == 0) = false := by simp; omega
          have hk1 : (1 : Int) ≤ k := by omega
          have hkm : (0 : Int) ≤ (k : Int) % 10 := by omega
          obtain ⟨dg, hdg⟩ : ∃ dg, dg = UInt8.ofNat (48 + k % 10) := ⟨_, rfl⟩
          have hcv := conv_byte cw.val dg
          rw [show ((dg.toNat : Nat) : Int) = 48 + (k : Int) % 10 by rw [hdg]; exact byte_digit k] at hcv
          have hadd := add_bs (P := Tryd.prog) [dg] ds (by have := hds.out.2.1; simp; omega)
          have hst := Lib.hid (restOf_step hds.out hk0)
          rw [← hdg] at hst
          clear hdg
          go_wp2_with fail
          go_roundw
          case rel => exact ⟨k / 10, dg :: ds, by omega, by go_num, rfl, hst, ⟨_, bl_alloc cw.out _⟩, rfl⟩
          case measure => simp [intOf]; omega
end Go.Proofs.YtmkgiakngjpfpaaDoor

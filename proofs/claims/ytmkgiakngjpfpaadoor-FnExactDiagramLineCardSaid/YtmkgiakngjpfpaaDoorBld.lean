/- The reference's cubes, words and constants. No conditions. -/
import Derived.Test.YtmkgiakngjpfpaaDoorTab
import Derived.Test.YtmkgiakngjpfpaaDoorKp
import Derived.Test.YtmkgiakngjpfpaaDoorBldM
set_option linter.unusedVariables false
set_option linter.unusedSimpArgs false
set_option maxRecDepth 100000
namespace Go.Proofs.YtmkgiakngjpfpaaDoor
open Go.RowKit

set_option maxHeartbeats 1600000 in
theorem s_l19Word (n F m v : Nat) (hn : n ≤ 5) (hF : F < 2 ^ 2 ^ n) (hm : m < 2 ^ n) (hv : v < 2 ^ n) (hi : Inside v m) (w : World) : Ret Tryd.prog 115 #[.agg #[.int .i64 n, .int .i64 F], .int .i64 m, .int .i64 v] w (.int .i64 (cubeW n F m v)) := by
  unfold Ret
  have hu := Tryd.underlying30
  have hF' := word_small hn hF
  obtain ⟨s, hs⟩ : ∃ s : Nat, s = 2 ^ n := ⟨_, rfl⟩
  have hs16 : s ≤ 32 := by rw [hs]; exact pow_small hn
  have hsh : wrap64 (2 ^ n) = (s : Int) := by rw [hs]; exact shl_one' _ (by omega)
  rw [← hs] at hm hv
  obtain ⟨hc0, hc1⟩ := box2 w (.int .i64 n) (.int .i64 F) 30
  have HS := Lib.hid hs; clear hs
  have HI := Lib.hid (And.intro hi hF); clear hi hF
  go_enter Tryd.func115, Tryd.ntmps115
  go_wp2_with fail
  generalize hw1 : w.alloc (Obj.cells #[Value.int IntKind.i64 ↑n, Value.int IntKind.i64 ↑F] 30) = w1 at *
  have hd0 := hc0 ⟨w1, Below.refl _ _⟩
  have hd1 := hc1 ⟨w1, Below.refl _ _⟩
  have hbl : Below w.heap.size w w1 := by rw [← hw1]; exact bl
  dsimp only at hd0 hd1
  clear hw1 hc0 hc1
  go_loop [7, 8] (fun q i => ∃ k : Nat, k ≤ s ∧ i = .int .i64 k ∧ q = .int .i64 (mkUpto (fun x => F.testBit (anot x m ||| v)) k)) (fun _ i => s - (intOf i).toNat)
  case atStart => exact ⟨0, Nat.zero_le _, rfl, rfl⟩
  case round =>
    obtain ⟨k, hk, rfl, rfl⟩ := hrel
    by_cases hlt : k < s
    · have hand := i64_and k m (by omega) (by omega)
      have hsum := cube_sum (x := k) (m := m) (v := v) (by omega) (by omega) (by omega) HI.out.1
      have hle : k &&& m ≤ k := Nat.and_le_left
      obtain ⟨q, hq⟩ : ∃ q, q = mkUpto (fun x => F.testBit (anot x m ||| v)) k := ⟨_, rfl⟩
      have hql : q < 2 ^ 32 := by rw [hq]; exact Nat.lt_of_lt_of_le (mkUpto_lt _ k) (two_pow_le (by omega))
      have hstep : mkUpto (fun x => F.testBit (anot x m ||| v)) (k + 1) = q ||| bitAt F (anot k m ||| v) * 2 ^ k := by
        rw [mkUpto, ← hq]
        unfold bitAt
        cases F.testBit (anot k m ||| v) <;> simp
      obtain ⟨y, hy⟩ : ∃ y, y = anot k m ||| v := ⟨_, rfl⟩
      rw [← hq]
      rw [← hy] at hsum hstep
      have hy2 : y < 64 := by rw [hy]; exact Nat.or_lt_two_pow (n := 6) (anot_lt (k := 6) (by omega)) (by omega)
      have hat := at_int' (W := F) (x := y) (by omega)
      obtain ⟨b, hb⟩ : ∃ b, b = bitAt F y := ⟨_, rfl⟩
      have hb1 : b ≤ 1 := by rw [hb]; exact bitAt_le _ _
      rw [← hb] at hat hstep
      have hz : b * 2 ^ k < 2 ^ 32 := by
        have h1 : b * 2 ^ k ≤ 1 * 2 ^ k := Nat.mul_le_mul_right _ hb1
        have h2 : 2 ^ k < 2 ^ 32 := two_pow_lt (by omega)
        omega
      have hor := i64_or q (b * 2 ^ k) (by omega) (by omega)
      obtain ⟨a, ha⟩ : ∃ a, a = k &&& m := ⟨_, rfl⟩
      rw [← ha] at hand hsum hle
      have HH := Lib.hid (And.intro hq (And.intro hstep (And.intro hy hb))); clear hq hstep hy hb
      have HA := Lib.hid ha; clear ha
      have hwb : wrap64 ((b : Int) * 2 ^ k) = ((b * 2 ^ k : Nat) : Int) := by
        rw [show ((2 : Int) ^ k) = ((2 ^ k : Nat) : Int) by simp, ← Int.natCast_mul]
        exact wrap64_nat _ (by omega)
      have HW := Lib.hid (And.intro hwb hor); clear hwb hor hz
      go_wp2_with fail
      go_round
      case rel => exact ⟨k + 1, by omega, by go_num, by rw [HW.out.1, HW.out.2, HH.out.2.1]⟩
      case measure => simp [intOf]; omega
    · obtain rfl : k = s := by omega
      go_wp2_with fail
      go_ret
      refine ⟨ret_eq ?_, hbl⟩
      rw [HS.out]
      rfl
set_option maxHeartbeats 1600000 in
theorem s_l3Cube (n F m v : Nat) (hn : n ≤ 5) (hF : F < 2 ^ 2 ^ n) (hm : m < 2 ^ n) (hv : v < 2 ^ n) (hi : Inside v m) (w : World) : Ret Tryd.prog 114 #[.agg #[.int .i64 n, .int .i64 F], .int .i64 m, .int .i64 v] w (.int .i64 (cubeOut n F m v)) := by
  unfold Ret
  have hu := Tryd.underlying30
  have hF' := word_small hn hF
  obtain ⟨s, hs⟩ : ∃ s : Nat, s = 2 ^ n := ⟨_, rfl⟩
  have hs16 : s ≤ 32 := by rw [hs]; exact pow_small hn
  have hsh : wrap64 (2 ^ n) = (s : Int) := by rw [hs]; exact shl_one' _ (by omega)
  rw [← hs] at hm hv
  obtain ⟨hc0, hc1⟩ := box2 w (.int .i64 n) (.int .i64 F) 30
  have HS := Lib.hid hs; clear hs
  have HI := Lib.hid (And.intro hi hF); clear hi hF
  go_enter Tryd.func114, Tryd.ntmps114
  go_wp2_with fail
  generalize hw1 : w.alloc (Obj.cells #[Value.int IntKind.i64 ↑n, Value.int IntKind.i64 ↑F] 30) = w1 at *
  have hd0 := hc0 ⟨w1, Below.refl _ _⟩
  have hd1 := hc1 ⟨w1, Below.refl _ _⟩
  have hbl : Below w.heap.size w w1 := by rw [← hw1]; exact bl
  dsimp only at hd0 hd1
  clear hw1 hc0 hc1
  go_loop [7, 8] (fun q i => ∃ k : Nat, k ≤ s ∧ i = .int .i64 k ∧ ((q = .int .i64 (-1) ∧ Hid (∀ x, x < k → x &&& m ≠ v)) ∨ ∃ y, Hid (y < k ∧ y &&& m = v ∧ ∀ x, x < k → x &&& m = v → bitAt F x = bitAt F y) ∧ q = .int .i64 (bitAt F y))) (fun _ i => s - (intOf i).toNat)
  case atStart => exact ⟨0, Nat.zero_le _, rfl, .inl ⟨rfl, Lib.hid fun x hx => by omega⟩⟩
  case round =>
    obtain ⟨k, hk, rfl, hq⟩ := hrel
    by_cases hlt : k < s
    · have hand := i64_and k m (by omega) (by omega)
      have hat := at_int' (W := F) (x := k) (by omega)
      obtain ⟨a, ha⟩ : ∃ a, a = k &&& m := ⟨_, rfl⟩
      rw [← ha] at hand
      by_cases hav : a = v
      · subst hav
        have hne : (((a : Nat) : Int) != ((a : Nat) : Int)) = false := by simp
        obtain ⟨b, hb⟩ : ∃ b, b = bitAt F k := ⟨_, rfl⟩
        have hb1 : b ≤ 1 := by rw [hb]; exact bitAt_le _ _
        rw [← hb] at hat
        rcases hq with ⟨rfl, hno⟩ | ⟨y, hy, rfl⟩
        · have HA := Lib.hid (And.intro ha hb); clear ha hb
          go_wp2_with fail
          go_round
          case rel => exact ⟨k + 1, by omega, by go_num, .inr ⟨k, Lib.hid ⟨by omega, HA.out.1.symm, fun x hx hxm => by
            by_cases e : x = k
            · rw [e]
            · exact absurd hxm (hno.out x (by omega))⟩, by rw [HA.out.2]⟩⟩
          case measure => simp [intOf]; omega
        · obtain ⟨c, hc⟩ : ∃ c, c = bitAt F y := ⟨_, rfl⟩
          have hc1 : c ≤ 1 := by rw [hc]; exact bitAt_le _ _
          rw [← hc]
          by_cases hcb : c = b
          · subst hcb
            have hne2 : (((c : Nat) : Int) != ((c : Nat) : Int)) = false := by simp
            have HA := Lib.hid (And.intro ha (And.intro hb hc)); clear ha hb hc
            go_wp2_with fail
            go_round
            case rel => exact ⟨k + 1, by omega, by go_num, .inr ⟨y, Lib.hid ⟨by have := hy.out.1; omega, hy.out.2.1, fun x hx hxm => by
              by_cases e : x = k
              · rw [e, ← HA.out.2.1, HA.out.2.2]
              · exact hy.out.2.2 x (by omega) hxm⟩, by rw [← HA.out.2.2]⟩⟩
            case measure => simp [intOf]; omega
          · have hne2 : (((c : Nat) : Int) != ((b : Nat) : Int)) = true := by simp; omega
            have HA := Lib.hid (And.intro ha (And.intro hb (And.intro hc hcb))); clear ha hb hc hcb
            go_wp2_with fail
            go_ret
            refine ⟨ret_eq ?_, hbl⟩
            obtain ⟨ha, hb, hc, hcb⟩ := HA.out
            rw [cube_differ (n := n) (y := y) (z := k) hy.out.2.1 (by have := hy.out.1; rw [← HS.out]; omega) ha.symm (by rw [← HS.out]; exact hlt) (by rw [← hb, ← hc]; exact hcb)]
            rfl
      · have hne : (((a : Nat) : Int) != ((v : Nat) : Int)) = true := by simp; omega
        have HA := Lib.hid (And.intro ha hav); clear ha hav
        go_wp2_with fail
        go_round
        case rel =>
          refine ⟨k + 1, by omega, by go_num, ?_⟩
          have hkm : k &&& m ≠ v := by rw [← HA.out.1]; exact HA.out.2
          rcases hq with ⟨rfl, hno⟩ | ⟨y, hy, rfl⟩
          · exact .inl ⟨rfl, Lib.hid fun x hx => by
              by_cases e : x = k
              · rw [e]; exact hkm
              · exact hno.out x (by omega)⟩
          · exact .inr ⟨y, Lib.hid ⟨by have := hy.out.1; omega, hy.out.2.1, fun x hx hxm => by
              by_cases e : x = k
              · rw [e] at hxm; exact absurd hxm hkm
              · exact hy.out.2.2 x (by omega) hxm⟩, rfl⟩
        case measure => simp [intOf]; omega
    · obtain rfl : k = s := by omega
      rcases hq with ⟨rfl, hno⟩ | ⟨y, hy, rfl⟩
      · have hvv : v &&& m = v := by
          apply Nat.eq_of_testBit_eq
          intro j
          rw [Nat.testBit_and]
          have := HI.out.1 j
          cases hvj : v.testBit j <;> simp_all
        exact absurd hvv (hno.out v hv)
      · go_wp2_with fail
        go_ret
        refine ⟨ret_eq ?_, hbl⟩
        rw [cube_const (n := n) (y := y) (by rw [← HS.out]; exact hv) HI.out.1 hy.out.2.1 (by rw [← HS.out]; exact hy.out.1) (fun x hx hxm => hy.out.2.2 x (by rw [HS.out]; exact hx) hxm)]
        rfl
end Go.Proofs.YtmkgiakngjpfpaaDoor

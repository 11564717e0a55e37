/- What functions of Go's library compute that the program calls: bits.Mul, slices.Clone, slices.Repeat. No conditions. -/
import Derived.Test.YtmkgiakngjpfpaaSlice
import Derived.Deep.RegionHeld3
set_option linter.unusedVariables false
set_option linter.unusedSimpArgs false
namespace Go.Proofs.Ytmkgiakngjpfpaa
open Go.RowKit

set_option maxHeartbeats 800000 in
theorem slices_Clone (A : Option Addr) (c : Nat) (xs : List Int) (w : World) (hr : RdC w A (ints xs)) (hl : xs.length ≤ 1000000) (hA : A = none → xs = []) :
    RetI 34 #[.slice A xs.length c] w xs := by
  unfold RetI
  have hu := Try.underlying25
  cases A with
  | none =>
    obtain rfl := hA rfl
    have heq := fun wx => Lib.run_eql_slice_nil (P := Try.prog) wx 25 3 none 0 c 0 0 hu
    go_enter Try.func34, Try.ntmps34
    go_wp2_with fail
    go_ret
    exact ⟨_, rfl, World.ownsRow_nil _ _ _ _, bl⟩
  | some ad =>
    have heq := fun wx => Lib.run_eql_slice_nil (P := Try.prog) wx 25 3 (some ad) xs.length c 0 0 hu
    go_enter Try.func34, Try.ntmps34
    go_wp2_with ((at_builtin; refine ap_own (w0 := w) w.heap.size rfl (.tmp 5) (.tmp 6) 25 3 (.int .i64 0) 1 8 rfl hu info_int rfl (by decide) (by decide) _ 0 [] rfl (World.ownsRow_lit w #[] 0 (Nat.le_refl _) (by decide) rfl) ad xs.length c (ints xs) rfl (by rw [ints_length, Nat.mul_one]) (hr.later ((Below.refl _ _).alloc (Nat.le_refl _) _)) (ints_one xs) (by omega) (by simp) ((Below.refl _ _).alloc (Nat.le_refl _) _) ?_; intro v' w' ho hb hg hat))
    rw [Nat.zero_add, List.nil_append] at ho
    go_wp2
    go_ret
    exact ⟨v', rfl, ho, hb⟩
set_option maxHeartbeats 800000 in
theorem bits_Mul (n : Nat) (h : n < 4294967296) (w : World) : Ret Try.prog 44 #[.int .u64 1, .int .u64 n] w (.tuple #[.int .u64 0, .int .u64 n]) := by
  unfold Ret
  have e1 : bits BinOp.and IntKind.u64 1 4294967295 = 1 := u64_and_nat 1 4294967295 (by decide) (by decide)
  have e0 : bits BinOp.and IntKind.u64 0 4294967295 = 0 := u64_and_nat 0 4294967295 (by decide) (by decide)
  have e2 : bits BinOp.and IntKind.u64 (n : Int) 4294967295 = n := by
    have := u64_and_nat n 4294967295 (by omega) (by decide)
    rw [show (4294967295 : Int) = ((4294967295 : Nat) : Int) from rfl, this, show (4294967295 : Nat) = 2 ^ 32 - 1 from rfl, Nat.and_two_pow_sub_one_eq_mod, Nat.mod_eq_of_lt (by omega)]
  have e3 : (n : Int) / 4294967296 = 0 := by omega
  go_enter Try.func44, Try.ntmps44
  go_wp2
  go_ret2
  exact ⟨rfl, bl⟩

set_option maxHeartbeats 1600000 in
theorem slices_Repeat (ad : Addr) (x : Int) (n : Nat) (hn : n ≤ 1000) (w : World) (hr : RdC w (some ad) (ints [x])) :
    RetRow 31 #[.slice (some ad) 1 1, .int .i64 n] w (List.replicate n x) := by
  unfold RetRow
  have hu := Try.underlying25
  have hmk := fun wx => run_make_row' (P := Try.prog) 25 3 (.int .i64 0) 8 hu info_int rfl .i64 .i64 n (by omega) (by omega) wx
  by_cases h0 : n = 0
  · have hn0 : (n : Int) ≤ 0 := by omega
    have hn00 : n ≤ 0 := by omega
    have hcs0 : ([] : List Value).length = Nat.min 1 n := by show 0 = min 1 n; omega
    have H0 := Lib.hid hcs0; have H1 := Lib.hid h0; clear hcs0 h0
    go_enter Try.func31, Try.ntmps31
    go_wp2_with (first | (go_at_call 44; refine (bits_Mul n (by omega) _).go ?_; intro c) | ((with_reducible refine wpList_copy_splice (o := ⟨some 33, _, _, _, _, _⟩) rfl (.tmp 31) (.tmp 32) 25 25 rfl 3 hu size_int (some ⟨c.val.heap.size, 0, none⟩) (some ad) n n 1 1 rfl rfl c.val.heap.size 0 (ints (List.replicate n 0)) 3 (by rw [← made_cells]; exact heap_alloc_new _ _) [] H0.out (fun h => absurd h (by simp)) (by simp [ints]) (by simp) w.heap.size w (bl_alloc c.out _) c.out.size ?_); intro w4 hg4 hb4))
    refine wp_loop_rounds 1 ?_
    rw [rounds_succ]
    go_wp2_with fail
    go_ret
    have h9 := c.out.size
    have hg5 := hg4.out
    have e := H1.out
    refine ⟨c.val.heap.size, h9, by rw [List.length_replicate]; rfl, ?_, hb4⟩
    unfold Row
    rw [hg5, e]
    rfl
  · have hpos : 0 < n := by omega
    have hn1 : (1 : Int) ≤ n := by omega
    have hmin : (ints [x]).length = Nat.min 1 n := by show 1 = min 1 n; omega
    have hcs : ∀ W, Below w.heap.size w W → ∀ j v, (ints [x])[j]? = some v → W.cell? (ad.add j) = some v := fun W hb j v hj => by
      obtain ⟨ad', e, hc⟩ := hr.later hb (by simp [ints])
      cases e
      exact hc j v hj
    have HC := Lib.hid hcs; clear hcs
    have HM := Lib.hid hmin; clear hmin
    go_enter Try.func31, Try.ntmps31
    go_wp2_with (first | (go_at_call 44; refine (bits_Mul n (by omega) _).go ?_; intro c) | ((with_reducible refine wpList_copy_splice (o := ⟨some 33, _, _, _, _, _⟩) rfl (.tmp 31) (.tmp 32) 25 25 rfl 3 hu size_int (some ⟨c.val.heap.size, 0, none⟩) (some ad) n n 1 1 rfl rfl c.val.heap.size 0 (ints (List.replicate n 0)) 3 (by rw [← made_cells]; exact heap_alloc_new _ _) (ints [x]) HM.out (fun _ => ⟨rfl, ad, rfl, HC.out _ (bl_alloc c.out _)⟩) (by simp [ints]; omega) (ints_one _) w.heap.size w (bl_alloc c.out _) c.out.size ?_); intro w4 hg4 hb4))
    have hc9 := c.out.size
    rw [splice_first n x hpos] at hg4
    obtain ⟨g, hgd⟩ : ∃ g, g = c.val.heap.size := ⟨_, rfl⟩
    rw [← hgd] at hg4 hc9 ⊢
    clear hgd
    go_loopw [8] (fun i wr => ∃ k : Nat, 1 ≤ k ∧ k ≤ n ∧ i = .int .i64 k ∧ Hid (wr.heap[g]? = some (.cells (ints (List.replicate k x ++ List.replicate (n - k) 0)).toArray 3 (0, 0))) ∧ Below w.heap.size w wr) (fun i _ => n - (intOf i).toNat)
    case atStart => exact ⟨1, by omega, by omega, rfl, hg4, hb4⟩
    case round =>
      obtain ⟨k, hk1, hk, rfl, hgk, hbk⟩ := hrel
      by_cases hlt : k < n
      · have hk0 : (1 : Int) ≤ k := by omega
        obtain ⟨m, hm⟩ : ∃ m, m = min k (n - k) := ⟨_, rfl⟩
        have hm1 : m ≤ k := by omega
        have hm2 : k + m ≤ n := by omega
        have hm3 : 1 ≤ m := by omega
        have hmin : (ints (List.replicate (m) x)).length = Nat.min k (n - k) := by rw [ints_length, List.length_replicate, hm] <;> rfl
        have hcell : ∀ j v, (ints (List.replicate (m) x))[j]? = some v → wr.drew.cell? ((⟨g, 0, none⟩ : Addr).add j) = some v := fun j v hj => by
          have hl := (List.getElem?_eq_some_iff.1 hj).1
          rw [ints_length, List.length_replicate] at hl
          have hv : v = .int .i64 x := by simp [ints, List.getElem?_replicate] at hj; exact hj.2.symm
          have : wr.cell? ⟨g, j, none⟩ = some v := by
            have hz := hgk.out
            unfold World.cell?
            rw [hz]
            simp only [Option.isSome_none, Bool.false_eq_true, if_false]
            rw [List.getElem?_toArray, ints_append, List.getElem?_append_left (by rw [ints_length, List.length_replicate]; omega), hv]
            simp [ints, List.getElem?_replicate]; omega
          rw [add0]; exact this
        have hsum : IntKind.i64.wrap ((k : Int) + m) = k + m := wrap_i64 _ (by omega) (by omega)
        have hlm : (ints (List.replicate m x)).length = m := by rw [ints_length, List.length_replicate]
        have HM3 := Lib.hid hm; clear hm
        have hnk : ¬ n = k := by omega
        have HM2 := Lib.hid hmin; have HC2 := Lib.hid hcell; clear hmin hcell
        go_wp2_with fail
        go_region_held3 (fun w' => Below 0 w' w') (exact Below.refl _ _) (first | ((refine step_copy_splice rfl (.tmp 41) (.tmp 44) 25 25 rfl 3 hu size_int (some ⟨g, k, none⟩) (some ⟨g, 0, none⟩) (n - k) (n - k) k n rfl rfl g k (ints (List.replicate k x ++ List.replicate (n - k) 0)) 3 hgk.out (ints (List.replicate (m) x)) HM2.out (fun _ => ⟨rfl, _, rfl, HC2.out⟩) (by simp [ints]; omega) (ints_one _) w.heap.size w hbk.drew hc9 ?_); intro w5 hg5 hb5))
        rw [splice_next n k _ x (by omega)] at hg5
        go_wp2_with fail
        go_roundw
        case rel => exact ⟨k + m, by omega, by omega, by go_num, hg5, hb5⟩
        case measure => simp [intOf]; omega
      · obtain rfl : k = n := by omega
        go_wp2_with fail
        go_ret
        refine ⟨g, hc9, by rw [List.length_replicate]; rfl, ?_, hbk⟩
        have := hgk.out
        rwa [Nat.sub_self, List.replicate_zero, List.append_nil] at this
end Go.Proofs.Ytmkgiakngjpfpaa

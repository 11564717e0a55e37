/- The first contradiction of a table, as the program and as the reference find it. No conditions. -/
import Derived.Test.YtmkgiakngjpfpaaContraM
import Derived.Test.YtmkgiakngjpfpaaThr
set_option linter.unusedVariables false
set_option linter.unusedSimpArgs false
namespace Go.Proofs.Ytmkgiakngjpfpaa
open Go.RowKit

def okS (a b c d : Nat) : Bool := (a &&& b == c &&& d) && (a ^^^ b == c ^^^ d)
theorem okD_eq (W a b c d : Nat) : okD W a b c d = (okS a b c d && !W.testBit c && !W.testBit d) := rfl
theorem natCast_beq (a b : Nat) : ((a : Int) == (b : Int)) = (a == b) := by rw [Bool.eq_iff_iff]; simp only [beq_iff_eq]; omega
theorem i_isContradiction (a b c d : Nat) (ha : a < 4294967296) (hb : b < 4294967296) (hc : c < 4294967296) (hd : d < 4294967296) (w : World) :
    Ret Try.prog 37 #[.int .i64 a, .int .i64 b, .int .i64 c, .int .i64 d] w (.bool (okS a b c d)) := by
  unfold Ret
  have e1 := i64_and a b (by omega) (by omega)
  have e2 := i64_and c d (by omega) (by omega)
  have e3 := i64_xor a b (by omega) (by omega)
  have e4 := i64_xor c d (by omega) (by omega)
  obtain ⟨p, hp⟩ : ∃ p, p = a &&& b := ⟨_, rfl⟩
  obtain ⟨q, hq⟩ : ∃ q, q = c &&& d := ⟨_, rfl⟩
  obtain ⟨r, hr⟩ : ∃ r, r = a ^^^ b := ⟨_, rfl⟩
  obtain ⟨s, hs⟩ : ∃ s, s = c ^^^ d := ⟨_, rfl⟩
  have ho : okS a b c d = ((p == q) && (r == s)) := by rw [hp, hq, hr, hs]; rfl
  rw [← hp] at e1; rw [← hq] at e2; rw [← hr] at e3; rw [← hs] at e4
  have HO := Lib.hid ho; clear ho hp hq hr hs
  by_cases h : p = q
  · subst h
    go_enter Try.func37, Try.ntmps37
    go_wp2
    all_goals (go_ret; exact ⟨ret_eq (by rw [HO.out]; simp [natCast_beq, e1, e2, e3, e4]), bl⟩)
  · have h1 : ((p : Int) == (q : Int)) = false := by simp; omega
    go_enter Try.func37, Try.ntmps37
    go_wp2
    all_goals (go_ret; exact ⟨ret_eq (by rw [HO.out]; simp [h]), bl⟩)
set_option maxHeartbeats 3200000 in
theorem i_Contradiction (n W : Nat) (hn : n ≤ 5) (hW : W < 2 ^ 2 ^ n) (w : World) :
    Calls Try.prog 23 #[.agg #[.int .i64 n, .int .i64 W]] w fun e w' => ∃ v, e = .returned (.tuple #[v, .bool (contra n W).2]) ∧ w'.ownsRow w.heap.size 3 1 v (contra n W).1.length (ints (contra n W).1) ∧ Below w.heap.size w w' := by
  have hu := Try.underlying24
  have hu2 := Try.underlying25
  have hW' := word_small hn hW
  obtain ⟨N, hN⟩ : ∃ N, N = 2 ^ n := ⟨_, rfl⟩
  have hN2 : N ≤ 32 := by rw [hN]; exact pow_small hn
  have HW := Lib.hid hW; have HN := Lib.hid hN; clear hW hN
  have hq : ∀ W', Ret Try.prog 30 #[.agg #[.int .i64 n, .int .i64 W]] W' (.bool true) := fun W' => by have := i_IsTable n W W'; rwa [isTab_nat hn HW.out] at this
  obtain ⟨hc0, hc1⟩ := box2 w (.int .i64 n) (.int .i64 W) 24
  have hblt := fun c : BW (w.alloc (Obj.cells #[Value.int IntKind.i64 n, Value.int IntKind.i64 W] 24)) => box_lt c
  go_enter Try.func23, Try.ntmps23
  go_wp2_with (first | (go_at_call 30; (with_reducible refine Ret.go (hq _) ?_); intro c0) | (go_at_call 35; (with_reducible refine Ret.on (i_size _ _ _ hn HN.out _) ?_); intro c1))
  go_loopw [13] (fun i wr => ∃ a : Nat, a ≤ N ∧ i = .int .i64 a ∧ Hid (cA W N a = none) ∧ ∃ cw : BW (w.alloc (Obj.cells #[Value.int IntKind.i64 n, Value.int IntKind.i64 W] 24)), wr = cw.val) (fun i _ => N - (intOf i).toNat)
  case atStart => exact ⟨0, Nat.zero_le _, rfl, rfl, c1, rfl⟩
  case round =>
    obtain ⟨a, ha, rfl, hA, cw, rfl⟩ := hrel
    by_cases hlt : a < N
    · go_wp2_with fail
      go_loopw [5] (fun i wr => ∃ b : Nat, a ≤ b ∧ b ≤ N ∧ i = .int .i64 b ∧ Hid (cB W N a b = none) ∧ ∃ cw : BW (w.alloc (Obj.cells #[Value.int IntKind.i64 n, Value.int IntKind.i64 W] 24)), wr = cw.val) (fun i _ => N - (intOf i).toNat)
      case atStart => exact ⟨a, Nat.le_refl _, by omega, rfl, cB_low _ _ _ _ (Nat.le_refl _), cw, rfl⟩
      case round =>
        obtain ⟨b, hab, hb, rfl, hB, c2, rfl⟩ := hrel
        by_cases hlb : b < N
        · by_cases hones : W.testBit a = true ∧ W.testBit b = true
          · obtain ⟨h1, h2⟩ := hones
            obtain ⟨e1, e2⟩ := int_bit_yes h1
            obtain ⟨e3, e4⟩ := int_bit_yes h2
            go_wp2_with (first | (go_at_call 35; (with_reducible refine Ret.on (i_size _ _ _ hn HN.out _) ?_); intro c3) | (go_at_call 36; (with_reducible refine Ret.on (i_at _ W _ hW' _) ?_); intro c4))
            go_loopw [35] (fun i wr => ∃ c : Nat, c ≤ N ∧ i = .int .i64 c ∧ Hid (firstN (okC W a b) c = none) ∧ ∃ cw : BW (w.alloc (Obj.cells #[Value.int IntKind.i64 n, Value.int IntKind.i64 W] 24)), wr = cw.val) (fun i _ => N - (intOf i).toNat)
            case atStart => exact ⟨0, Nat.zero_le _, rfl, rfl, _, rfl⟩
            case round =>
              obtain ⟨c, hc, rfl, hC, c6, rfl⟩ := hrel
              by_cases hlc : c < N
              · obtain ⟨p, hp⟩ : ∃ p, p = a ^^^ b := ⟨_, rfl⟩
                obtain ⟨d, hd⟩ : ∃ d, d = p ^^^ c := ⟨_, rfl⟩
                have hp3 : p < 32 := by rw [hp]; exact Nat.xor_lt_two_pow (n := 5) (by omega) (by omega)
                have hd3 : d < N := by
                  have hN9 := HN.out
                  rw [hd, hp, hN9]; exact xor3_lt (by omega) (by omega) (by omega)
                have e5 := i64_xor a b (by omega) (by omega)
                have e6 := i64_xor p c (by omega) (by omega)
                rw [← hp] at e5; rw [← hd] at e6
                have ho : okC W a b c = (decide (c ≤ d) && (okS a b c d && !W.testBit c && !W.testBit d)) := by rw [hd, hp]; rfl
                have HO := Lib.hid ho
                have HIS : ∀ W', Ret Try.prog 37 #[.int .i64 a, .int .i64 b, .int .i64 c, .int .i64 d] W' (.bool (okS a b c d)) := fun W' => i_isContradiction a b c d (by omega) (by omega) (by omega) (by omega) W'
                clear ho hp hd
                by_cases hcd : c ≤ d
                · cases htc : W.testBit c with
                  | true =>
                    obtain ⟨e7, e8⟩ := int_bit_yes htc
                    go_wp2_with (first | (go_at_call 35; (with_reducible refine Ret.on (i_size _ _ _ hn HN.out _) ?_); intro c3) | (go_at_call 36; (with_reducible refine Ret.on (i_at _ W _ hW' _) ?_); intro c4) | (go_at_call 37; (with_reducible refine Ret.on (HIS _) ?_); intro c5))
                    go_roundw
                    case rel => exact ⟨c + 1, by omega, by go_num, firstN_miss hC.out (by rw [HO.out, htc]; simp), _, rfl⟩
                    case measure => simp [intOf]; omega
                  | false =>
                    obtain ⟨e7, e8⟩ := int_bit_no htc
                    cases htd : W.testBit d with
                    | true =>
                      obtain ⟨e9, e10⟩ := int_bit_yes htd
                      go_wp2_with (first | (go_at_call 35; (with_reducible refine Ret.on (i_size _ _ _ hn HN.out _) ?_); intro c3) | (go_at_call 36; (with_reducible refine Ret.on (i_at _ W _ hW' _) ?_); intro c4) | (go_at_call 37; (with_reducible refine Ret.on (HIS _) ?_); intro c5))
                      go_roundw
                      case rel => exact ⟨c + 1, by omega, by go_num, firstN_miss hC.out (by rw [HO.out, htd]; simp), _, rfl⟩
                      case measure => simp [intOf]; omega
                    | false =>
                      obtain ⟨e9, e10⟩ := int_bit_no htd
                      cases hok : okS a b c d with
                      | true =>
                        have hk : okD W a b c d = true := by rw [okD_eq, hok, htc, htd]; rfl
                        have hcon := contra_some (d := d) HN.out hA.out hB.out hC.out hab h1 h2 hcd hk hlt hlb hlc
                        simp only [hok] at HIS
                        have HCON := Lib.hid hcon; clear hcon hk htc htd hok h1 h2
                        go_wp2_with (first | (go_at_call 35; (with_reducible refine Ret.on (i_size _ _ _ hn HN.out _) ?_); intro c3) | (go_at_call 36; (with_reducible refine Ret.on (i_at _ W _ hW' _) ?_); intro c4) | (go_at_call 37; (with_reducible refine Ret.on (HIS _) ?_); intro c5))
                        go_ret2
                        rw [HCON.out]
                        refine ⟨_, rfl, ?_, ?_⟩
                        · exact World.ownsRow_lit _ #[.int .i64 a, .int .i64 b, .int .i64 c, .int .i64 d] 4 (by have := (below_box c5).size; omega) (by decide) rfl
                        · exact bl_alloc (below_box c5) _
                      | false =>
                        simp only [hok] at HIS
                        have H8 := Lib.hid hok; clear hok
                        go_wp2_with (first | (go_at_call 35; (with_reducible refine Ret.on (i_size _ _ _ hn HN.out _) ?_); intro c3) | (go_at_call 36; (with_reducible refine Ret.on (i_at _ W _ hW' _) ?_); intro c4) | (go_at_call 37; (with_reducible refine Ret.on (HIS _) ?_); intro c5))
                        go_roundw
                        case rel => exact ⟨c + 1, by omega, by go_num, firstN_miss hC.out (by rw [HO.out, H8.out]; simp), _, rfl⟩
                        case measure => simp [intOf]; omega
                · have hcd' : d < c := by omega
                  go_wp2_with (first | (go_at_call 35; (with_reducible refine Ret.on (i_size _ _ _ hn HN.out _) ?_); intro c3) | (go_at_call 36; (with_reducible refine Ret.on (i_at _ W _ hW' _) ?_); intro c4) | (go_at_call 37; (with_reducible refine Ret.on (HIS _) ?_); intro c5))
                  go_roundw
                  case rel => exact ⟨c + 1, by omega, by go_num, firstN_miss hC.out (by rw [HO.out]; simp; omega), _, rfl⟩
                  case measure => simp [intOf]; omega
              · obtain rfl : N = c := by omega
                go_wp2_with fail
                go_roundw
                case rel => exact ⟨b + 1, by omega, by omega, by go_num, cB_miss hB.out (.inr hC.out), _, rfl⟩
                case measure => simp [intOf]; omega
          · have hbb : (W.testBit a && W.testBit b) = false := by
              cases h1 : W.testBit a <;> cases h2 : W.testBit b <;> simp_all
            have HBB := Lib.hid hbb
            cases h1 : W.testBit a with
            | false =>
              obtain ⟨e1, e2⟩ := int_bit_no h1
              clear hones hbb h1
              go_wp2_with (first | (go_at_call 35; (with_reducible refine Ret.on (i_size _ _ _ hn HN.out _) ?_); intro c3) | (go_at_call 36; (with_reducible refine Ret.on (i_at _ W _ hW' _) ?_); intro c4) | (go_at_call 37; (with_reducible refine Ret.on (HIS _) ?_); intro c5))
              go_roundw
              case rel => exact ⟨b + 1, by omega, by omega, by go_num, cB_miss hB.out (.inl HBB.out), _, rfl⟩
              case measure => simp [intOf]; omega
            | true =>
              obtain ⟨e1, e2⟩ := int_bit_yes h1
              have h2 : W.testBit b = false := by rw [h1] at hbb; simpa using hbb
              obtain ⟨e3, e4⟩ := int_bit_no h2
              clear hones hbb h1 h2
              go_wp2_with (first | (go_at_call 35; (with_reducible refine Ret.on (i_size _ _ _ hn HN.out _) ?_); intro c3) | (go_at_call 36; (with_reducible refine Ret.on (i_at _ W _ hW' _) ?_); intro c4) | (go_at_call 37; (with_reducible refine Ret.on (HIS _) ?_); intro c5))
              go_roundw
              case rel => exact ⟨b + 1, by omega, by omega, by go_num, cB_miss hB.out (.inl HBB.out), _, rfl⟩
              case measure => simp [intOf]; omega
        · obtain rfl : N = b := by omega
          go_wp2_with (first | (go_at_call 35; (with_reducible refine Ret.on (i_size _ _ _ hn HN.out _) ?_); intro c3) | (go_at_call 36; (with_reducible refine Ret.on (i_at _ W _ hW' _) ?_); intro c4) | (go_at_call 37; (with_reducible refine Ret.on (HIS _) ?_); intro c5))
          go_roundw
          case rel => exact ⟨a + 1, by omega, by go_num, cA_miss hA.out hB.out, _, rfl⟩
          case measure => simp [intOf]; omega
    · obtain rfl : N = a := by omega
      have hcon := contra_none (W := W) HN.out hA.out
      have HCON := Lib.hid hcon; clear hcon
      go_wp2_with fail
      go_ret2
      rw [HCON.out]
      exact ⟨_, rfl, World.ownsRow_nil _ _ _ _, below_box cw⟩
theorem bit0 (x : Nat) (hx : x < 9223372036854775808) : (bits BinOp.and IntKind.i64 (x : Int) 1 == 0) = !x.testBit 0 := by
  rw [show (1 : Int) = ((1 : Nat) : Int) from rfl, i64_and _ _ hx (by decide), Nat.and_one_is_mod, Nat.testBit_zero]
  rcases Nat.mod_two_eq_zero_or_one x with h | h <;> simp [h]
theorem and_bits {W a b : Nat} (hW : W < 9223372036854775808) : (bits BinOp.and IntKind.i64 (bits BinOp.and IntKind.i64 ((W : Int) / 2 ^ a) ((W : Int) / 2 ^ b)) 1 == 0) = !(W.testBit a && W.testBit b) := by
  have h1 : W >>> a ≤ W := by rw [Nat.shiftRight_eq_div_pow]; exact Nat.div_le_self _ _
  have h2 : W >>> b ≤ W := by rw [Nat.shiftRight_eq_div_pow]; exact Nat.div_le_self _ _
  rw [shr_nat', shr_nat', i64_and _ _ (by omega) (by omega), bit0 _ (Nat.lt_of_le_of_lt Nat.and_le_left (by omega)), Nat.testBit_and, Nat.testBit_shiftRight, Nat.testBit_shiftRight]
  simp
theorem or_bits {W a b : Nat} (hW : W < 4611686018427387904) : (bits BinOp.and IntKind.i64 (bits BinOp.or IntKind.i64 ((W : Int) / 2 ^ a) ((W : Int) / 2 ^ b)) 1 == 0) = !(W.testBit a || W.testBit b) := by
  have h1 : W >>> a ≤ W := by rw [Nat.shiftRight_eq_div_pow]; exact Nat.div_le_self _ _
  have h2 : W >>> b ≤ W := by rw [Nat.shiftRight_eq_div_pow]; exact Nat.div_le_self _ _
  rw [shr_nat', shr_nat', i64_or _ _ (by omega) (by omega), bit0 _ (Nat.lt_of_lt_of_le (Nat.or_lt_two_pow (n := 62) (by omega) (by omega)) (by decide)), Nat.testBit_or, Nat.testBit_shiftRight, Nat.testBit_shiftRight]
  simp
theorem okC_none {W a b c N : Nat} (hN : a ^^^ b ^^^ c < N) (h : ∀ d, c ≤ d → d < N → okD W a b c d = false) : okC W a b c = false := by
  unfold okC
  by_cases hc : c ≤ a ^^^ b ^^^ c
  · rw [h _ hc hN]; simp
  · simp; omega
set_option maxHeartbeats 3200000 in
theorem s_Contradiction (n W : Nat) (hn : n ≤ 5) (hW : W < 2 ^ 2 ^ n) (w : World) :
    Calls Try.prog 20 #[.agg #[.int .i64 n, .int .i64 W]] w fun e w' => ∃ v, e = .returned (.tuple #[v, .bool (contra n W).2]) ∧ w'.ownsRow w.heap.size 3 1 v (contra n W).1.length (ints (contra n W).1) ∧ Below w.heap.size w w' := by
  have hu := Try.underlying24
  have hu2 := Try.underlying25
  have hW' := word_small hn hW
  obtain ⟨N, hN⟩ : ∃ N, N = 2 ^ n := ⟨_, rfl⟩
  have hN2 : N ≤ 32 := by rw [hN]; exact pow_small hn
  have hsh : wrap64 (2 ^ n) = (N : Int) := by rw [hN]; exact shl_one' n (by omega)
  have HW := Lib.hid hW; have HN := Lib.hid hN; clear hW hN
  have hq : ∀ W', Ret Try.prog 24 #[.agg #[.int .i64 n, .int .i64 W]] W' (.bool true) := fun W' => by have := s_IsTable n W W'; rwa [isTab_nat hn HW.out] at this
  obtain ⟨hc0, hc1⟩ := box2 w (.int .i64 n) (.int .i64 W) 24
  have hblt := fun c : BW (w.alloc (Obj.cells #[Value.int IntKind.i64 n, Value.int IntKind.i64 W] 24)) => box_lt c
  go_enter Try.func20, Try.ntmps20
  go_wp2_with (first | (go_at_call 24; (with_reducible refine Ret.go (hq _) ?_); intro c0))
  go_loopw [5] (fun i wr => ∃ a : Nat, a ≤ N ∧ i = .int .i64 a ∧ Hid (cA W N a = none) ∧ ∃ cw : BW (w.alloc (Obj.cells #[Value.int IntKind.i64 n, Value.int IntKind.i64 W] 24)), wr = cw.val) (fun i _ => N - (intOf i).toNat)
  case atStart => exact ⟨0, Nat.zero_le _, rfl, rfl, c0, rfl⟩
  case round =>
    obtain ⟨a, ha, rfl, hA, cw, rfl⟩ := hrel
    by_cases hlt : a < N
    · go_wp2_with fail
      go_loopw [6] (fun i wr => ∃ b : Nat, a ≤ b ∧ b ≤ N ∧ i = .int .i64 b ∧ Hid (cB W N a b = none) ∧ ∃ cw : BW (w.alloc (Obj.cells #[Value.int IntKind.i64 n, Value.int IntKind.i64 W] 24)), wr = cw.val) (fun i _ => N - (intOf i).toNat)
      case atStart => exact ⟨a, Nat.le_refl _, by omega, rfl, cB_low _ _ _ _ (Nat.le_refl _), cw, rfl⟩
      case round =>
        obtain ⟨b, hab, hb, rfl, hB, c2, rfl⟩ := hrel
        by_cases hlb : b < N
        · go_wp2_with fail
          have ht := and_bits (W := W) (a := a) (b := b) (by omega)
          cases hbb : (W.testBit a && W.testBit b) with
          | false =>
            rw [hbb] at ht
            have HBB := Lib.hid hbb; clear hbb
            have ht' : (bits BinOp.and IntKind.i64 (bits BinOp.and IntKind.i64 ((W : Int) / 2 ^ a) ((W : Int) / 2 ^ b)) 1 == 0) = true := ht
            clear ht
            go_quiet (fail)
            go_wp2_with fail
            go_roundw
            case rel =>
              obtain ⟨c8, hc8⟩ := c2.drewN nq
              exact ⟨b + 1, by omega, by omega, by go_num, cB_miss hB.out (.inl HBB.out), c8, by rw [hc8]⟩
            case measure => simp [intOf]; omega
          | true =>
            rw [hbb] at ht
            have ht' : (bits BinOp.and IntKind.i64 (bits BinOp.and IntKind.i64 ((W : Int) / 2 ^ a) ((W : Int) / 2 ^ b)) 1 == 0) = false := ht
            rw [Bool.and_eq_true] at hbb
            have HBB := Lib.hid hbb; clear hbb ht
            go_quiet (fail)
            obtain ⟨c3, hc3⟩ := c2.drewN nq
            rw [← hc3]
            clear hc3 ht'
            go_wp2_with fail
            go_loopw [7] (fun i wr => ∃ c : Nat, c ≤ N ∧ i = .int .i64 c ∧ Hid (firstN (okC W a b) c = none) ∧ ∃ cw : BW (w.alloc (Obj.cells #[Value.int IntKind.i64 n, Value.int IntKind.i64 W] 24)), wr = cw.val) (fun i _ => N - (intOf i).toNat)
            case atStart => exact ⟨0, Nat.zero_le _, rfl, rfl, _, rfl⟩
            case round =>
              obtain ⟨c, hc, rfl, hC, c6, rfl⟩ := hrel
              by_cases hlc : c < N
              · go_wp2_with fail
                go_loopw [8] (fun i wr => ∃ d : Nat, c ≤ d ∧ d ≤ N ∧ i = .int .i64 d ∧ Hid (∀ d', c ≤ d' → d' < d → okD W a b c d' = false) ∧ ∃ cw : BW (w.alloc (Obj.cells #[Value.int IntKind.i64 n, Value.int IntKind.i64 W] 24)), wr = cw.val) (fun i _ => N - (intOf i).toNat)
                case atStart => exact ⟨c, Nat.le_refl _, by omega, rfl, (fun d' h1 h2 => absurd h1 (by omega)), _, rfl⟩
                case round =>
                  obtain ⟨d, hcd, hd, rfl, hD, c7, rfl⟩ := hrel
                  by_cases hld : d < N
                  · have e1 := i64_and a b (by omega) (by omega)
                    have e2 := i64_and c d (by omega) (by omega)
                    have e3 := i64_xor a b (by omega) (by omega)
                    have e4 := i64_xor c d (by omega) (by omega)
                    obtain ⟨p, hp⟩ : ∃ p, p = a &&& b := ⟨_, rfl⟩
                    obtain ⟨q, hq⟩ : ∃ q, q = c &&& d := ⟨_, rfl⟩
                    obtain ⟨r, hr⟩ : ∃ r, r = a ^^^ b := ⟨_, rfl⟩
                    obtain ⟨s, hs⟩ : ∃ s, s = c ^^^ d := ⟨_, rfl⟩
                    have ho : okS a b c d = ((p == q) && (r == s)) := by rw [hp, hq, hr, hs]; rfl
                    rw [← hp] at e1; rw [← hq] at e2; rw [← hr] at e3; rw [← hs] at e4
                    have ht := or_bits (W := W) (a := c) (b := d) (by omega)
                    clear hp hq hr hs
                    cases hpq : (p == q) with
                    | false =>
                      have h1 : ((p : Int) == (q : Int)) = false := by rw [natCast_beq, hpq]
                      rw [hpq, Bool.false_and] at ho
                      have HOK := Lib.hid ho; clear ho hpq ht
                      go_wp2_with fail
                      go_quiet (fail)
                      go_wp2_with fail
                      go_roundw
                      case rel =>
                        obtain ⟨c8, hc8⟩ := c7.drewN nq
                        exact ⟨d + 1, by omega, by omega, by go_num, (fun d' h1 h2 => by
                          rcases Nat.lt_or_ge d' d with h3 | h3
                          · exact hD.out d' h1 h3
                          · obtain rfl : d' = d := by omega
                            rw [okD_eq, HOK.out]; rfl), c8, by rw [hc8]⟩
                      case measure => simp [intOf]; omega
                    | true =>
                      have h1 : ((p : Int) == (q : Int)) = true := by rw [natCast_beq, hpq]
                      rw [hpq, Bool.true_and] at ho
                      cases hrs : (r == s) with
                      | false =>
                        have h2 : ((r : Int) == (s : Int)) = false := by rw [natCast_beq, hrs]
                        rw [hrs] at ho
                        have HOK := Lib.hid ho; clear ho hpq hrs ht
                        go_wp2_with fail
                        go_quiet (fail)
                        go_wp2_with fail
                        go_roundw
                        case rel =>
                          obtain ⟨c8, hc8⟩ := c7.drewN nq
                          exact ⟨d + 1, by omega, by omega, by go_num, (fun d' h1 h2 => by
                            rcases Nat.lt_or_ge d' d with h3 | h3
                            · exact hD.out d' h1 h3
                            · obtain rfl : d' = d := by omega
                              rw [okD_eq, HOK.out]; rfl), c8, by rw [hc8]⟩
                        case measure => simp [intOf]; omega
                      | true =>
                        have h2 : ((r : Int) == (s : Int)) = true := by rw [natCast_beq, hrs]
                        rw [hrs] at ho
                        cases hz : (W.testBit c || W.testBit d) with
                        | true =>
                          have h3 : (bits BinOp.and IntKind.i64 (bits BinOp.or IntKind.i64 ((W : Int) / 2 ^ c) ((W : Int) / 2 ^ d)) 1 == 0) = false := by rw [ht, hz]; rfl
                          have HOK := Lib.hid ho; have HZ := Lib.hid hz; clear ho hpq hrs ht hz
                          go_wp2_with fail
                          go_quiet (fail)
                          go_wp2_with fail
                          go_roundw
                          case rel =>
                            obtain ⟨c8, hc8⟩ := c7.drewN nq
                            exact ⟨d + 1, by omega, by omega, by go_num, (fun d' h1 h2 => by
                              rcases Nat.lt_or_ge d' d with h3 | h3
                              · exact hD.out d' h1 h3
                              · obtain rfl : d' = d := by omega
                                rw [okD_eq, HOK.out]
                                rw [Bool.true_and, ← Bool.not_or, HZ.out]; rfl), c8, by rw [hc8]⟩
                          case measure => simp [intOf]; omega
                        | false =>
                          have h3 : (bits BinOp.and IntKind.i64 (bits BinOp.or IntKind.i64 ((W : Int) / 2 ^ c) ((W : Int) / 2 ^ d)) 1 == 0) = true := by rw [ht, hz]; rfl
                          have hk : okD W a b c d = true := by
                            rw [okD_eq, ho]
                            rw [Bool.or_eq_false_iff] at hz
                            rw [hz.1, hz.2]; rfl
                          have hcon := contra_some (d := d) HN.out hA.out hB.out hC.out hab HBB.out.1 HBB.out.2 hcd hk hlt hlb hlc
                          have HCON := Lib.hid hcon; clear hcon hk ho hpq hrs ht hz
                          go_wp2_with fail
                          go_quiet (fail)
                          obtain ⟨c8, hc8⟩ := c7.drewN nq
                          rw [← hc8]
                          clear hc8
                          go_wp2_with fail
                          go_ret2
                          rw [HCON.out]
                          refine ⟨_, rfl, ?_, bl_alloc (below_box c8) _⟩
                          exact World.ownsRow_lit _ #[.int .i64 a, .int .i64 b, .int .i64 c, .int .i64 d] 4 (by have := (below_box c8).size; omega) (by decide) rfl
                  · obtain rfl : N = d := by omega
                    go_wp2_with fail
                    go_roundw
                    case rel => exact ⟨c + 1, by omega, by go_num, firstN_miss hC.out (okC_none (by have h9 := HN.out; rw [h9]; exact xor3_lt (by omega) (by omega) (by omega)) hD.out), _, rfl⟩
                    case measure => simp [intOf]; omega
              · obtain rfl : N = c := by omega
                go_wp2_with fail
                go_roundw
                case rel => exact ⟨b + 1, by omega, by omega, by go_num, cB_miss hB.out (.inr hC.out), _, rfl⟩
                case measure => simp [intOf]; omega
        · obtain rfl : N = b := by omega
          go_wp2_with fail
          go_roundw
          case rel => exact ⟨a + 1, by omega, by go_num, cA_miss hA.out hB.out, _, rfl⟩
          case measure => simp [intOf]; omega
    · obtain rfl : N = a := by omega
      have hcon := contra_none (W := W) HN.out hA.out
      have HCON := Lib.hid hcon; clear hcon
      go_wp2_with fail
      go_ret2
      rw [HCON.out]
      exact ⟨_, rfl, World.ownsRow_lit _ #[] 0 (by have := (below_box cw).size; omega) (by decide) rfl, bl_alloc (below_box cw) _⟩
set_option maxHeartbeats 1600000 in
theorem s_Contradiction_no (b x : Int) (ht : isTab b x = false) (w : World) :
    Calls Try.prog 20 #[.agg #[.int .i64 b, .int .i64 x]] w fun e w' => ∃ v, e = .returned (.tuple #[v, .bool false]) ∧ w'.ownsRow w.heap.size 3 1 v 0 [] ∧ Below w.heap.size w w' := by
  have hu := Try.underlying24
  have hu2 := Try.underlying25
  have hq : ∀ W', Ret Try.prog 24 #[.agg #[.int .i64 b, .int .i64 x]] W' (.bool false) := fun W' => by have := s_IsTable b x W'; rwa [ht] at this
  clear ht
  go_enter Try.func20, Try.ntmps20
  go_wp2_with (go_at_call 24; (with_reducible refine Ret.go (hq _) ?_); intro c0)
  go_ret2
  exact ⟨_, rfl, World.ownsRow_lit _ #[] 0 (by have := (below_box c0).size; omega) (by decide) rfl, bl_alloc (below_box c0) _⟩
end Go.Proofs.Ytmkgiakngjpfpaa

/- Lines of parts, lists as texts: the program's. No conditions. -/
import Derived.Test.YtmkgiakngjpfpaaDoorTxt
import Derived.Test.YtmkgiakngjpfpaaDoorKp
import Derived.Deep.RegionHeld3
set_option linter.unusedVariables false
set_option linter.unusedSimpArgs false
set_option maxRecDepth 100000
namespace Go.Proofs.YtmkgiakngjpfpaaDoor
open Go.RowKit

theorem info_str : (Tryd.prog.info? 9).map (fun i => (i.zero, i.size, i.bytes)) = some (some (.string ⟨#[]⟩), 1, 16) := by kernel_rfl
/-- The first strings of a row, the rest empty. -/
def rowTo (xs : List (List UInt8)) (k n : Nat) : List Value := strs (xs.take k) ++ List.replicate (n - k) (.string ⟨#[]⟩)
theorem rowTo_zero (xs : List (List UInt8)) (n : Nat) : (rowTo xs 0 n).toArray = madeCells #[.string ⟨#[]⟩] n := by
  apply Array.toList_inj.1
  rw [toList_madeCells_one]
  simp [rowTo, strs]
theorem rowTo_all (xs : List (List UInt8)) : rowTo xs xs.length xs.length = strs xs := by simp [rowTo]
theorem rowTo_set {xs : List (List UInt8)} {k n : Nat} {x : List UInt8} (hx : xs[k]? = some x) (hn : xs.length = n) : (rowTo xs k n).toArray.setIfInBounds k (.string (bs x)) = (rowTo xs (k + 1) n).toArray := by
  have hk : k < xs.length := (List.getElem?_eq_some_iff.1 hx).1
  obtain ⟨m, hm⟩ : ∃ m, n - k = m + 1 := ⟨n - k - 1, by omega⟩
  have hm2 : n - (k + 1) = m := by omega
  have hl : (strs (xs.take k)).length = k := by rw [strs_length, List.length_take]; omega
  apply Array.toList_inj.1
  rw [Array.toList_setIfInBounds]
  unfold rowTo
  rw [hm, hm2, List.replicate_succ, List.set_append_right _ _ (by omega), hl, Nat.sub_self, List.set_cons_zero, List.take_add_one, hx, strs_append]
  simp [strs]
/-- A row of strings that has been made. -/
theorem rowTo_rd {w : World} {g : Nat} {xs : List (List UInt8)} {n : Nat} (hn : xs.length = n) (h : Blk w g (rowTo xs n n).toArray 9) : RdC w (some ⟨g, 0, none⟩) (strs xs) := by
  subst hn
  rw [rowTo_all] at h
  exact fun _ => ⟨_, rfl, fun i u hi => by rw [add0]; exact h.cell (by simpa using hi)⟩
set_option maxHeartbeats 1600000 in
theorem i_listText (A : Option Addr) (c : Nat) (xs : List Int) (hx : I64 xs) (w : World) (ht : Pow w) (hr : RdC w A (ints xs)) (hl : xs.length ≤ 1000000) : Ret Tryd.prog 45 #[.slice A xs.length c] w (.string (bs (listTxt xs))) := by
  unfold Ret
  by_cases hz : xs = []
  · subst hz
    go_enter Tryd.func45, Tryd.ntmps45
    go_wp2_with fail
    go_ret
    exact ⟨rfl, Below.refl _ _⟩
  · have hls : listTxt xs = jn 44 (xs.map num) := by unfold listTxt; rw [if_neg hz]
    have hln := lens_num hx
    obtain ⟨n, hn⟩ : ∃ n, n = xs.length := ⟨_, rfl⟩
    have hn0 : 0 < n := by rw [hn]; exact List.length_pos_iff.2 hz
    rw [← hn] at hl hln ⊢
    have hnz : ((n : Int) == 0) = false := by simp; omega
    have hu := Tryd.underlying50
    have hmk := fun wx => run_make_row' (P := Tryd.prog) 50 9 (.string ⟨#[]⟩) 16 hu info_str rfl .i64 .i64 n (by omega) (by omega) wx
    have hzero := rowTo_zero (xs.map num) n
    have hB0 := Blk.new w (rowTo (xs.map num) 0 n).toArray 9
    rw [hzero] at hB0
    have HX := Lib.hid hx; have HN := Lib.hid hn; have HLS := Lib.hid hls; have HZ := Lib.hid hzero; clear hx hn hls hz hzero
    go_enter Tryd.func45, Tryd.ntmps45
    go_wp2_with fail
    go_loopw [14] (fun i wr => ∃ k : Nat, k ≤ n ∧ i = .int .i64 k ∧ Hid (Blk wr w.heap.size (rowTo (xs.map num) k n).toArray 9) ∧ Below w.heap.size w wr) (fun i _ => n - (intOf i).toNat)
    case atStart => exact ⟨0, Nat.zero_le _, rfl, Lib.hid (by rw [HZ.out]; exact hB0), bl⟩
    case round =>
      obtain ⟨k, hk, rfl, hB, hbl⟩ := hrel
      by_cases hlt : k < n
      · obtain ⟨ad, rfl, hc⟩ := (hr.later hbl).int (i := k) (by rw [← HN.out]; exact hlt)
        have hy := HX.out.at (i := k) (by rw [← HN.out]; exact hlt)
        have hget : (xs.map num)[k]? = some (num (xs.getD k 0)) := by
          have : k < xs.length := by rw [← HN.out]; exact hlt
          simp [this, List.getD_eq_getElem?_getD]
        obtain ⟨y, hyd⟩ : ∃ y, y = xs.getD k 0 := ⟨_, rfl⟩
        rw [← hyd] at hc hy hget
        have hst := Lib.hid (rowTo_set (n := n) hget (by rw [List.length_map]; exact HN.out.symm))
        have hf := i_FormatInt y hy.1 hy.2 wr (ht.later hbl)
        clear hyd hget
        have hfree : ∀ c2 : BW wr, c2.val.frozen? ⟨w.heap.size, k, none⟩ = false := fun c2 => (hB.out.later c2.out).free k
        have hcell : ∀ c2 : BW wr, ∃ u, c2.val.cell? ⟨w.heap.size, k, none⟩ = some u := fun c2 => by
          have hk2 : k < (rowTo (xs.map num) k n).toArray.size := by
            simp only [rowTo, List.size_toArray, List.length_append, strs_length, List.length_take, List.length_map, List.length_replicate]
            have := HN.out
            omega
          exact ⟨_, (hB.out.later c2.out).cell (Array.getElem?_eq_getElem hk2)⟩
        have hlt2 := hB.out.lt
        try rw [addz] at hc
        go_wp2_with (go_at_call 46; (with_reducible refine Ret.go hf ?_); intro c2; have hfr := hfree c2; obtain ⟨uu, huu⟩ := hcell c2; have hlt3 := Nat.lt_of_lt_of_le hlt2 c2.size)
        have hB2 := (hB.out.later c2.out).set k (.string (bs (num y)))
        rw [hst.out] at hB2
        go_roundw
        case rel => exact ⟨k + 1, by omega, by go_num, Lib.hid hB2, bl_set (bl_then hbl c2.out) (Nat.le_refl _)⟩
        case measure => simp [intOf]; omega
      · obtain rfl : k = n := by omega
        have hrd := rowTo_rd (by rw [List.length_map]; exact HN.out.symm) hB.out
        have hj := strings_Join (some ⟨w.heap.size, 0, none⟩) k (xs.map num) 44 ⟨#[44]⟩ rfl wr hrd (by rw [List.length_map, ← HN.out]; exact Nat.le_refl _) (fun ad h => by cases h; rfl) (by rw [List.length_map, ← HN.out]; omega)
        rw [List.length_map, ← HN.out] at hj
        have HJ := Lib.hid hj; clear hj hrd
        go_wp2_with (go_at_call 82; (with_reducible refine Ret.go HJ.out ?_); intro c2)
        go_ret
        exact ⟨ret_eq (by rw [HLS.out]; rfl), bl_then hbl c2.out⟩
/-- put: the parts go to the end of the line. -/
theorem i_put (L base : Nat) (v : Value) (xs ys : List (List UInt8)) (ad : Addr) (c : Nat) (w : World) (hB : Blk w L #[v] 68) (ho : w.ownsRow base 9 1 v xs.length (strs xs)) (hr : RdC w (some ad) (strs ys)) (hy : ys ≠ []) (hLb : L < base) (hbw : base ≤ w.heap.size) (hl : xs.length + ys.length ≤ 1000000) :
    Calls Tryd.prog 44 #[.pointer (some ⟨L, 0, none⟩), .slice (some ad) ys.length c] w fun e w' => e = .returned (.tuple #[]) ∧ ∃ v', Blk w' L #[v'] 68 ∧ w'.ownsRow base 9 1 v' (xs ++ ys).length (strs (xs ++ ys)) ∧ Kp (fun i => i = L ∨ v.ownBlock = some i) w w' := by
  have hu := Tryd.underlying50
  have hu2 := Tryd.underlying68
  have hc := hB.cell (j := 0) rfl
  have hLl := hB.lt
  have hvL : ¬ v.ownBlock = some L := fun e => by have := (own_at ho e).1; omega
  have HH := Lib.hid (And.intro hvL (And.intro ho hr)); clear hvL
  go_enter Tryd.func44, Tryd.ntmps44
  go_wp2_with (at_builtin; refine ap_kp base rfl (.tmp 8) (.tmp 9) 50 9 (.string ⟨#[]⟩) 1 16 rfl hu info_str rfl (by decide) (by decide) v xs.length (strs xs) rfl HH.out.2.1 ad ys.length c (strs ys) rfl (by rw [strs_length, Nat.mul_one]) HH.out.2.2 (strs_one ys) (by omega) hbw ?_; intro v8 w8 ho8 hk8 hat8; obtain ⟨g8, c8, rfl, hg8, hgl8⟩ := own_pos ho8 (by simp [strs, hy]); have hB8 := hB.kp hk8 HH.out.1; have hf8 := hB8.free 0; have hcc8 := hB8.cell (j := 0) rfl; have hll8 := hB8.lt)
  go_end0
  have hB9 : Blk (w8.setCell ⟨L, 0, none⟩ (.slice (some ⟨g8, 0, none⟩) (xs.length + ys.length) c8)) L #[.slice (some ⟨g8, 0, none⟩) (xs.length + ys.length) c8] 68 := by have := hB8.set 0 (.slice (some ⟨g8, 0, none⟩) (xs.length + ys.length) c8); simpa using this
  refine ⟨rfl, _, hB9, ?_, ?_⟩
  · rw [List.length_append, strs_append]
    exact own_set ho8 _ fun e => by simp [Value.ownBlock] at e; omega
  · exact (hk8.mono (Y := fun i => i = L ∨ v.ownBlock = some i) fun i _ e => .inr e).set _ fun _ => .inl rfl
theorem i_text (L base : Nat) (v : Value) (xs : List (List UInt8)) (w : World) (hB : Blk w L #[v] 68) (ho : w.ownsRow base 9 1 v xs.length (strs xs)) (hl : Lib.lens xs + xs.length ≤ 1000000000) :
    Ret Tryd.prog 49 #[.pointer (some ⟨L, 0, none⟩)] w (.string (bs (jn 32 xs))) := by
  unfold Ret
  have hu2 := Tryd.underlying68
  have hc := hB.cell (j := 0) rfl
  obtain ⟨A, c, rfl, hrd⟩ := own_rd ho
  have hcap : xs.length ≤ c ∧ ∀ ad, A = some ad → ad.spot = none := by
    rcases ho.2 with ⟨h1, h2⟩ | ⟨g, cap, cur, h1, _, _, h3, _⟩
    · simp only [Value.slice.injEq] at h1
      obtain ⟨rfl, h4, rfl⟩ := h1
      exact ⟨by omega, fun ad h => by cases h⟩
    · simp only [Value.slice.injEq] at h1
      obtain ⟨rfl, _, rfl⟩ := h1
      exact ⟨by omega, fun ad h => by cases h; rfl⟩
  have hj := strings_Join A c xs 32 ⟨#[32]⟩ rfl w hrd hcap.1 hcap.2 hl
  have HJ := Lib.hid hj; clear hj hcap hrd ho
  go_enter Tryd.func49, Tryd.ntmps49
  go_wp2_with (go_at_call 82; (with_reducible refine Ret.go HJ.out ?_); intro c2)
  go_ret
  exact ⟨rfl, c2.out⟩
end Go.Proofs.YtmkgiakngjpfpaaDoor

/- Texts of numbers and of lists, of both; strings that are joined. No conditions. -/
import Derived.Test.YtmkgiakngjpfpaaDoorStr
import Derived.Test.YtmkgiakngjpfpaaDoorBlk
import Derived.Test.YtmkgiakngjpfpaaDoorShelf
import Derived.Lib.ItoaLen
import Derived.Lib.JoinLaws
set_option linter.unusedVariables false
set_option linter.unusedSimpArgs false
set_option maxRecDepth 100000
namespace Go.Proofs.YtmkgiakngjpfpaaDoor
open Go.RowKit

theorem num_len {n : Int} (h0 : -9223372036854775808 ≤ n) (h1 : n ≤ 9223372036854775807) : (num n).length ≤ 21 := Lib.itoa_length_le n h0 h1
theorem num_ne (n : Int) : num n ≠ [] := by
  unfold num Lib.itoa
  split
  · simp
  · intro h
    have := Lib.decDigits_length n.toNat
    rw [h] at this
    have h2 := Lib.nDigits_pos n.toNat
    simp at this
    omega
/-- A list of 64-bit numbers. -/
def I64 (xs : List Int) : Prop := ∀ x ∈ xs, -9223372036854775808 ≤ x ∧ x ≤ 9223372036854775807
theorem I64.at {xs : List Int} (h : I64 xs) {i : Nat} (hi : i < xs.length) : -9223372036854775808 ≤ xs.getD i 0 ∧ xs.getD i 0 ≤ 9223372036854775807 := by
  rw [List.getD_eq_getElem?_getD, List.getElem?_eq_getElem hi]
  exact h _ (List.getElem_mem hi)
/-- Parts with a sign between them. -/
def jn (sep : UInt8) (xs : List (List UInt8)) : List UInt8 := Lib.join xs [sep]
theorem jn_snoc (sep : UInt8) (xs : List (List UInt8)) (y : List UInt8) : jn sep (xs ++ [y]) = if xs = [] then y else jn sep xs ++ sep :: y := by
  unfold jn
  cases xs with
  | nil => simp [Lib.join_one]
  | cons x r =>
    rw [if_neg (by simp), List.cons_append, Lib.join_cons, Lib.join_cons]
    unfold Lib.joinTail
    rw [List.map_append, List.flatten_append]
    simp
theorem jn_le (sep : UInt8) (xs : List (List UInt8)) : (jn sep xs).length ≤ Lib.lens xs + xs.length := by
  unfold jn
  cases xs with
  | nil => simp [Lib.join_nil]
  | cons x r => rw [Lib.join_length]; simp; omega
theorem jn_nil_iff {sep : UInt8} {xs : List (List UInt8)} (h : ∀ x ∈ xs, x ≠ []) : jn sep xs = [] ↔ xs = [] := by
  cases xs with
  | nil => simp [jn, Lib.join_nil]
  | cons x r =>
    have := h x (by simp)
    simp [jn, Lib.join_cons, this]
/-- A list of numbers as a text. -/
def listTxt (xs : List Int) : List UInt8 := if xs = [] then [110, 111, 110, 101] else jn 44 (xs.map num)
/-- Strings, as cells. -/
def strs (xs : List (List UInt8)) : List Value := xs.map fun x => .string (bs x)
theorem strs_length (xs : List (List UInt8)) : (strs xs).length = xs.length := by simp [strs]
theorem strs_append (a b : List (List UInt8)) : strs (a ++ b) = strs a ++ strs b := by simp [strs]
theorem strs_one (xs : List (List UInt8)) : ∀ u ∈ strs xs, u.oneCell' = true := by
  intro u hu
  obtain ⟨x, _, rfl⟩ := List.mem_map.1 hu
  rfl
theorem tab_later {w W : World} {nm : String} {k : IntKind} {zs : List Int} (h : Lib.TabIs Tryd.prog w nm k zs) (hb : Below w.heap.size w W) : Lib.TabIs Tryd.prog W nm k zs := by
  unfold Lib.TabIs World.var? at h ⊢
  cases hg : Tryd.prog.globalNamed nm with
  | none => rw [hg] at h; simp at h
  | some g =>
    rw [hg] at h
    simp only [Option.bind_some] at h ⊢
    have hl : g < w.heap.size := by
      apply Decidable.byContradiction
      intro hn
      rw [Array.getElem?_eq_none (by omega)] at h
      simp at h
    rw [hb.block g hl]
    exact h
/-- The table of powers of ten is as it was laid. -/
def Pow (w : World) : Prop := Lib.TabIs Tryd.prog w "internal/strconv.uint64pow10" .u64 Lib.pow10Tab
theorem Pow.later {w W : World} (h : Pow w) (hb : Below w.heap.size w W) : Pow W := tab_later h hb
theorem below_grow (w : World) (k : Nat) (os : Array Obj) : Below w.heap.size w (Sort.grow (w.drewN k) os) := by
  refine ⟨rfl, rfl, rfl, by simp [Sort.grow, World.drewN], fun i hi => ?_⟩
  show (w.heap ++ os)[i]? = w.heap[i]?
  rw [Array.getElem?_append_left hi]
theorem i_FormatInt (n : Int) (h0 : -9223372036854775808 ≤ n) (h1 : n ≤ 9223372036854775807) (w : World) (ht : Pow w) : Ret Tryd.prog 46 #[.int .i64 n] w (.string (bs (num n))) := by
  unfold Ret
  have hc := Tryd.strconv_Itoa n h0 h1 w ht
  have HC := Lib.hid hc; clear hc
  go_enter Tryd.func46, Tryd.ntmps46
  go_wp2_with (go_at_call 83; refine HC.out.mono ?_; rintro e w' ⟨rfl, k, os, rfl⟩)
  go_ret
  exact ⟨rfl, below_grow _ _ _⟩
theorem take_num {xs : List Int} {k : Nat} (h : k < xs.length) : (xs.take (k + 1)).map num = (xs.take k).map num ++ [num (xs.getD k 0)] := by
  rw [List.take_succ_eq_append_getElem h, List.map_append]
  simp [List.getD_eq_getElem?_getD, h]
theorem lens_num {xs : List Int} (h : I64 xs) : Lib.lens (xs.map num) ≤ 21 * xs.length := by
  induction xs with
  | nil => simp [Lib.lens]
  | cons x r ih =>
    have h1 := h x (by simp)
    have h2 := num_len h1.1 h1.2
    have h3 := ih fun y hy => h y (by simp [hy])
    simp [Lib.lens] at h3 ⊢
    omega
theorem jn_num_le {xs : List Int} (h : I64 xs) (k : Nat) : (jn 44 ((xs.take k).map num)).length ≤ 22 * xs.length := by
  have h1 : I64 (xs.take k) := fun x hx => h x (List.mem_of_mem_take hx)
  have h2 := lens_num h1
  have h3 := jn_le 44 ((xs.take k).map num)
  have h4 : (xs.take k).length ≤ xs.length := by rw [List.length_take]; omega
  rw [List.length_map] at h3
  omega
set_option maxHeartbeats 1600000 in
theorem s_l34Numbers (A : Option Addr) (c : Nat) (xs : List Int) (hx : I64 xs) (w : World) (hr : RdC w A (ints xs)) (hl : xs.length ≤ 1000000) : Ret Tryd.prog 40 #[.slice A xs.length c] w (.string (bs (listTxt xs))) := by
  unfold Ret
  have HX := Lib.hid hx; clear hx
  go_enter Tryd.func40, Tryd.ntmps40
  go_wp2_with fail
  go_loopw [3, 4] (fun s i wr => ∃ k : Nat, k ≤ xs.length ∧ i = .int .i64 k ∧ s = .string (bs (jn 44 ((xs.take k).map num))) ∧ ∃ c : BW w, wr = c.val) (fun _ i _ => xs.length - (intOf i).toNat)
  case atStart => exact ⟨0, Nat.zero_le _, rfl, rfl, ⟨w, Below.refl _ _⟩, rfl⟩
  case round =>
    obtain ⟨k, hk, rfl, rfl, cw, rfl⟩ := hrel
    have hle := jn_num_le HX.out k
    obtain ⟨t, ht⟩ : ∃ t, t = jn 44 ((xs.take k).map num) := ⟨_, rfl⟩
    rw [← ht] at hle ⊢
    by_cases hlt : k < xs.length
    · obtain ⟨ad, rfl, hc⟩ := (hr.bw cw).int hlt
      have hy := HX.out.at hlt
      have hst := jn_snoc 44 ((xs.take k).map num) (num (xs.getD k 0))
      rw [← take_num hlt, ← ht] at hst
      obtain ⟨y, hyd⟩ : ∃ y, y = xs.getD k 0 := ⟨_, rfl⟩
      rw [← hyd] at hc hy hst
      have hnl := num_len hy.1 hy.2
      have hf := fun W => s_FormatInt y hy.1 hy.2 W
      clear hyd
      by_cases hk0 : k = 0
      · subst hk0
        rw [if_pos (by simp)] at hst
        have ht0 : t = [] := by rw [ht]; simp [jn, Lib.join_nil]
        subst ht0
        have hadd := add_bs (P := Tryd.prog) [] (num y) (by simp; omega)
        rw [List.nil_append] at hadd
        have HS := Lib.hid hst; clear hst ht
        rw [show bs [] = ⟨#[]⟩ from rfl] at hadd ⊢
        try rw [addz] at hc
        go_wp2_with (go_at_call 41; (with_reducible refine Ret.on (hf _) ?_); intro c2)
        go_roundw
        case rel => exact ⟨1, by omega, rfl, by rw [HS.out], c2, rfl⟩
        case measure => simp [intOf]; omega
      · have hkk : (0 : Int) < k := by omega
        rw [if_neg (by intro h; have := congrArg List.length h; rw [List.length_map, List.length_take, List.length_nil] at this; omega)] at hst
        have hadd := add_bs (P := Tryd.prog) t [44] (by simp; omega)
        have hadd2 := add_bs (P := Tryd.prog) (t ++ [44]) (num y) (by simp; omega)
        simp only [List.append_assoc, List.singleton_append] at hadd2
        rw [show bs [44] = ⟨#[44]⟩ from rfl] at hadd
        have HS := Lib.hid hst; clear hst ht
        go_wp2_with (go_at_call 41; (with_reducible refine Ret.on (hf _) ?_); intro c2)
        go_roundw
        case rel => exact ⟨k + 1, by omega, by go_num, by rw [HS.out], c2, rfl⟩
        case measure => simp [intOf]; omega
    · obtain rfl : k = xs.length := by omega
      rw [List.take_length] at ht
      by_cases hz : xs = []
      · subst hz
        have ht0 : t = [] := by rw [ht]; simp [jn, Lib.join_nil]
        subst ht0
        have hl : listTxt [] = [110, 111, 110, 101] := rfl
        have HL := Lib.hid hl; clear ht hl
        rw [show bs [] = ⟨#[]⟩ from rfl]
        go_wp2_with fail
        go_ret
        exact ⟨ret_eq (by rw [HL.out]; rfl), cw.out⟩
      · have hl : listTxt xs = t := by unfold listTxt; rw [if_neg hz, ht]
        have hne : t ≠ [] := by rw [ht]; intro h; exact hz (by simpa using (jn_nil_iff (fun x hx => by obtain ⟨y, _, rfl⟩ := List.mem_map.1 hx; exact num_ne y)).1 h)
        have HL := Lib.hid hl; clear ht hl
        have he := bs_empty hne
        go_wp2_with fail
        go_ret
        exact ⟨ret_eq (by rw [HL.out]; rfl), cw.out⟩
/-- strings.Join. -/
theorem strings_Join (A : Option Addr) (c : Nat) (xs : List (List UInt8)) (sep : UInt8) (s : ByteArray) (hs : s = bs [sep]) (w : World) (hr : RdC w A (strs xs)) (hc : xs.length ≤ c) (hz : ∀ ad, A = some ad → ad.spot = none) (hl : Lib.lens xs + xs.length ≤ 1000000000) :
    Ret Tryd.prog 82 #[.slice A xs.length c, .string s] w (.string (bs (jn sep xs))) := by
  subst hs
  cases xs with
  | nil =>
    refine (Tryd.strings_Join_none A c (bs [sep]) w).mono ?_
    rintro e w' ⟨rfl, rfl⟩
    exact ⟨rfl, Below.refl _ _⟩
  | cons x r =>
    obtain ⟨⟨b, o, sb⟩, rfl, h⟩ := hr (by simp [strs])
    have hsb : sb = none := hz _ rfl
    subst hsb
    have h0 := h 0 _ rfl
    rw [addz] at h0
    have hj := jn_le sep (x :: r)
    have he : ((x :: r).map bs).map (fun y => y.data.toList) = x :: r := by rw [List.map_map]; exact List.map_id _
    have hcl := Tryd.strings_Join b o c ((x :: r).map bs) (bs [sep]) w (fun j y hy => by
      rw [List.getElem?_map] at hy
      obtain ⟨z, hz, rfl⟩ := Option.map_eq_some_iff.1 hy
      have := h j (.string (bs z)) (by unfold strs; rw [List.getElem?_map, hz]; rfl)
      unfold Addr.add at this
      by_cases e : j = 0
      · subst e; simpa using this
      · simpa [e] using this) (World.block_lt_of_cell? w _ h0) (by simp at hl ⊢; omega) (by simpa using hc) (by rw [he]; show (jn sep (x :: r)).length ≤ _; omega)
    rw [he] at hcl
    rw [List.length_map] at hcl
    exact hcl
end Go.Proofs.YtmkgiakngjpfpaaDoor

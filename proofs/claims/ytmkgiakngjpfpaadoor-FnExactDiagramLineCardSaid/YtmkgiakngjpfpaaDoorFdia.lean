/- The text of a diagram, of both. No conditions. -/
import Derived.Test.YtmkgiakngjpfpaaDoorLine
import Derived.Test.YtmkgiakngjpfpaaDoorBuild
set_option linter.unusedVariables false
set_option linter.unusedSimpArgs false
set_option maxRecDepth 100000
namespace Go.Proofs.YtmkgiakngjpfpaaDoor
open Go.RowKit

def ndTxt (a : Nd) : List UInt8 := UInt8.ofNat (97 + a.var) :: (num a.lo ++ 44 :: num a.hi)
def diaTxt (s : List Nd) : List UInt8 := if s = [] then [110, 111, 110, 101] else jn 32 (s.map ndTxt)
def NdOk (a : Nd) : Prop := a.var < 5 ∧ -2 ≤ a.lo ∧ a.lo ≤ 30 ∧ -2 ≤ a.hi ∧ a.hi ≤ 30
theorem ndTxt_len {a : Nd} (h : NdOk a) : (ndTxt a).length ≤ 44 := by
  have h1 := num_len (n := a.lo) (by have := h.2.1; omega) (by have := h.2.2.1; omega)
  have h2 := num_len (n := a.hi) (by have := h.2.2.2.1; omega) (by have := h.2.2.2.2; omega)
  simp [ndTxt]
  omega
theorem lens_nd {s : List Nd} (h : ∀ a ∈ s, NdOk a) : Lib.lens (s.map ndTxt) ≤ 44 * s.length := by
  induction s with
  | nil => simp [Lib.lens]
  | cons x r ih =>
    have h2 := ndTxt_len (h x (by simp))
    have h3 := ih fun y hy => h y (by simp [hy])
    simp [Lib.lens] at h3 ⊢
    omega
theorem jn_nd_le {s : List Nd} (h : ∀ a ∈ s, NdOk a) (k : Nat) : (jn 32 ((s.take k).map ndTxt)).length ≤ 45 * s.length := by
  have h2 := lens_nd (s := s.take k) fun x hx => h x (List.mem_of_mem_take hx)
  have h3 := jn_le 32 ((s.take k).map ndTxt)
  have h4 : (s.take k).length ≤ s.length := by rw [List.length_take]; omega
  rw [List.length_map] at h3
  omega
/-- The three cells of node k. -/
theorem nd_cells {s : List Nd} {k : Nat} {a : Nd} (h : s[k]? = some a) : (ndCells s)[k * 3]? = some (.int .i64 a.var) ∧ (ndCells s)[k * 3 + 1]? = some (.int .i64 a.lo) ∧ (ndCells s)[k * 3 + 2]? = some (.int .i64 a.hi) := by
  induction s generalizing k with
  | nil => simp at h
  | cons b r ih =>
    have e : ndCells (b :: r) = [.int .i64 b.var, .int .i64 b.lo, .int .i64 b.hi] ++ ndCells r := rfl
    cases k with
    | zero =>
      simp at h
      subst h
      rw [e]
      exact ⟨rfl, rfl, rfl⟩
    | succ k =>
      obtain ⟨h1, h2, h3⟩ := ih (k := k) (by simpa using h)
      rw [e]
      refine ⟨?_, ?_, ?_⟩
      · rw [List.getElem?_append_right (by simp; omega), ← h1]; congr 1; simp; omega
      · rw [List.getElem?_append_right (by simp; omega), ← h2]; congr 1; simp; omega
      · rw [List.getElem?_append_right (by simp; omega), ← h3]; congr 1; simp; omega
theorem take_nd {s : List Nd} {k : Nat} {a : Nd} (h : s[k]? = some a) : (s.take (k + 1)).map ndTxt = (s.take k).map ndTxt ++ [ndTxt a] := by
  rw [List.take_add_one, h, List.map_append]
  rfl
set_option maxHeartbeats 3200000 in
theorem s_FormatDiagram (A : Option Addr) (c : Nat) (s : List Nd) (hs : ∀ a ∈ s, NdOk a) (hl : s.length ≤ 31) (w : World) (hr : RdC w A (ndCells s)) : Ret Tryd.prog 42 #[.slice A s.length c] w (.string (bs (diaTxt s))) := by
  unfold Ret
  have hu := Tryd.underlying94
  have HS := Lib.hid hs; clear hs
  go_enter Tryd.func42, Tryd.ntmps42
  go_wp2_with fail
  go_loopw [3, 4] (fun t i wr => ∃ k : Nat, k ≤ s.length ∧ i = .int .i64 k ∧ t = .string (bs (jn 32 ((s.take k).map ndTxt))) ∧ ∃ c : BW w, wr = c.val) (fun _ i _ => s.length - (intOf i).toNat)
  case atStart => exact ⟨0, Nat.zero_le _, rfl, rfl, ⟨w, Below.refl _ _⟩, rfl⟩
  case round =>
    obtain ⟨k, hk, rfl, rfl, cw, rfl⟩ := hrel
    have hle := jn_nd_le HS.out k
    obtain ⟨t, ht⟩ : ∃ t, t = jn 32 ((s.take k).map ndTxt) := ⟨_, rfl⟩
    rw [← ht] at hle ⊢
    by_cases hlt : k < s.length
    · obtain ⟨a, ha⟩ : ∃ a, s[k]? = some a := ⟨_, List.getElem?_eq_getElem hlt⟩
      have hok := HS.out a (List.mem_of_getElem? ha)
      obtain ⟨n0, n1, n2⟩ := nd_cells ha
      obtain ⟨ad, rfl, hc⟩ := (hr.bw cw) (by have := (List.getElem?_eq_some_iff.1 n0).1; omega)
      have m0 := hc _ _ n0
      have m1 := hc _ _ n1
      have m2 := hc _ _ n2
      have hst := jn_snoc 32 ((s.take k).map ndTxt) (ndTxt a)
      rw [← take_nd ha, ← ht] at hst
      obtain ⟨vr, lo, hi, wd⟩ := a
      obtain ⟨hv, hlo0, hlo1, hhi0, hhi1⟩ := hok
      dsimp only at m0 m1 m2 hv hlo0 hlo1 hhi0 hhi1
      rw [add_off _ _ 1 (by decide)] at m1
      rw [add_off _ _ 2 (by decide)] at m2
      have HST := Lib.hid (And.intro hst ht); clear hst ht
      have q1 : ∀ W, Ret Tryd.prog 22 #[.int .i64 vr, .int .i64 0, .int .i64 4] W (.bool true) := fun W => by
        have := s_l1In vr 0 4 W
        rwa [show inR vr 0 4 = true by unfold inR; simp; omega] at this
      have q2 : ∀ x : Int, -2 ≤ x → x ≤ 30 → ∀ W, Ret Tryd.prog 22 #[.int .i64 x, .int .i64 (-2), .int .i64 30] W (.bool true) := fun x h1 h2 W => by
        have := s_l1In x (-2) 30 W
        rwa [show inR x (-2) 30 = true by unfold inR; simp; omega] at this
      have q3 := q2 lo hlo0 hlo1
      have q4 := q2 hi hhi0 hhi1
      clear q2
      have h31 : decide ((31 : Int) < (s.length : Int)) = false := decide_eq_false (by omega)
      have hbx := (Blk.new cw.val #[.int .i64 vr, .int .i64 lo, .int .i64 hi] 94).all3
      obtain ⟨ch, hch⟩ : ∃ ch, ch = UInt8.ofNat (97 + vr) := ⟨_, rfl⟩
      have hnl := num_len (n := lo) (by omega) (by omega)
      have hnh := num_len (n := hi) (by omega) (by omega)
      have hnt : ndTxt ⟨vr, lo, hi, wd⟩ = ch :: (num lo ++ 44 :: num hi) := by rw [hch]; rfl
      have f1 := fun W => s_FormatInt lo (by omega) (by omega) W
      have f2 := fun W => s_FormatInt hi (by omega) (by omega) W
      have habc := fun W => slice_abc hv W
      rw [← hch] at habc
      have HNT := Lib.hid (And.intro hnt hch); clear hnt hch
      have hwv : IntKind.i64.wrap ((vr : Int) + 1) = (vr : Int) + 1 := wrap_i64 _ (by omega) (by omega)
      by_cases hk0 : k = 0
      case' pos =>
        have hkk : decide (0 < k) = false := decide_eq_false (by omega)
        have hkn : ¬ 0 < k := by omega
        obtain ⟨T, hT⟩ : ∃ T, T = t := ⟨_, rfl⟩
        have hT2 : T ++ (ch :: (num lo ++ 44 :: num hi)) = jn 32 ((s.take (k + 1)).map ndTxt) := by
          have ht0 : t = [] := by rw [HST.out.2, hk0]; simp [jn, Lib.join_nil]
          rw [HST.out.1, if_pos (by rw [hk0]; rfl), HNT.out.1, hT, ht0]; rfl
        have hTl : T.length ≤ 45 * s.length + 1 := by rw [hT]; omega
        have HT2 := Lib.hid hT2; clear hT2 hk0
        rw [← hT]
        clear hT
        go_upto_region 10 with (go_at_call 22; first | ((with_reducible refine Ret.go (q1 _) ?_); intro c1) | ((with_reducible refine Ret.on (q3 _) ?_); intro c2) | ((with_reducible refine Ret.on (q4 _) ?_); intro c3))
      case' neg =>
        have hkk : decide (0 < k) = true := decide_eq_true (by omega)
        have hkn : 0 < k := by omega
        obtain ⟨T, hT⟩ : ∃ T, T = t ++ [32] := ⟨_, rfl⟩
        have hT2 : T ++ (ch :: (num lo ++ 44 :: num hi)) = jn 32 ((s.take (k + 1)).map ndTxt) := by
          rw [HST.out.1, if_neg (by intro h; have := congrArg List.length h; rw [List.length_map, List.length_take, List.length_nil] at this; omega), HNT.out.1, hT]; simp
        have hTl : T.length ≤ 45 * s.length + 1 := by rw [hT]; simp; omega
        have hadd0 := add_bs (P := Tryd.prog) t [32] (by simp; omega)
        rw [← hT, show bs [32] = ⟨#[32]⟩ from rfl] at hadd0
        have HT2 := Lib.hid hT2; clear hT2 hT hk0
        go_upto_region 10 with (go_at_call 22; first | ((with_reducible refine Ret.go (q1 _) ?_); intro c1) | ((with_reducible refine Ret.on (q3 _) ?_); intro c2) | ((with_reducible refine Ret.on (q4 _) ?_); intro c3))
      all_goals
        obtain ⟨T1, hT1⟩ : ∃ T1, T1 = T ++ [ch] := ⟨_, rfl⟩
        obtain ⟨T2, hT2⟩ : ∃ T2, T2 = T1 ++ num lo := ⟨_, rfl⟩
        obtain ⟨T3, hT3⟩ : ∃ T3, T3 = T2 ++ [44] := ⟨_, rfl⟩
        obtain ⟨T4, hT4⟩ : ∃ T4, T4 = T3 ++ num hi := ⟨_, rfl⟩
        have l1 : T1.length = T.length + 1 := by rw [hT1]; simp
        have l2 : T2.length = T1.length + (num lo).length := by rw [hT2]; simp
        have l3 : T3.length = T2.length + 1 := by rw [hT3]; simp
        have a1 := add_bs (P := Tryd.prog) T [ch] (by simp; omega)
        have a2 := add_bs (P := Tryd.prog) T1 (num lo) (by omega)
        have a3 := add_bs (P := Tryd.prog) T2 [44] (by simp; omega)
        have a4 := add_bs (P := Tryd.prog) T3 (num hi) (by omega)
        rw [← hT1] at a1
        rw [← hT2] at a2
        rw [← hT3, show bs [44] = ⟨#[44]⟩ from rfl] at a3
        rw [← hT4] at a4
        have hT5 : T4 = T ++ (ch :: (num lo ++ 44 :: num hi)) := by rw [hT4, hT3, hT2, hT1]; simp
        have HTT := Lib.hid (hT5.trans HT2.out); clear hT1 hT2 hT3 hT4 hT5 l1 l2 l3
        have hb1 : ∀ c : BW c3.val, c.val.cell? ⟨cw.val.heap.size, 0, none⟩ = some (.int .i64 vr) ∧ c.val.cell? ⟨cw.val.heap.size, 1, none⟩ = some (.int .i64 lo) ∧ c.val.cell? ⟨cw.val.heap.size, 2, none⟩ = some (.int .i64 hi) := fun c => hbx ⟨c.val, bl_then c3.out c.out⟩
        refine wp_region_bw (by kernel_rfl) (by kernel_rfl) ?_
        repeat (quiet_step (first | (go_at_call 41; (with_reducible exact (f1 _).bw)) | (go_at_call 41; (with_reducible exact (f2 _).bw))))
        refine wpQuiet_nil ?_
        intro c4
        go_wp2_with fail
        go_roundw
        case rel => exact ⟨k + 1, by omega, by go_num, by rw [HTT.out], ⟨c4.val, bl_then (bl_alloc cw.out _) (bl_then c3.out c4.out)⟩, rfl⟩
        case measure => simp [intOf]; omega
    · obtain rfl : k = s.length := by omega
      rw [List.take_length] at ht
      by_cases hz : s = []
      · subst hz
        have ht0 : t = [] := by rw [ht]; simp [jn, Lib.join_nil]
        subst ht0
        clear ht
        rw [show bs [] = ⟨#[]⟩ from rfl]
        go_wp2_with fail
        go_ret
        exact ⟨ret_eq rfl, cw.out⟩
      · have hl : diaTxt s = t := by unfold diaTxt; rw [if_neg hz, ht]
        have hne : t ≠ [] := by rw [ht]; intro h; exact hz (by simpa using (jn_nil_iff (fun x hx => by obtain ⟨y, _, rfl⟩ := List.mem_map.1 hx; simp [ndTxt])).1 h)
        have HL := Lib.hid hl; clear ht hl
        have he := bs_empty hne
        go_wp2_with fail
        go_ret
        exact ⟨ret_eq (by rw [HL.out]; rfl), cw.out⟩
theorem i_isEnd (n : Int) (h0 : -2 ≤ n) (h1 : n ≤ 30) (w : World) : Ret Tryd.prog 84 #[.int .i64 n] w (.bool true) := by
  unfold Ret
  have h2 : n < 31 := by omega
  go_enter Tryd.func84, Tryd.ntmps84
  go_wp2
  go_ret
  exact ⟨rfl, bl⟩
theorem cell_set_far {w : World} {p : Addr} {b j : Nat} {u v : Value} (h : w.cell? p = some v) (hne : b ≠ p.block) : (w.setCell ⟨b, j, none⟩ u).cell? p = some v :=
  (World.cell?_of_block (Below.heap_setCell _ _ _ _ (fun e => hne e.symm))).trans h
theorem blk_store {wr W : World} {b k : Nat} {cs cs' : Array Value} {t : TypeId} {v : Value} (h : Blk wr b cs t) (hb : Below wr.heap.size wr W) (hs : cs.setIfInBounds k v = cs') : Blk (W.setCell ⟨b, k, none⟩ v) b cs' t := by
  rw [← hs]
  exact (h.later hb).set k v
theorem alloc_cell {w : World} {v : Value} {t : TypeId} (c : BW (w.alloc (.cells #[v] t))) : c.val.cell? ⟨w.heap.size, 0, none⟩ = some v := c.cell (by go_simp)
theorem alloc_cell' {w : World} {v : Value} {t : TypeId} (c : BW (w.alloc (.cells #[v] t)).drew) : c.val.cell? ⟨w.heap.size, 0, none⟩ = some v := c.cell (by go_simp)
set_option maxHeartbeats 6400000 in
theorem i_FormatDiagram (A : Option Addr) (c : Nat) (s : List Nd) (hs : ∀ a ∈ s, NdOk a) (hl : s.length ≤ 31) (w : World) (ht : Pow w) (hr : RdC w A (ndCells s)) : Ret Tryd.prog 47 #[.slice A s.length c] w (.string (bs (diaTxt s))) := by
  unfold Ret
  by_cases hz : s = []
  · subst hz
    go_enter Tryd.func47, Tryd.ntmps47
    go_wp2_with fail
    go_ret
    exact ⟨rfl, Below.refl _ _⟩
  · have hls : diaTxt s = jn 32 (s.map ndTxt) := by unfold diaTxt; rw [if_neg hz]
    have hln := lens_nd hs
    obtain ⟨n, hn⟩ : ∃ n, n = s.length := ⟨_, rfl⟩
    have hn0 : 0 < n := by rw [hn]; exact List.length_pos_iff.2 hz
    rw [← hn] at hl hln ⊢
    have hnz : ((n : Int) == 0) = false := by simp; omega
    have h31 : decide ((31 : Int) < (n : Int)) = false := decide_eq_false (by omega)
    have hu1 := Tryd.underlying94
    have hu := Tryd.underlying50
    have hmk := fun wx => run_make_row' (P := Tryd.prog) 50 9 (.string ⟨#[]⟩) 16 hu info_str rfl .i64 .i64 n (by omega) (by omega) wx
    have hzero := rowTo_zero (s.map ndTxt) n
    have hB0 := Blk.new w (rowTo (s.map ndTxt) 0 n).toArray 9
    rw [hzero] at hB0
    have hent : ∀ (args : Array Value) (W : World), Sem.run Tryd.prog (callFunc 84 args) W = .ok (.enter 84 args) W := fun _ _ => rfl
    have HX := Lib.hid hs; have HN := Lib.hid hn; have HLS := Lib.hid hls; have HZ := Lib.hid hzero; clear hs hn hls hz hzero
    go_enter Tryd.func47, Tryd.ntmps47
    go_wp2_with fail
    go_loopw [18] (fun i wr => ∃ k : Nat, k ≤ n ∧ i = .int .i64 k ∧ Hid (Blk wr w.heap.size (rowTo (s.map ndTxt) k n).toArray 9) ∧ Below w.heap.size w wr) (fun i _ => n - (intOf i).toNat)
    case atStart => exact ⟨0, Nat.zero_le _, rfl, Lib.hid (by rw [HZ.out]; exact hB0), bl⟩
    case round =>
      obtain ⟨k, hk, rfl, hB, hbl⟩ := hrel
      by_cases hlt : k < n
      · obtain ⟨a, ha⟩ : ∃ a, s[k]? = some a := ⟨_, List.getElem?_eq_getElem (by rw [← HN.out]; exact hlt)⟩
        have hok := HX.out a (List.mem_of_getElem? ha)
        obtain ⟨n0, n1, n2⟩ := nd_cells ha
        obtain ⟨ad, rfl, hc⟩ := (hr.later hbl) (by have := (List.getElem?_eq_some_iff.1 n0).1; omega)
        have m0 := hc _ _ n0
        have m1 := hc _ _ n1
        have m2 := hc _ _ n2
        have hget : (s.map ndTxt)[k]? = some (ndTxt a) := by rw [List.getElem?_map, ha]; rfl
        have hst := Lib.hid (rowTo_set (n := n) hget (by rw [List.length_map]; exact HN.out.symm))
        clear hget ha n0 n1 n2 hc
        obtain ⟨vr, lo, hi, wd⟩ := a
        obtain ⟨hv, hlo0, hlo1, hhi0, hhi1⟩ := hok
        dsimp only at m0 m1 m2 hv hlo0 hlo1 hhi0 hhi1
        rw [add_off _ _ 1 (by decide)] at m1
        rw [add_off _ _ 2 (by decide)] at m2
        have hv5 : decide ((5 : Int) ≤ (vr : Int)) = false := decide_eq_false (by omega)
        have hv0 : decide ((vr : Int) < 0) = false := decide_eq_false (by omega)
        have hbx := (Blk.new wr #[.int .i64 vr, .int .i64 lo, .int .i64 hi] 94).all3
        have q1 := fun W => i_isEnd lo hlo0 hlo1 W
        have q2 := fun W => i_isEnd hi hhi0 hhi1 W
        go_upto_region 12 with (go_at_call 84; first | ((with_reducible refine Ret.go (q1 _) ?_); intro c1) | ((with_reducible refine Ret.on (q2 _) ?_); intro c2))
        have hnl := num_len (n := lo) (by omega) (by omega)
        have hnh := num_len (n := hi) (by omega) (by omega)
        obtain ⟨ch, hch⟩ : ∃ ch, ch = UInt8.ofNat (97 + vr) := ⟨_, rfl⟩
        have hnt : ndTxt ⟨vr, lo, hi, wd⟩ = ch :: (num lo ++ 44 :: num hi) := by rw [hch]; rfl
        have hct : ((ch.toNat : Nat) : Int) = 97 + (vr : Int) := by rw [hch, UInt8.toNat_ofNat_of_lt' (by show 97 + vr < 256; omega)]; omega
        have hcv : ∀ (W : World) (b : Nat), W.cell? ⟨b, 0, none⟩ = some (.int .u8 (97 + (vr : Int))) → (convert 92 9 (.slice (some ⟨b, 0, none⟩) 1 1)).run Tryd.prog W = .ok (.string (bs [ch])) W := fun W b hb => conv_bytes (l := [ch]) rfl fun _ => ⟨_, rfl, fun i v hi => by
          match i, hi with
          | 0, hi => simp [u8s] at hi; subst hi; rw [add0, hct]; exact hb
          | i + 1, hi => simp [u8s] at hi⟩
        obtain ⟨T2, hT2⟩ : ∃ T2, T2 = [ch] ++ num lo := ⟨_, rfl⟩
        obtain ⟨T3, hT3⟩ : ∃ T3, T3 = T2 ++ [44] := ⟨_, rfl⟩
        obtain ⟨T4, hT4⟩ : ∃ T4, T4 = T3 ++ num hi := ⟨_, rfl⟩
        have l2 : T2.length = 1 + (num lo).length := by rw [hT2]; simp; omega
        have l3 : T3.length = T2.length + 1 := by rw [hT3]; simp
        have a2 := add_bs (P := Tryd.prog) [ch] (num lo) (by simp; omega)
        have a3 := add_bs (P := Tryd.prog) T2 [44] (by simp; omega)
        have a4 := add_bs (P := Tryd.prog) T3 (num hi) (by omega)
        rw [← hT2] at a2
        rw [← hT3, show bs [44] = ⟨#[44]⟩ from rfl] at a3
        rw [← hT4] at a4
        have hT5 : T4 = ndTxt ⟨vr, lo, hi, wd⟩ := by rw [hT4, hT3, hT2, hnt]; simp
        have hwv : IntKind.u8.wrap (97 + (vr : Int)) = 97 + (vr : Int) := by simp [IntKind.wrap, IntKind.bits, IntKind.signed]; omega
        have hwv2 : IntKind.u8.wrap (vr : Int) = (vr : Int) := by simp [IntKind.wrap, IntKind.bits, IntKind.signed]; omega
        rw [← hT5] at hst
        clear hT2 hT3 hT4 hT5 l2 l3 hnt hct hch
        have hk0 : (0 : Int) ≤ k := by omega
        have hkn : (k : Int) < n := by omega
        have HH : ∀ W', Below c2.val.heap.size c2.val W' → W'.frozen? ⟨w.heap.size, k, none⟩ = false ∧ (∃ u, W'.cell? ⟨w.heap.size, k, none⟩ = some u) ∧ w.heap.size < W'.heap.size ∧ W'.cell? ⟨wr.heap.size, 0, none⟩ = some (.int .i64 vr) ∧ W'.cell? ⟨wr.heap.size, 1, none⟩ = some (.int .i64 lo) ∧ W'.cell? ⟨wr.heap.size, 2, none⟩ = some (.int .i64 hi) := fun W' hb' => by
          have hb2 : Below wr.heap.size wr W' := bl_then (below_box c2) hb'
          have hk2 : k < (rowTo (s.map ndTxt) k n).toArray.size := by
            simp only [rowTo, List.size_toArray, List.length_append, strs_length, List.length_take, List.length_map, List.length_replicate]
            have := HN.out
            omega
          exact ⟨(hB.out.later hb2).free k, ⟨_, (hB.out.later hb2).cell (Array.getElem?_eq_getElem hk2)⟩, (hB.out.later hb2).lt, hbx ⟨W', bl_then c2.out hb'⟩⟩
        have hnew : w.heap.size ≠ wr.heap.size := by have := hB.out.lt; omega
        have HT := ht.later (bl_then hbl (below_box c2))
        have HP := Lib.hid HT; have HHH := Lib.hid HH
        obtain ⟨hfr0, ⟨uu0, huu0⟩, hlw0, hz0, hz1, hz2⟩ := HH c2.val (Below.refl _ _)
        clear HT HH hbx
        refine wp_region_noPanic ?_
        refine wp_region_held_drew (S := (fun w' => w'.cell? ⟨wr.heap.size, 0, none⟩ = some (.int .i64 vr) ∧ w'.cell? ⟨wr.heap.size, 1, none⟩ = some (.int .i64 lo) ∧ w'.cell? ⟨wr.heap.size, 2, none⟩ = some (.int .i64 hi))) (by kernel_rfl) ?_ (fun hHeld => ?_)
        · (first | go_keep | exact ⟨by assumption, by assumption, by assumption⟩ | exact ⟨cell_set_far (by assumption) hnew, cell_set_far (by assumption) hnew, cell_set_far (by assumption) hnew⟩)
        refine wpAnyH_take (i := 0) (v := ?_) (by (try simp only [List.getElem?_toArray, List.getElem?_cons_succ, List.getElem?_cons_zero]); first | done | rfl) (by kernel_rfl) (by kernel_rfl) (by kernel_rfl) (fun _ _ _ h => h) (Or.inl ⟨by rfl, ?_⟩) hHeld ?_
        rotate_left
        · intro w hSw; (try dsimp only at hSw); go_simp; (first | done | with_reducible rfl)
        try simp only [Act.put, List.setIfInBounds_toArray, List.set_cons_zero, List.set_cons_succ]
        refine wpAnyH_take (i := 1) (v := ?_) (by (try simp only [List.getElem?_toArray, List.getElem?_cons_succ, List.getElem?_cons_zero]); first | done | rfl) (by kernel_rfl) (by kernel_rfl) (by kernel_rfl) (fun _ _ _ h => h) (Or.inl ⟨by rfl, ?_⟩) hHeld ?_
        rotate_left
        · intro w hSw; (try dsimp only at hSw); go_simp; (first | done | with_reducible rfl)
        try simp only [Act.put, List.setIfInBounds_toArray, List.set_cons_zero, List.set_cons_succ]
        refine wpAnyH_take (i := 2) (v := ?_) (by (try simp only [List.getElem?_toArray, List.getElem?_cons_succ, List.getElem?_cons_zero]); first | done | rfl) (by kernel_rfl) (by kernel_rfl) (by kernel_rfl) (fun _ _ _ h => h) (Or.inl ⟨by rfl, ?_⟩) hHeld ?_
        rotate_left
        · intro w hSw; (try dsimp only at hSw); go_simp; (first | done | with_reducible rfl)
        try simp only [Act.put, List.setIfInBounds_toArray, List.set_cons_zero, List.set_cons_succ]
        refine wpAnyH_take (i := 3) (v := ?_) (by (try simp only [List.getElem?_toArray, List.getElem?_cons_succ, List.getElem?_cons_zero]); first | done | rfl) (by kernel_rfl) (by kernel_rfl) (by kernel_rfl) (fun _ _ _ h => h) (Or.inl ⟨by rfl, ?_⟩) hHeld ?_
        rotate_left
        · intro w hSw; (try dsimp only at hSw); go_simp; (first | done | with_reducible rfl)
        try simp only [Act.put, List.setIfInBounds_toArray, List.set_cons_zero, List.set_cons_succ]
        refine wpAnyH_take (i := 4) (v := ?_) (by (try simp only [List.getElem?_toArray, List.getElem?_cons_succ, List.getElem?_cons_zero]); first | done | rfl) (by kernel_rfl) (by kernel_rfl) (by kernel_rfl) (fun _ _ _ h => h) (Or.inl ⟨by rfl, ?_⟩) hHeld ?_
        rotate_left
        · intro w hSw; (try dsimp only at hSw); go_simp; (first | done | with_reducible rfl)
        try simp only [Act.put, List.setIfInBounds_toArray, List.set_cons_zero, List.set_cons_succ]
        refine wpAnyH_take (i := 5) (v := ?_) (by (try simp only [List.getElem?_toArray, List.getElem?_cons_succ, List.getElem?_cons_zero]); first | done | rfl) (by kernel_rfl) (by kernel_rfl) (by kernel_rfl) (fun _ _ _ h => h) (Or.inl ⟨by rfl, ?_⟩) hHeld ?_
        rotate_left
        · intro w hSw; (try dsimp only at hSw); go_simp; (first | done | with_reducible rfl)
        try simp only [Act.put, List.setIfInBounds_toArray, List.set_cons_zero, List.set_cons_succ]
        refine wpAnyH_take (i := 8) (v := ?_) (by (try simp only [List.getElem?_toArray, List.getElem?_cons_succ, List.getElem?_cons_zero]); first | done | rfl) (by kernel_rfl) (by kernel_rfl) (by kernel_rfl) (fun _ _ _ h => h) (Or.inl ⟨by rfl, ?_⟩) hHeld ?_
        rotate_left
        · intro w hSw; (try dsimp only at hSw); go_simp; (first | done | with_reducible rfl)
        try simp only [Act.put, List.setIfInBounds_toArray, List.set_cons_zero, List.set_cons_succ]
        refine wpAnyH_take (i := 9) (v := ?_) (by (try simp only [List.getElem?_toArray, List.getElem?_cons_succ, List.getElem?_cons_zero]); first | done | rfl) (by kernel_rfl) (by kernel_rfl) (by kernel_rfl) (fun _ _ _ h => h) (Or.inl ⟨by rfl, ?_⟩) hHeld ?_
        rotate_left
        · intro w hSw; (try dsimp only at hSw); go_simp; (first | done | with_reducible rfl)
        try simp only [Act.put, List.setIfInBounds_toArray, List.set_cons_zero, List.set_cons_succ]
        refine wpAnyH_take (i := 13) (v := ?_) (by (try simp only [List.getElem?_toArray, List.getElem?_cons_succ, List.getElem?_cons_zero]); first | done | rfl) (by kernel_rfl) (by kernel_rfl) (by kernel_rfl) (fun _ _ _ h => h) (Or.inl ⟨by rfl, ?_⟩) hHeld ?_
        rotate_left
        · intro w hSw; (try dsimp only at hSw); go_simp; (first | done | with_reducible rfl)
        try simp only [Act.put, List.setIfInBounds_toArray, List.set_cons_zero, List.set_cons_succ]
        refine wpAnyH_take (i := 14) (v := ?_) (by (try simp only [List.getElem?_toArray, List.getElem?_cons_succ, List.getElem?_cons_zero]); first | done | rfl) (by kernel_rfl) (by kernel_rfl) (by kernel_rfl) (fun _ _ _ h => h) (Or.inl ⟨by rfl, ?_⟩) hHeld ?_
        rotate_left
        · intro w hSw; (try dsimp only at hSw); go_simp; (first | done | with_reducible rfl)
        try simp only [Act.put, List.setIfInBounds_toArray, List.set_cons_zero, List.set_cons_succ]
        refine wpAnyH_ready (rs := [6, 10]) (by kernel_rfl) (by simp) ?_
        refine AllReadyH.cons (by (try simp only [List.getElem?_toArray, List.getElem?_cons_succ, List.getElem?_cons_zero]); first | done | rfl) (fun K hK => ?_) (AllReadyH.cons (by (try simp only [List.getElem?_toArray, List.getElem?_cons_succ, List.getElem?_cons_zero]); first | done | rfl) (fun K hK => ?_) (AllReadyH.nil))
        · go_simp
          refine hK.out _ _ ?_ (fun hHeld => ?_)
          · (try dsimp only); (first | go_keep | exact ⟨by assumption, by assumption, by assumption⟩ | exact ⟨cell_set_far (by assumption) hnew, cell_set_far (by assumption) hnew, cell_set_far (by assumption) hnew⟩)
          clear hK K
          try simp only [Act.put, List.setIfInBounds_toArray, List.set_cons_zero, List.set_cons_succ]
          refine wpAnyH_ready (rs := [7, 10]) (by kernel_rfl) (by simp) ?_
          refine AllReadyH.cons (by (try simp only [List.getElem?_toArray, List.getElem?_cons_succ, List.getElem?_cons_zero]); first | done | rfl) (fun K hK => ?_) (AllReadyH.cons (by (try simp only [List.getElem?_toArray, List.getElem?_cons_succ, List.getElem?_cons_zero]); first | done | rfl) (fun K hK => ?_) (AllReadyH.nil))
          · go_simp
            refine hK.out _ _ ?_ (fun hHeld => ?_)
            · (try dsimp only); (first | go_keep | exact ⟨by assumption, by assumption, by assumption⟩ | exact ⟨cell_set_far (by assumption) hnew, cell_set_far (by assumption) hnew, cell_set_far (by assumption) hnew⟩)
            clear hK K
            try simp only [Act.put, List.setIfInBounds_toArray, List.set_cons_zero, List.set_cons_succ]
            refine wpAnyH_ready (rs := [10]) (by kernel_rfl) (by simp) ?_
            refine AllReadyH.cons (by (try simp only [List.getElem?_toArray, List.getElem?_cons_succ, List.getElem?_cons_zero]); first | done | rfl) (fun K hK => ?_) (AllReadyH.nil)
            · go_simp
              (go_at_call 46; (with_reducible refine Ret.go (i_FormatInt lo (by omega) (by omega) _ (HP.out.later bl)) ?_); intro c5; (try have hx5 := alloc_cell c5); (try have hx5 := alloc_cell' c5); obtain ⟨hfr5, ⟨uu5, huu5⟩, hlw5, hz50, hz51, hz52⟩ := HHH.out c5.val bl)
              refine hK.out _ _ ?_ (fun hHeld => ?_)
              · (try dsimp only); (first | go_keep | exact ⟨by assumption, by assumption, by assumption⟩ | exact ⟨cell_set_far (by assumption) hnew, cell_set_far (by assumption) hnew, cell_set_far (by assumption) hnew⟩)
              clear hK K
              try simp only [Act.put, List.setIfInBounds_toArray, List.set_cons_zero, List.set_cons_succ]
              refine wpAnyH_take (i := 11) (v := ?_) (by (try simp only [List.getElem?_toArray, List.getElem?_cons_succ, List.getElem?_cons_zero]); first | done | rfl) (by kernel_rfl) (by kernel_rfl) (by kernel_rfl) (fun _ _ _ h => h) (Or.inl ⟨by rfl, ?_⟩) hHeld ?_
              rotate_left
              · intro w hSw; (try dsimp only at hSw); go_simp; (first | done | with_reducible rfl)
              try simp only [Act.put, List.setIfInBounds_toArray, List.set_cons_zero, List.set_cons_succ]
              refine wpAnyH_take (i := 12) (v := ?_) (by (try simp only [List.getElem?_toArray, List.getElem?_cons_succ, List.getElem?_cons_zero]); first | done | rfl) (by kernel_rfl) (by kernel_rfl) (by kernel_rfl) (fun _ _ _ h => h) (Or.inl ⟨by rfl, ?_⟩) hHeld ?_
              rotate_left
              · intro w hSw; (try dsimp only at hSw); go_simp; (first | done | with_reducible rfl)
              try simp only [Act.put, List.setIfInBounds_toArray, List.set_cons_zero, List.set_cons_succ]
              refine wpAnyH_ready (rs := [15]) (by kernel_rfl) (by simp) ?_
              refine AllReadyH.cons (by (try simp only [List.getElem?_toArray, List.getElem?_cons_succ, List.getElem?_cons_zero]); first | done | rfl) (fun K hK => ?_) (AllReadyH.nil)
              · go_simp
                (go_at_call 46; (with_reducible refine Ret.go (i_FormatInt hi (by omega) (by omega) _ (HP.out.later bl)) ?_); intro c7; (try have hx7 := alloc_cell c7); (try have hx7 := alloc_cell' c7); (try have hy7 := c7.cell hx5); obtain ⟨hfr7, ⟨uu7, huu7⟩, hlw7, hz70, hz71, hz72⟩ := HHH.out c7.val bl)
                refine hK.out _ _ ?_ (fun hHeld => ?_)
                · (try dsimp only); (first | go_keep | exact ⟨by assumption, by assumption, by assumption⟩ | exact ⟨cell_set_far (by assumption) hnew, cell_set_far (by assumption) hnew, cell_set_far (by assumption) hnew⟩)
                clear hK K
                try simp only [Act.put, List.setIfInBounds_toArray, List.set_cons_zero, List.set_cons_succ]
                refine wpAnyH_take (i := 16) (v := ?_) (by (try simp only [List.getElem?_toArray, List.getElem?_cons_succ, List.getElem?_cons_zero]); first | done | rfl) (by kernel_rfl) (by kernel_rfl) (by kernel_rfl) (fun _ _ _ h => h) (Or.inl ⟨by rfl, ?_⟩) hHeld ?_
                rotate_left
                · intro w hSw; (try dsimp only at hSw); go_simp; (first | done | with_reducible rfl)
                try simp only [Act.put, List.setIfInBounds_toArray, List.set_cons_zero, List.set_cons_succ]
                refine wpAnyH_take (i := 17) (v := ?_) (by (try simp only [List.getElem?_toArray, List.getElem?_cons_succ, List.getElem?_cons_zero]); first | done | rfl) (by kernel_rfl) (by kernel_rfl) (by kernel_rfl) (fun _ _ _ h => h) (Or.inl ⟨by rfl, ?_⟩) hHeld ?_
                rotate_left
                · intro w hSw; (try dsimp only at hSw); go_simp; (first | done | with_reducible rfl)
                try simp only [Act.put, List.setIfInBounds_toArray, List.set_cons_zero, List.set_cons_succ]
                refine wpAnyH_ready (rs := [18]) (by kernel_rfl) (by simp) ?_
                refine AllReadyH.cons (by (try simp only [List.getElem?_toArray, List.getElem?_cons_succ, List.getElem?_cons_zero]); first | done | rfl) (fun K hK => ?_) (AllReadyH.nil)
                · go_simp
                  refine hK.out _ _ ?_ (fun hHeld => ?_)
                  · (try dsimp only); (first | go_keep | exact ⟨by assumption, by assumption, by assumption⟩ | exact ⟨cell_set_far (by assumption) hnew, cell_set_far (by assumption) hnew, cell_set_far (by assumption) hnew⟩)
                  clear hK K
                  try simp only [Act.put, List.setIfInBounds_toArray, List.set_cons_zero, List.set_cons_succ]
                  refine wpAnyH_done (by kernel_rfl) ?_ _
                  refine NoPanic.normal ?_
                  go_wp2_with fail; go_roundw; (case rel => first | exact ⟨k + 1, by omega, by go_num, Lib.hid (blk_store hB.out bl hst.out), bl_set (bl_then hbl bl) (Nat.le_refl _)⟩ | exact ⟨k + 1, by omega, by go_num, Lib.hid ((blk_store hB.out bl hst.out).alloc _), bl_alloc (bl_set (bl_then hbl bl) (Nat.le_refl _)) _⟩); (case measure => simp [intOf]; omega)
          · go_simp
            (go_at_call 46; (with_reducible refine Ret.go (i_FormatInt lo (by omega) (by omega) _ (HP.out.later bl)) ?_); intro c5; (try have hx5 := alloc_cell c5); (try have hx5 := alloc_cell' c5); obtain ⟨hfr5, ⟨uu5, huu5⟩, hlw5, hz50, hz51, hz52⟩ := HHH.out c5.val bl)
            refine hK.out _ _ ?_ (fun hHeld => ?_)
            · (try dsimp only); (first | go_keep | exact ⟨by assumption, by assumption, by assumption⟩ | exact ⟨cell_set_far (by assumption) hnew, cell_set_far (by assumption) hnew, cell_set_far (by assumption) hnew⟩)
            clear hK K
            try simp only [Act.put, List.setIfInBounds_toArray, List.set_cons_zero, List.set_cons_succ]
            refine wpAnyH_ready (rs := [7, 15]) (by kernel_rfl) (by simp) ?_
            refine AllReadyH.cons (by (try simp only [List.getElem?_toArray, List.getElem?_cons_succ, List.getElem?_cons_zero]); first | done | rfl) (fun K hK => ?_) (AllReadyH.cons (by (try simp only [List.getElem?_toArray, List.getElem?_cons_succ, List.getElem?_cons_zero]); first | done | rfl) (fun K hK => ?_) (AllReadyH.nil))
            · go_simp
              refine hK.out _ _ ?_ (fun hHeld => ?_)
              · (try dsimp only); (first | go_keep | exact ⟨by assumption, by assumption, by assumption⟩ | exact ⟨cell_set_far (by assumption) hnew, cell_set_far (by assumption) hnew, cell_set_far (by assumption) hnew⟩)
              clear hK K
              try simp only [Act.put, List.setIfInBounds_toArray, List.set_cons_zero, List.set_cons_succ]
              refine wpAnyH_take (i := 11) (v := ?_) (by (try simp only [List.getElem?_toArray, List.getElem?_cons_succ, List.getElem?_cons_zero]); first | done | rfl) (by kernel_rfl) (by kernel_rfl) (by kernel_rfl) (fun _ _ _ h => h) (Or.inl ⟨by rfl, ?_⟩) hHeld ?_
              rotate_left
              · intro w hSw; (try dsimp only at hSw); go_simp; (first | done | with_reducible rfl)
              try simp only [Act.put, List.setIfInBounds_toArray, List.set_cons_zero, List.set_cons_succ]
              refine wpAnyH_take (i := 12) (v := ?_) (by (try simp only [List.getElem?_toArray, List.getElem?_cons_succ, List.getElem?_cons_zero]); first | done | rfl) (by kernel_rfl) (by kernel_rfl) (by kernel_rfl) (fun _ _ _ h => h) (Or.inl ⟨by rfl, ?_⟩) hHeld ?_
              rotate_left
              · intro w hSw; (try dsimp only at hSw); go_simp; (first | done | with_reducible rfl)
              try simp only [Act.put, List.setIfInBounds_toArray, List.set_cons_zero, List.set_cons_succ]
              refine wpAnyH_ready (rs := [15]) (by kernel_rfl) (by simp) ?_
              refine AllReadyH.cons (by (try simp only [List.getElem?_toArray, List.getElem?_cons_succ, List.getElem?_cons_zero]); first | done | rfl) (fun K hK => ?_) (AllReadyH.nil)
              · go_simp
                (go_at_call 46; (with_reducible refine Ret.go (i_FormatInt hi (by omega) (by omega) _ (HP.out.later bl)) ?_); intro c7; (try have hx7 := alloc_cell c7); (try have hx7 := alloc_cell' c7); (try have hy7 := c7.cell hx5); obtain ⟨hfr7, ⟨uu7, huu7⟩, hlw7, hz70, hz71, hz72⟩ := HHH.out c7.val bl)
                refine hK.out _ _ ?_ (fun hHeld => ?_)
                · (try dsimp only); (first | go_keep | exact ⟨by assumption, by assumption, by assumption⟩ | exact ⟨cell_set_far (by assumption) hnew, cell_set_far (by assumption) hnew, cell_set_far (by assumption) hnew⟩)
                clear hK K
                try simp only [Act.put, List.setIfInBounds_toArray, List.set_cons_zero, List.set_cons_succ]
                refine wpAnyH_take (i := 16) (v := ?_) (by (try simp only [List.getElem?_toArray, List.getElem?_cons_succ, List.getElem?_cons_zero]); first | done | rfl) (by kernel_rfl) (by kernel_rfl) (by kernel_rfl) (fun _ _ _ h => h) (Or.inl ⟨by rfl, ?_⟩) hHeld ?_
                rotate_left
                · intro w hSw; (try dsimp only at hSw); go_simp; (first | done | with_reducible rfl)
                try simp only [Act.put, List.setIfInBounds_toArray, List.set_cons_zero, List.set_cons_succ]
                refine wpAnyH_take (i := 17) (v := ?_) (by (try simp only [List.getElem?_toArray, List.getElem?_cons_succ, List.getElem?_cons_zero]); first | done | rfl) (by kernel_rfl) (by kernel_rfl) (by kernel_rfl) (fun _ _ _ h => h) (Or.inl ⟨by rfl, ?_⟩) hHeld ?_
                rotate_left
                · intro w hSw; (try dsimp only at hSw); go_simp; (first | done | with_reducible rfl)
                try simp only [Act.put, List.setIfInBounds_toArray, List.set_cons_zero, List.set_cons_succ]
                refine wpAnyH_ready (rs := [18]) (by kernel_rfl) (by simp) ?_
                refine AllReadyH.cons (by (try simp only [List.getElem?_toArray, List.getElem?_cons_succ, List.getElem?_cons_zero]); first | done | rfl) (fun K hK => ?_) (AllReadyH.nil)
                · go_simp
                  refine hK.out _ _ ?_ (fun hHeld => ?_)
                  · (try dsimp only); (first | go_keep | exact ⟨by assumption, by assumption, by assumption⟩ | exact ⟨cell_set_far (by assumption) hnew, cell_set_far (by assumption) hnew, cell_set_far (by assumption) hnew⟩)
                  clear hK K
                  try simp only [Act.put, List.setIfInBounds_toArray, List.set_cons_zero, List.set_cons_succ]
                  refine wpAnyH_done (by kernel_rfl) ?_ _
                  refine NoPanic.normal ?_
                  go_wp2_with fail; go_roundw; (case rel => first | exact ⟨k + 1, by omega, by go_num, Lib.hid (blk_store hB.out bl hst.out), bl_set (bl_then hbl bl) (Nat.le_refl _)⟩ | exact ⟨k + 1, by omega, by go_num, Lib.hid ((blk_store hB.out bl hst.out).alloc _), bl_alloc (bl_set (bl_then hbl bl) (Nat.le_refl _)) _⟩); (case measure => simp [intOf]; omega)
            · go_simp
              (go_at_call 46; (with_reducible refine Ret.go (i_FormatInt hi (by omega) (by omega) _ (HP.out.later bl)) ?_); intro c7; (try have hx7 := alloc_cell c7); (try have hx7 := alloc_cell' c7); (try have hy7 := c7.cell hx5); obtain ⟨hfr7, ⟨uu7, huu7⟩, hlw7, hz70, hz71, hz72⟩ := HHH.out c7.val bl)
              refine hK.out _ _ ?_ (fun hHeld => ?_)
              · (try dsimp only); (first | go_keep | exact ⟨by assumption, by assumption, by assumption⟩ | exact ⟨cell_set_far (by assumption) hnew, cell_set_far (by assumption) hnew, cell_set_far (by assumption) hnew⟩)
              clear hK K
              try simp only [Act.put, List.setIfInBounds_toArray, List.set_cons_zero, List.set_cons_succ]
              refine wpAnyH_ready (rs := [7]) (by kernel_rfl) (by simp) ?_
              refine AllReadyH.cons (by (try simp only [List.getElem?_toArray, List.getElem?_cons_succ, List.getElem?_cons_zero]); first | done | rfl) (fun K hK => ?_) (AllReadyH.nil)
              · go_simp
                refine hK.out _ _ ?_ (fun hHeld => ?_)
                · (try dsimp only); (first | go_keep | exact ⟨by assumption, by assumption, by assumption⟩ | exact ⟨cell_set_far (by assumption) hnew, cell_set_far (by assumption) hnew, cell_set_far (by assumption) hnew⟩)
                clear hK K
                try simp only [Act.put, List.setIfInBounds_toArray, List.set_cons_zero, List.set_cons_succ]
                refine wpAnyH_take (i := 11) (v := ?_) (by (try simp only [List.getElem?_toArray, List.getElem?_cons_succ, List.getElem?_cons_zero]); first | done | rfl) (by kernel_rfl) (by kernel_rfl) (by kernel_rfl) (fun _ _ _ h => h) (Or.inl ⟨by rfl, ?_⟩) hHeld ?_
                rotate_left
                · intro w hSw; (try dsimp only at hSw); go_simp; (first | done | with_reducible rfl)
                try simp only [Act.put, List.setIfInBounds_toArray, List.set_cons_zero, List.set_cons_succ]
                refine wpAnyH_take (i := 12) (v := ?_) (by (try simp only [List.getElem?_toArray, List.getElem?_cons_succ, List.getElem?_cons_zero]); first | done | rfl) (by kernel_rfl) (by kernel_rfl) (by kernel_rfl) (fun _ _ _ h => h) (Or.inl ⟨by rfl, ?_⟩) hHeld ?_
                rotate_left
                · intro w hSw; (try dsimp only at hSw); go_simp; (first | done | with_reducible rfl)
                try simp only [Act.put, List.setIfInBounds_toArray, List.set_cons_zero, List.set_cons_succ]
                refine wpAnyH_take (i := 16) (v := ?_) (by (try simp only [List.getElem?_toArray, List.getElem?_cons_succ, List.getElem?_cons_zero]); first | done | rfl) (by kernel_rfl) (by kernel_rfl) (by kernel_rfl) (fun _ _ _ h => h) (Or.inl ⟨by rfl, ?_⟩) hHeld ?_
                rotate_left
                · intro w hSw; (try dsimp only at hSw); go_simp; (first | done | with_reducible rfl)
                try simp only [Act.put, List.setIfInBounds_toArray, List.set_cons_zero, List.set_cons_succ]
                refine wpAnyH_take (i := 17) (v := ?_) (by (try simp only [List.getElem?_toArray, List.getElem?_cons_succ, List.getElem?_cons_zero]); first | done | rfl) (by kernel_rfl) (by kernel_rfl) (by kernel_rfl) (fun _ _ _ h => h) (Or.inl ⟨by rfl, ?_⟩) hHeld ?_
                rotate_left
                · intro w hSw; (try dsimp only at hSw); go_simp; (first | done | with_reducible rfl)
                try simp only [Act.put, List.setIfInBounds_toArray, List.set_cons_zero, List.set_cons_succ]
                refine wpAnyH_ready (rs := [18]) (by kernel_rfl) (by simp) ?_
                refine AllReadyH.cons (by (try simp only [List.getElem?_toArray, List.getElem?_cons_succ, List.getElem?_cons_zero]); first | done | rfl) (fun K hK => ?_) (AllReadyH.nil)
                · go_simp
                  refine hK.out _ _ ?_ (fun hHeld => ?_)
                  · (try dsimp only); (first | go_keep | exact ⟨by assumption, by assumption, by assumption⟩ | exact ⟨cell_set_far (by assumption) hnew, cell_set_far (by assumption) hnew, cell_set_far (by assumption) hnew⟩)
                  clear hK K
                  try simp only [Act.put, List.setIfInBounds_toArray, List.set_cons_zero, List.set_cons_succ]
                  refine wpAnyH_done (by kernel_rfl) ?_ _
                  refine NoPanic.normal ?_
                  go_wp2_with fail; go_roundw; (case rel => first | exact ⟨k + 1, by omega, by go_num, Lib.hid (blk_store hB.out bl hst.out), bl_set (bl_then hbl bl) (Nat.le_refl _)⟩ | exact ⟨k + 1, by omega, by go_num, Lib.hid ((blk_store hB.out bl hst.out).alloc _), bl_alloc (bl_set (bl_then hbl bl) (Nat.le_refl _)) _⟩); (case measure => simp [intOf]; omega)
        · go_simp
          (go_at_call 46; (with_reducible refine Ret.go (i_FormatInt lo (by omega) (by omega) _ (HP.out.later bl)) ?_); intro c5; (try have hx5 := alloc_cell c5); (try have hx5 := alloc_cell' c5); obtain ⟨hfr5, ⟨uu5, huu5⟩, hlw5, hz50, hz51, hz52⟩ := HHH.out c5.val bl)
          refine hK.out _ _ ?_ (fun hHeld => ?_)
          · (try dsimp only); (first | go_keep | exact ⟨by assumption, by assumption, by assumption⟩ | exact ⟨cell_set_far (by assumption) hnew, cell_set_far (by assumption) hnew, cell_set_far (by assumption) hnew⟩)
          clear hK K
          try simp only [Act.put, List.setIfInBounds_toArray, List.set_cons_zero, List.set_cons_succ]
          refine wpAnyH_ready (rs := [6, 15]) (by kernel_rfl) (by simp) ?_
          refine AllReadyH.cons (by (try simp only [List.getElem?_toArray, List.getElem?_cons_succ, List.getElem?_cons_zero]); first | done | rfl) (fun K hK => ?_) (AllReadyH.cons (by (try simp only [List.getElem?_toArray, List.getElem?_cons_succ, List.getElem?_cons_zero]); first | done | rfl) (fun K hK => ?_) (AllReadyH.nil))
          · go_simp
            refine hK.out _ _ ?_ (fun hHeld => ?_)
            · (try dsimp only); (first | go_keep | exact ⟨by assumption, by assumption, by assumption⟩ | exact ⟨cell_set_far (by assumption) hnew, cell_set_far (by assumption) hnew, cell_set_far (by assumption) hnew⟩)
            clear hK K
            try simp only [Act.put, List.setIfInBounds_toArray, List.set_cons_zero, List.set_cons_succ]
            refine wpAnyH_ready (rs := [7, 15]) (by kernel_rfl) (by simp) ?_
            refine AllReadyH.cons (by (try simp only [List.getElem?_toArray, List.getElem?_cons_succ, List.getElem?_cons_zero]); first | done | rfl) (fun K hK => ?_) (AllReadyH.cons (by (try simp only [List.getElem?_toArray, List.getElem?_cons_succ, List.getElem?_cons_zero]); first | done | rfl) (fun K hK => ?_) (AllReadyH.nil))
            · go_simp
              refine hK.out _ _ ?_ (fun hHeld => ?_)
              · (try dsimp only); (first | go_keep | exact ⟨by assumption, by assumption, by assumption⟩ | exact ⟨cell_set_far (by assumption) hnew, cell_set_far (by assumption) hnew, cell_set_far (by assumption) hnew⟩)
              clear hK K
              try simp only [Act.put, List.setIfInBounds_toArray, List.set_cons_zero, List.set_cons_succ]
              refine wpAnyH_take (i := 11) (v := ?_) (by (try simp only [List.getElem?_toArray, List.getElem?_cons_succ, List.getElem?_cons_zero]); first | done | rfl) (by kernel_rfl) (by kernel_rfl) (by kernel_rfl) (fun _ _ _ h => h) (Or.inl ⟨by rfl, ?_⟩) hHeld ?_
              rotate_left
              · intro w hSw; (try dsimp only at hSw); go_simp; (first | done | with_reducible rfl)
              try simp only [Act.put, List.setIfInBounds_toArray, List.set_cons_zero, List.set_cons_succ]
              refine wpAnyH_take (i := 12) (v := ?_) (by (try simp only [List.getElem?_toArray, List.getElem?_cons_succ, List.getElem?_cons_zero]); first | done | rfl) (by kernel_rfl) (by kernel_rfl) (by kernel_rfl) (fun _ _ _ h => h) (Or.inl ⟨by rfl, ?_⟩) hHeld ?_
              rotate_left
              · intro w hSw; (try dsimp only at hSw); go_simp; (first | done | with_reducible rfl)
              try simp only [Act.put, List.setIfInBounds_toArray, List.set_cons_zero, List.set_cons_succ]
              refine wpAnyH_ready (rs := [15]) (by kernel_rfl) (by simp) ?_
              refine AllReadyH.cons (by (try simp only [List.getElem?_toArray, List.getElem?_cons_succ, List.getElem?_cons_zero]); first | done | rfl) (fun K hK => ?_) (AllReadyH.nil)
              · go_simp
                (go_at_call 46; (with_reducible refine Ret.go (i_FormatInt hi (by omega) (by omega) _ (HP.out.later bl)) ?_); intro c7; (try have hx7 := alloc_cell c7); (try have hx7 := alloc_cell' c7); (try have hy7 := c7.cell hx5); obtain ⟨hfr7, ⟨uu7, huu7⟩, hlw7, hz70, hz71, hz72⟩ := HHH.out c7.val bl)
                refine hK.out _ _ ?_ (fun hHeld => ?_)
                · (try dsimp only); (first | go_keep | exact ⟨by assumption, by assumption, by assumption⟩ | exact ⟨cell_set_far (by assumption) hnew, cell_set_far (by assumption) hnew, cell_set_far (by assumption) hnew⟩)
                clear hK K
                try simp only [Act.put, List.setIfInBounds_toArray, List.set_cons_zero, List.set_cons_succ]
                refine wpAnyH_take (i := 16) (v := ?_) (by (try simp only [List.getElem?_toArray, List.getElem?_cons_succ, List.getElem?_cons_zero]); first | done | rfl) (by kernel_rfl) (by kernel_rfl) (by kernel_rfl) (fun _ _ _ h => h) (Or.inl ⟨by rfl, ?_⟩) hHeld ?_
                rotate_left
                · intro w hSw; (try dsimp only at hSw); go_simp; (first | done | with_reducible rfl)
                try simp only [Act.put, List.setIfInBounds_toArray, List.set_cons_zero, List.set_cons_succ]
                refine wpAnyH_take (i := 17) (v := ?_) (by (try simp only [List.getElem?_toArray, List.getElem?_cons_succ, List.getElem?_cons_zero]); first | done | rfl) (by kernel_rfl) (by kernel_rfl) (by kernel_rfl) (fun _ _ _ h => h) (Or.inl ⟨by rfl, ?_⟩) hHeld ?_
                rotate_left
                · intro w hSw; (try dsimp only at hSw); go_simp; (first | done | with_reducible rfl)
                try simp only [Act.put, List.setIfInBounds_toArray, List.set_cons_zero, List.set_cons_succ]
                refine wpAnyH_ready (rs := [18]) (by kernel_rfl) (by simp) ?_
                refine AllReadyH.cons (by (try simp only [List.getElem?_toArray, List.getElem?_cons_succ, List.getElem?_cons_zero]); first | done | rfl) (fun K hK => ?_) (AllReadyH.nil)
                · go_simp
                  refine hK.out _ _ ?_ (fun hHeld => ?_)
                  · (try dsimp only); (first | go_keep | exact ⟨by assumption, by assumption, by assumption⟩ | exact ⟨cell_set_far (by assumption) hnew, cell_set_far (by assumption) hnew, cell_set_far (by assumption) hnew⟩)
                  clear hK K
                  try simp only [Act.put, List.setIfInBounds_toArray, List.set_cons_zero, List.set_cons_succ]
                  refine wpAnyH_done (by kernel_rfl) ?_ _
                  refine NoPanic.normal ?_
                  go_wp2_with fail; go_roundw; (case rel => first | exact ⟨k + 1, by omega, by go_num, Lib.hid (blk_store hB.out bl hst.out), bl_set (bl_then hbl bl) (Nat.le_refl _)⟩ | exact ⟨k + 1, by omega, by go_num, Lib.hid ((blk_store hB.out bl hst.out).alloc _), bl_alloc (bl_set (bl_then hbl bl) (Nat.le_refl _)) _⟩); (case measure => simp [intOf]; omega)
            · go_simp
              (go_at_call 46; (with_reducible refine Ret.go (i_FormatInt hi (by omega) (by omega) _ (HP.out.later bl)) ?_); intro c7; (try have hx7 := alloc_cell c7); (try have hx7 := alloc_cell' c7); (try have hy7 := c7.cell hx5); obtain ⟨hfr7, ⟨uu7, huu7⟩, hlw7, hz70, hz71, hz72⟩ := HHH.out c7.val bl)
              refine hK.out _ _ ?_ (fun hHeld => ?_)
              · (try dsimp only); (first | go_keep | exact ⟨by assumption, by assumption, by assumption⟩ | exact ⟨cell_set_far (by assumption) hnew, cell_set_far (by assumption) hnew, cell_set_far (by assumption) hnew⟩)
              clear hK K
              try simp only [Act.put, List.setIfInBounds_toArray, List.set_cons_zero, List.set_cons_succ]
              refine wpAnyH_ready (rs := [7]) (by kernel_rfl) (by simp) ?_
              refine AllReadyH.cons (by (try simp only [List.getElem?_toArray, List.getElem?_cons_succ, List.getElem?_cons_zero]); first | done | rfl) (fun K hK => ?_) (AllReadyH.nil)
              · go_simp
                refine hK.out _ _ ?_ (fun hHeld => ?_)
                · (try dsimp only); (first | go_keep | exact ⟨by assumption, by assumption, by assumption⟩ | exact ⟨cell_set_far (by assumption) hnew, cell_set_far (by assumption) hnew, cell_set_far (by assumption) hnew⟩)
                clear hK K
                try simp only [Act.put, List.setIfInBounds_toArray, List.set_cons_zero, List.set_cons_succ]
                refine wpAnyH_take (i := 11) (v := ?_) (by (try simp only [List.getElem?_toArray, List.getElem?_cons_succ, List.getElem?_cons_zero]); first | done | rfl) (by kernel_rfl) (by kernel_rfl) (by kernel_rfl) (fun _ _ _ h => h) (Or.inl ⟨by rfl, ?_⟩) hHeld ?_
                rotate_left
                · intro w hSw; (try dsimp only at hSw); go_simp; (first | done | with_reducible rfl)
                try simp only [Act.put, List.setIfInBounds_toArray, List.set_cons_zero, List.set_cons_succ]
                refine wpAnyH_take (i := 12) (v := ?_) (by (try simp only [List.getElem?_toArray, List.getElem?_cons_succ, List.getElem?_cons_zero]); first | done | rfl) (by kernel_rfl) (by kernel_rfl) (by kernel_rfl) (fun _ _ _ h => h) (Or.inl ⟨by rfl, ?_⟩) hHeld ?_
                rotate_left
                · intro w hSw; (try dsimp only at hSw); go_simp; (first | done | with_reducible rfl)
                try simp only [Act.put, List.setIfInBounds_toArray, List.set_cons_zero, List.set_cons_succ]
                refine wpAnyH_take (i := 16) (v := ?_) (by (try simp only [List.getElem?_toArray, List.getElem?_cons_succ, List.getElem?_cons_zero]); first | done | rfl) (by kernel_rfl) (by kernel_rfl) (by kernel_rfl) (fun _ _ _ h => h) (Or.inl ⟨by rfl, ?_⟩) hHeld ?_
                rotate_left
                · intro w hSw; (try dsimp only at hSw); go_simp; (first | done | with_reducible rfl)
                try simp only [Act.put, List.setIfInBounds_toArray, List.set_cons_zero, List.set_cons_succ]
                refine wpAnyH_take (i := 17) (v := ?_) (by (try simp only [List.getElem?_toArray, List.getElem?_cons_succ, List.getElem?_cons_zero]); first | done | rfl) (by kernel_rfl) (by kernel_rfl) (by kernel_rfl) (fun _ _ _ h => h) (Or.inl ⟨by rfl, ?_⟩) hHeld ?_
                rotate_left
                · intro w hSw; (try dsimp only at hSw); go_simp; (first | done | with_reducible rfl)
                try simp only [Act.put, List.setIfInBounds_toArray, List.set_cons_zero, List.set_cons_succ]
                refine wpAnyH_ready (rs := [18]) (by kernel_rfl) (by simp) ?_
                refine AllReadyH.cons (by (try simp only [List.getElem?_toArray, List.getElem?_cons_succ, List.getElem?_cons_zero]); first | done | rfl) (fun K hK => ?_) (AllReadyH.nil)
                · go_simp
                  refine hK.out _ _ ?_ (fun hHeld => ?_)
                  · (try dsimp only); (first | go_keep | exact ⟨by assumption, by assumption, by assumption⟩ | exact ⟨cell_set_far (by assumption) hnew, cell_set_far (by assumption) hnew, cell_set_far (by assumption) hnew⟩)
                  clear hK K
                  try simp only [Act.put, List.setIfInBounds_toArray, List.set_cons_zero, List.set_cons_succ]
                  refine wpAnyH_done (by kernel_rfl) ?_ _
                  refine NoPanic.normal ?_
                  go_wp2_with fail; go_roundw; (case rel => first | exact ⟨k + 1, by omega, by go_num, Lib.hid (blk_store hB.out bl hst.out), bl_set (bl_then hbl bl) (Nat.le_refl _)⟩ | exact ⟨k + 1, by omega, by go_num, Lib.hid ((blk_store hB.out bl hst.out).alloc _), bl_alloc (bl_set (bl_then hbl bl) (Nat.le_refl _)) _⟩); (case measure => simp [intOf]; omega)
          · go_simp
            (go_at_call 46; (with_reducible refine Ret.go (i_FormatInt hi (by omega) (by omega) _ (HP.out.later bl)) ?_); intro c7; (try have hx7 := alloc_cell c7); (try have hx7 := alloc_cell' c7); (try have hy7 := c7.cell hx5); obtain ⟨hfr7, ⟨uu7, huu7⟩, hlw7, hz70, hz71, hz72⟩ := HHH.out c7.val bl)
            refine hK.out _ _ ?_ (fun hHeld => ?_)
            · (try dsimp only); (first | go_keep | exact ⟨by assumption, by assumption, by assumption⟩ | exact ⟨cell_set_far (by assumption) hnew, cell_set_far (by assumption) hnew, cell_set_far (by assumption) hnew⟩)
            clear hK K
            try simp only [Act.put, List.setIfInBounds_toArray, List.set_cons_zero, List.set_cons_succ]
            refine wpAnyH_ready (rs := [6]) (by kernel_rfl) (by simp) ?_
            refine AllReadyH.cons (by (try simp only [List.getElem?_toArray, List.getElem?_cons_succ, List.getElem?_cons_zero]); first | done | rfl) (fun K hK => ?_) (AllReadyH.nil)
            · go_simp
              refine hK.out _ _ ?_ (fun hHeld => ?_)
              · (try dsimp only); (first | go_keep | exact ⟨by assumption, by assumption, by assumption⟩ | exact ⟨cell_set_far (by assumption) hnew, cell_set_far (by assumption) hnew, cell_set_far (by assumption) hnew⟩)
              clear hK K
              try simp only [Act.put, List.setIfInBounds_toArray, List.set_cons_zero, List.set_cons_succ]
              refine wpAnyH_ready (rs := [7]) (by kernel_rfl) (by simp) ?_
              refine AllReadyH.cons (by (try simp only [List.getElem?_toArray, List.getElem?_cons_succ, List.getElem?_cons_zero]); first | done | rfl) (fun K hK => ?_) (AllReadyH.nil)
              · go_simp
                refine hK.out _ _ ?_ (fun hHeld => ?_)
                · (try dsimp only); (first | go_keep | exact ⟨by assumption, by assumption, by assumption⟩ | exact ⟨cell_set_far (by assumption) hnew, cell_set_far (by assumption) hnew, cell_set_far (by assumption) hnew⟩)
                clear hK K
                try simp only [Act.put, List.setIfInBounds_toArray, List.set_cons_zero, List.set_cons_succ]
                refine wpAnyH_take (i := 11) (v := ?_) (by (try simp only [List.getElem?_toArray, List.getElem?_cons_succ, List.getElem?_cons_zero]); first | done | rfl) (by kernel_rfl) (by kernel_rfl) (by kernel_rfl) (fun _ _ _ h => h) (Or.inl ⟨by rfl, ?_⟩) hHeld ?_
                rotate_left
                · intro w hSw; (try dsimp only at hSw); go_simp; (first | done | with_reducible rfl)
                try simp only [Act.put, List.setIfInBounds_toArray, List.set_cons_zero, List.set_cons_succ]
                refine wpAnyH_take (i := 12) (v := ?_) (by (try simp only [List.getElem?_toArray, List.getElem?_cons_succ, List.getElem?_cons_zero]); first | done | rfl) (by kernel_rfl) (by kernel_rfl) (by kernel_rfl) (fun _ _ _ h => h) (Or.inl ⟨by rfl, ?_⟩) hHeld ?_
                rotate_left
                · intro w hSw; (try dsimp only at hSw); go_simp; (first | done | with_reducible rfl)
                try simp only [Act.put, List.setIfInBounds_toArray, List.set_cons_zero, List.set_cons_succ]
                refine wpAnyH_take (i := 16) (v := ?_) (by (try simp only [List.getElem?_toArray, List.getElem?_cons_succ, List.getElem?_cons_zero]); first | done | rfl) (by kernel_rfl) (by kernel_rfl) (by kernel_rfl) (fun _ _ _ h => h) (Or.inl ⟨by rfl, ?_⟩) hHeld ?_
                rotate_left
                · intro w hSw; (try dsimp only at hSw); go_simp; (first | done | with_reducible rfl)
                try simp only [Act.put, List.setIfInBounds_toArray, List.set_cons_zero, List.set_cons_succ]
                refine wpAnyH_take (i := 17) (v := ?_) (by (try simp only [List.getElem?_toArray, List.getElem?_cons_succ, List.getElem?_cons_zero]); first | done | rfl) (by kernel_rfl) (by kernel_rfl) (by kernel_rfl) (fun _ _ _ h => h) (Or.inl ⟨by rfl, ?_⟩) hHeld ?_
                rotate_left
                · intro w hSw; (try dsimp only at hSw); go_simp; (first | done | with_reducible rfl)
                try simp only [Act.put, List.setIfInBounds_toArray, List.set_cons_zero, List.set_cons_succ]
                refine wpAnyH_ready (rs := [18]) (by kernel_rfl) (by simp) ?_
                refine AllReadyH.cons (by (try simp only [List.getElem?_toArray, List.getElem?_cons_succ, List.getElem?_cons_zero]); first | done | rfl) (fun K hK => ?_) (AllReadyH.nil)
                · go_simp
                  refine hK.out _ _ ?_ (fun hHeld => ?_)
                  · (try dsimp only); (first | go_keep | exact ⟨by assumption, by assumption, by assumption⟩ | exact ⟨cell_set_far (by assumption) hnew, cell_set_far (by assumption) hnew, cell_set_far (by assumption) hnew⟩)
                  clear hK K
                  try simp only [Act.put, List.setIfInBounds_toArray, List.set_cons_zero, List.set_cons_succ]
                  refine wpAnyH_done (by kernel_rfl) ?_ _
                  refine NoPanic.normal ?_
                  go_wp2_with fail; go_roundw; (case rel => first | exact ⟨k + 1, by omega, by go_num, Lib.hid (blk_store hB.out bl hst.out), bl_set (bl_then hbl bl) (Nat.le_refl _)⟩ | exact ⟨k + 1, by omega, by go_num, Lib.hid ((blk_store hB.out bl hst.out).alloc _), bl_alloc (bl_set (bl_then hbl bl) (Nat.le_refl _)) _⟩); (case measure => simp [intOf]; omega)
      · obtain rfl : k = n := by omega
        have hrd := rowTo_rd (by rw [List.length_map]; exact HN.out.symm) hB.out
        have hj := strings_Join (some ⟨w.heap.size, 0, none⟩) k (s.map ndTxt) 32 ⟨#[32]⟩ rfl wr hrd (by rw [List.length_map, ← HN.out]; exact Nat.le_refl _) (fun ad h => by cases h; rfl) (by rw [List.length_map, ← HN.out]; omega)
        rw [List.length_map, ← HN.out] at hj
        have HJ := Lib.hid hj; clear hj hrd
        go_wp2_with (go_at_call 82; (with_reducible refine Ret.go HJ.out ?_); intro c2)
        go_ret
        exact ⟨ret_eq (by rw [HLS.out]; rfl), bl_then hbl c2.out⟩
end Go.Proofs.YtmkgiakngjpfpaaDoor

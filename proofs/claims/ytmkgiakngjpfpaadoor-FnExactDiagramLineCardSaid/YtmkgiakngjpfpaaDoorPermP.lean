/- The program's list of orders: all of them, in the order of the reference. No conditions. -/
import Derived.Test.YtmkgiakngjpfpaaDoorPermI
set_option linter.unusedVariables false
set_option linter.unusedSimpArgs false
set_option maxRecDepth 100000
namespace Go.Proofs.YtmkgiakngjpfpaaDoor
open Go.RowKit

theorem info_bools : (Tryd.prog.info? 4).map (fun i => (i.zero, i.size, i.bytes)) = some (some (.bool false), 1, 1) := by kernel_rfl
theorem Blk.newAt {w : World} {cs : Array Value} {t : TypeId} {b : Nat} (h : w.heap.size = b) : Blk (w.alloc (.cells cs t)) b cs t := by subst h; exact Blk.new w cs t
def startW (n : Nat) (w : World) : World :=
  (((((((w.alloc (Obj.cells #[.int .i64 n] 3)).alloc (Obj.cells #[.slice none 0 0] 86)).alloc (Obj.cells (madeCells #[.int .i64 0] n) 3)).alloc (Obj.cells #[.slice (some ⟨w.heap.size + 1 + 1, 0, none⟩) 0 n] 31)).alloc (Obj.cells (madeCells #[.bool false] n) 4)).alloc
    (Obj.cells #[.slice (some ⟨w.heap.size + 1 + 1 + 1 + 1, 0, none⟩) n n] 136)).alloc (Obj.cells #[.func (.func 116) #[] #[.pointer (some ⟨w.heap.size + 1 + 1 + 1, 0, none⟩), .pointer (some ⟨w.heap.size, 0, none⟩), .pointer (some ⟨w.heap.size + 1, 0, none⟩), .pointer (some ⟨w.heap.size + 1 + 1 + 1 + 1 + 1, 0, none⟩), .pointer (some ⟨w.heap.size + 1 + 1 + 1 + 1 + 1 + 1, 0, none⟩)]] 1))
theorem used_none (n : Nat) : usedA n [] = madeCells #[.bool false] n := by
  apply Array.toList_inj.1
  rw [toList_madeCells_one]
  apply List.ext_getElem?
  intro i
  by_cases h : i < n
  · simp [usedA, h, List.getElem?_replicate]
  · simp [usedA, h, List.getElem?_replicate]
theorem start_ok (n : Nat) (w : World) : PSt n w.heap.size (startW n w) [] [] (.slice none 0 0) [] (List.replicate n 0) := by
  have hm := made_cells n
  have hu := used_none n
  unfold startW
  rw [hm, ← hu]
  refine ⟨⟨?_, ?_, ?_, ?_, ?_, ?_, ?_, World.ownsRow_nil _ _ _ _, RowsOf.nil _ _, fun u hu => by simp at hu⟩, by simp, by simp [natI]⟩
  · repeat (first | exact Blk.newAt (by simp) | apply Blk.alloc)
  · repeat (first | exact Blk.newAt (by simp) | apply Blk.alloc)
  · show Blk _ _ (ints (List.replicate n 0)).toArray _
    repeat (first | exact Blk.newAt (by simp) | apply Blk.alloc)
  · repeat (first | exact Blk.newAt (by simp) | apply Blk.alloc)
  · repeat (first | exact Blk.newAt (by simp) | apply Blk.alloc)
  · repeat (first | exact Blk.newAt (by simp) | apply Blk.alloc)
  · repeat (first | exact Blk.newAt (by simp) | apply Blk.alloc)
set_option maxHeartbeats 1600000 in
theorem i_permutations (n : Nat) (hn : n ≤ 4) (w : World) : Calls Tryd.prog 81 #[.int .i64 n] w fun e w' => ∃ v vs, e = .returned v ∧ w'.ownsRow w.heap.size 31 1 v (grow n n []).length vs ∧ RowsOf w' w.heap.size vs (grow n n []) ∧ Below w.heap.size w w' := by
  have hu1 := Tryd.underlying31
  have hu2 := Tryd.underlying136
  have hmf := make_fn
  have hmk1 := fun wx => run_make_room (P := Tryd.prog) 31 3 (.int .i64 0) 8 hu1 info_int rfl .i64 .i64 n (by omega) (by omega) wx
  have hmk2 := fun wx => run_make_row' (P := Tryd.prog) 136 4 (.bool false) 1 hu2 info_bools rfl .i64 .i64 n (by omega) (by omega) wx
  have hsf := fun (a : Addr) (c : Array Value) (w : World) => run_store Tryd.prog w a (.func (.func 116) #[] c) .plain rfl
  go_enter Tryd.func81, Tryd.ntmps81
  have hP := start_ok n w
  have hbl : Below w.heap.size w (startW n w) := by
    unfold startW
    exact bl
  unfold startW at hP hbl
  have hcall := i_grow n w.heap.size hn n [] [] _ _ _ _ (by simp) hP (by have : 4 ^ n ≤ 4 ^ 4 := Nat.pow_le_pow_right (by decide) hn; simp; omega)
  unfold GrowOk growArgs at hcall
  have HC := Lib.hid hcall; clear hcall hP
  have HB := Lib.hid hbl; clear hbl
  go_wp2_with (go_at_call 116; refine HC.out.mono ?_; rintro e w1 ⟨rfl, ⟨vo, vs, lst, h1⟩, hb1⟩; rw [List.nil_append] at h1; obtain ⟨_, c2, _⟩ := h1.core.reads; have H1 := Lib.hid h1; clear h1)
  go_ret
  exact ⟨vo, vs, rfl, own_mono H1.out.core.own (Nat.le_add_right _ 7), H1.out.core.rows.mono (Nat.le_add_right _ 7), HB.out.trans hb1⟩
end Go.Proofs.YtmkgiakngjpfpaaDoor

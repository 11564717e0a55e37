/- Maps whose keys are tables: what a key reads as, and a map that holds where words stand among nodes. No conditions. -/
import Derived.Test.YtmkgiakngjpfpaaDoorBuild
import Derived.DeepKeys5
import Derived.Maps.OwnSet
import Derived.Maps.AppendAt
set_option linter.unusedVariables false
set_option linter.unusedSimpArgs false
set_option maxRecDepth 100000
namespace Go.Proofs.YtmkgiakngjpfpaaDoor
open Go.RowKit Go.Maps

theorem tab_keyed : Keyed Tryd.prog 30 := Keyed.of_law (deep_law_laid (m := 100) (by kernel_rfl) (by decide) (of_decide_eq_true (by kernel_rfl)) (by kernel_rfl) (by kernel_rfl))
theorem key_type : Program.keyType Tryd.prog 30 = true := by kernel_rfl
theorem types_size : ∃ d, Tryd.prog.types.size + 1 = d + 2 := ⟨Tryd.prog.types.size - 1, by have : 1 ≤ Tryd.prog.types.size := of_decide_eq_true (by kernel_rfl); omega⟩
theorem cells_tab : Tryd.prog.cellsOf 30 = 2 ∧ Tryd.prog.cellsOf 3 = 1 := ⟨by kernel_rfl, by kernel_rfl⟩
theorem wf_nat {n : Nat} (h : n < 9223372036854775808) : (Lit.int .i64 n).wf = true := WalkArith.wf_i64 (by omega)
/-- What a table reads as, as a key. -/
def klit (n W : Nat) : Lit := .string (keyBytes [.int .i64 n, .int .i64 W])
theorem key_ok {n W : Nat} (hn : n < 4294967296) (hW : W < 4294967296) : keyOf Tryd.prog 30 (.agg #[.int .i64 n, .int .i64 W]) = some (klit n W) := by
  have hu := Tryd.underlying30
  have hu2 := Tryd.underlying3
  have w0 := wf_nat (n := n) (by omega)
  have w1 := wf_nat (n := W) (by omega)
  obtain ⟨d, hd⟩ := types_size
  obtain ⟨c0, c1⟩ := cells_tab
  have hk := key_type
  unfold keyOf klit
  rw [hu, hd]
  simp [hk, hu2, Value.formed, hu, Program.keyLits, w0, w1, c0, c1, Value.cells]
theorem klit_inj {n V W : Nat} (hn : n < 4294967296) (hV : V < 4294967296) (hW : W < 4294967296) (h : klit n V = klit n W) : V = W := by
  have a := key_ok hn hV
  have b := key_ok hn hW
  rw [h] at a
  have := tab_keyed.inj a b
  have h2 : (V : Int) = W := by simpa using this
  omega
abbrev DU := DataW Unit
/-- The map D holds where the words stand among the nodes s. -/
def MapOk (n : Nat) (D : DU) (s : List Nd) : Prop :=
  (∀ W, W < 4294967296 → has D (klit n W) = (pos W s).isSome) ∧ ∀ (W i : Nat), W < 4294967296 → pos W s = some i → ∀ z, D.atKey (klit n W) z = .lit (.int .i64 i)
theorem MapOk.nil (n : Nat) : MapOk n (.map []) [] := ⟨fun W _ => rfl, fun W i _ h => by simp [pos] at h⟩
theorem MapOk.push {n : Nat} {D : DU} {s : List Nd} (h : MapOk n D s) (hm : IsMap D) (hn : n < 4294967296) (nd : Nd) (hw : nd.word < 4294967296) (hp : pos nd.word s = none) : MapOk n (D.put (klit n nd.word) (.lit (.int .i64 s.length))) (s ++ [nd]) := by
  have hk : WideAt.IsKeyLit (klit n nd.word) := tab_keyed.key (key_ok hn hw)
  constructor
  · intro W hW
    rw [pos_append]
    by_cases e : nd.word = W
    · subst e
      rw [has_put_same hm hk, hp]
      simp
    · rw [has_put_other (fun e2 => e (klit_inj hn hW hw e2).symm), h.1 W hW]
      cases pos W s <;> simp [e]
  · intro W i hW hi z
    rw [pos_append] at hi
    by_cases e : nd.word = W
    · subst e
      rw [atKey_put_same hm hk]
      rw [hp] at hi
      simp at hi
      rw [hi]
    · rw [atKey_put_other (fun e2 => e (klit_inj hn hW hw e2).symm)]
      cases hq : pos W s with
      | none => rw [hq] at hi; simp [e] at hi
      | some j => rw [hq] at hi; simp at hi; rw [← hi]; exact h.2 W j hW hq z
theorem zero_int (w : World) : (zeroValue 3).run Tryd.prog w = .ok (.int .i64 0) w := by kernel_rfl
/-- v, ok := m[f]. -/
theorem run_look {w : World} {M k n W : Nat} {D : DU} {s : List Nd} (ho : w.ownsMap Tryd.prog 30 (plainElem Tryd.prog 3) M k D) (hm : MapOk n D s) (hn : n < 4294967296) (hW : W < 4294967296) :
    (Instr.lookup 99 (.map (some M)) (.agg #[.int .i64 n, .int .i64 W]) true).run Tryd.prog w = .ok (.tuple #[.int .i64 ((pos W s).getD 0 : Nat), .bool (pos W s).isSome]) w := by
  have hw0 : (Lit.int IntKind.i64 0).wf = true := by decide
  obtain ⟨v, ps, hrun, hv⟩ := ho.look_ok tab_keyed Tryd.underlying99 (zero_int w) (plainElem_int Tryd.underlying3 hw0) (key_ok hn hW)
  obtain ⟨c, rfl, hc, hwc⟩ := plainElem_int_inv Tryd.underlying3 hv
  simp only [Prod.mk.injEq] at hc
  rw [hrun, hm.1 W hW]
  have h1 := hc.1
  cases hp : pos W s with
  | some i =>
    rw [hm.2 W i hW hp] at h1
    have h2 : (i : Int) = c := by simpa using h1
    rw [h2.symm]
    rfl
  | none =>
    have hh := hm.1 W hW
    rw [hp] at hh
    rw [atKey_of_not_has hh] at h1
    have h2 : (0 : Int) = c := by simpa using h1
    rw [h2.symm]
    rfl
end Go.Proofs.YtmkgiakngjpfpaaDoor

/-
  A place as a map's key. No conditions.
-/
import Derived.Test.YtelbbfogeimekaaPlcU
import Derived.DeepKeys4
namespace Go.Proofs.Ytelbbfogeimekaa
open Go.RowKit
open Go.Maps (Keyed)

theorem laidU : laidOutB Try.prog = true := by kernel_rfl
theorem wideU : (match Try.prog.underlying 68 with | some (.array _ _) | some (.struct _) => true | _ => false) = true := by rw [Try.underlying68]
theorem lawU : Keyed Try.prog 68 := Keyed.of_law (deep_law_laid laidU (m := 2) (by omega) (of_decide_eq_true (by kernel_rfl)) (by kernel_rfl) wideU)

noncomputable def klitU (g : Int) (k : Int) : Lit := (keyOf Try.prog 68 (.agg #[.int .i64 g, .int .u64 k])).getD (.bool false)

theorem key_genU (P : Program) (t k0 : TypeId) (f0 f1 : Field) (hu : P.underlying t = some (.struct #[f0, f1])) (hs : 0 < P.types.size) (hC : P.cellsOf t = 2) (h1 : P.keyType t = true) (u0 : P.underlying f0.type = some (.int .i64)) (c0 : P.cellsOf f0.type = 1)
    (u1 : P.underlying k0 = some (.int .u64)) (c1 : P.cellsOf k0 = 1) (o0 : f0.offset = 0) (o1 : f1.offset = 1) (t1 : f1.type = k0) (n0 : f0.name ≠ "_") (n1 : f1.name ≠ "_") {g : Int} {k : Int} (hg : (Lit.int .i64 g).wf = true) (hk : (Lit.int .u64 (k)).wf = true) : (keyOf P t (.agg #[.int .i64 g, .int .u64 k])).isSome = true := by
  obtain ⟨m, hm⟩ : ∃ m, P.types.size = m + 1 := ⟨P.types.size - 1, by omega⟩
  unfold keyOf
  rw [hu]
  simp only [h1, Bool.true_and]
  simp [Value.formed, hu, hC, hm, Program.keyLits, Value.cells, c0, c1, u0, u1, o0, o1, t1, n0, n1, hg, hk]

theorem keyU {g : Int} {k : Int} (hg : (Lit.int .i64 g).wf = true) (hk : (Lit.int .u64 (k)).wf = true) : keyOf Try.prog 68 (.agg #[.int .i64 g, .int .u64 k]) = some (klitU g k) := by
  have := key_genU Try.prog 68 22 _ _ Try.underlying68 (of_decide_eq_true (by kernel_rfl)) (by kernel_rfl) (by kernel_rfl) Try.underlying3 (by kernel_rfl) Try.underlying22 (by kernel_rfl) rfl rfl rfl (by decide) (by decide) hg hk
  unfold klitU
  generalize keyOf Try.prog 68 (.agg #[.int .i64 g, .int .u64 k]) = x at this ⊢
  cases x with
  | none => cases this
  | some l => rfl

theorem klitU_inj {g g' : Int} {k k' : Int} (hg : (Lit.int .i64 g).wf = true) (hk : (Lit.int .u64 (k)).wf = true) (hg' : (Lit.int .i64 g').wf = true) (hk' : (Lit.int .u64 (k')).wf = true) (h : klitU g k = klitU g' k') : g = g' ∧ k = k' := by
  have e1 := keyU hg hk
  have e2 := keyU hg' hk'
  rw [← h] at e2
  have := lawU.inj e1 e2
  simpa using this
end Go.Proofs.Ytelbbfogeimekaa

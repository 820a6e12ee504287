/-
  A place as a map's key. No conditions.
-/
import Derived.Test.YtelbbfogeimekaaPlcS
import Derived.DeepKeys4
namespace Go.Proofs.Ytelbbfogeimekaa
open Go.RowKit
open Go.Maps (Keyed)

theorem laidS : laidOutB Try.prog = true := by kernel_rfl
theorem wideS : (match Try.prog.underlying 80 with | some (.array _ _) | some (.struct _) => true | _ => false) = true := by rw [Try.underlying80]
theorem lawS : Keyed Try.prog 80 := Keyed.of_law (deep_law_laid laidS (m := 2) (by omega) (of_decide_eq_true (by kernel_rfl)) (by kernel_rfl) wideS)

noncomputable def klitS (g : Int) (k : ByteArray) : Lit := (keyOf Try.prog 80 (.agg #[.int .i64 g, .string k])).getD (.bool false)

theorem key_genS (P : Program) (t k0 : TypeId) (f0 f1 : Field) (hu : P.underlying t = some (.struct #[f0, f1])) (hs : 0 < P.types.size) (hC : P.cellsOf t = 2) (h1 : P.keyType t = true) (u0 : P.underlying f0.type = some (.int .i64)) (c0 : P.cellsOf f0.type = 1)
    (u1 : P.underlying k0 = some .string) (c1 : P.cellsOf k0 = 1) (o0 : f0.offset = 0) (o1 : f1.offset = 1) (t1 : f1.type = k0) (n0 : f0.name ≠ "_") (n1 : f1.name ≠ "_") {g : Int} {k : ByteArray} (hg : (Lit.int .i64 g).wf = true) (hk : (k).size ≤ maxLen) : (keyOf P t (.agg #[.int .i64 g, .string k])).isSome = true := by
  obtain ⟨m, hm⟩ : ∃ m, P.types.size = m + 1 := ⟨P.types.size - 1, by omega⟩
  unfold keyOf
  rw [hu]
  simp only [h1, Bool.true_and]
  simp [Value.formed, hu, hC, hm, Program.keyLits, Value.cells, c0, c1, u0, u1, o0, o1, t1, n0, n1, hg, hk]

theorem keyS {g : Int} {k : ByteArray} (hg : (Lit.int .i64 g).wf = true) (hk : (k).size ≤ maxLen) : keyOf Try.prog 80 (.agg #[.int .i64 g, .string k]) = some (klitS g k) := by
  have := key_genS Try.prog 80 9 _ _ Try.underlying80 (of_decide_eq_true (by kernel_rfl)) (by kernel_rfl) (by kernel_rfl) Try.underlying3 (by kernel_rfl) Try.underlying9 (by kernel_rfl) rfl rfl rfl (by decide) (by decide) hg hk
  unfold klitS
  generalize keyOf Try.prog 80 (.agg #[.int .i64 g, .string k]) = x at this ⊢
  cases x with
  | none => cases this
  | some l => rfl

theorem klitS_inj {g g' : Int} {k k' : ByteArray} (hg : (Lit.int .i64 g).wf = true) (hk : (k).size ≤ maxLen) (hg' : (Lit.int .i64 g').wf = true) (hk' : (k').size ≤ maxLen) (h : klitS g k = klitS g' k') : g = g' ∧ k = k' := by
  have e1 := keyS hg hk
  have e2 := keyS hg' hk'
  rw [← h] at e2
  have := lawS.inj e1 e2
  simpa using this
end Go.Proofs.Ytelbbfogeimekaa

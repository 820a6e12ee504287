/-
  How a struct of one-cell fields that is handed by value reads, field by field. No program is named here; no conditions.
-/
import Derived.WalkKit
import Derived.ProofKit
import Derived.Deep.Fields
import Derived.ChangeSame
namespace Go.Proofs.Ytehjekcfhmmggaa
open Go.ChangeShapes Go.WideShapes Go.Deep Go.ChangeAt

theorem open_agg_at {H : Type} {enc : TypeId × Value → H} {P : Program} {w : World} {r : Reach} {b0 : Nat} {t : TypeId} {fs : Array Field} {v : Value} {d : DataW H} {p : List MemPlace} (hs : P.underlying t = some (.struct fs)) (hone : oneCellFields P fs = true) (hC : P.cellsOf t = fs.size)
    (hv : Value.okWide P w r b0 t v) (h : DataW.Trod enc P w 0 (fun _ => true) true t v d p) :
    ∃ l : List Value, v = .agg l.toArray ∧ l.length = fs.size ∧ ∀ (i : Nat) (f : Field), fs[i]? = some f → ∃ (c : Value) (y : DataW H × List MemPlace) (n : Nat), l[i]? = some c ∧ DataW.trod enc P w 0 (fun _ => true) true n f.type [c] = some y := by
  obtain ⟨cs, rfl, hsz⟩ := okWide_struct hs hv
  obtain ⟨l⟩ := cs
  rw [hC] at hsz
  refine ⟨l, rfl, by simpa using hsz, fun i f hi => ?_⟩
  obtain ⟨fuel, hf⟩ := h
  obtain ⟨xs, n, _, hx, _, hlen, hg⟩ := DataW.trod_struct hs hf
  obtain ⟨ho, hk⟩ := hone_of hone i f hi
  have hil : i < fs.size := (Array.getElem?_eq_some_iff.1 hi).1
  have hll : i < l.length := by have : l.length = fs.size := by simpa using hsz
                                omega
  have h1 := hg i f hi
  have hcells : (Value.agg l.toArray).cells.toList = l := by simp [Value.cells]
  rw [hcells, ho, hk, List.drop_eq_getElem_cons hll] at h1
  have hys : xs[i]? = some (xs[i]'(by omega)) := List.getElem?_eq_getElem (by omega)
  exact ⟨l[i], xs[i]'(by omega), n, List.getElem?_eq_getElem hll, by rw [hys] at h1; exact h1⟩

theorem list5 {α : Type} (l : List α) (h : l.length = 5) : ∃ a b c d e, l = [a, b, c, d, e] := by
  match l, h with
  | [a, b, c, d, e], _ => exact ⟨a, b, c, d, e, rfl⟩

end Go.Proofs.Ytehjekcfhmmggaa

/-
  How the laws' slices of ints read. No conditions.
-/
import Derived.Test.YtmnomjeiijpinaaLaw0
import Derived.ProofKit
import Derived.SizedLaws
namespace Go.Proofs.Ytmnomjeiijpinaa
open Go.ChangeShapes Go.WideShapes Go.ChangeAt Go.RowKit

theorem open_nums {H : Type} {enc : TypeId × Value → H} {W : World} {t e : TypeId} {k : IntKind} (ht : Try.prog.underlying t = some (.slice e)) (he : Try.prog.underlying e = some (.int k)) (hce : Try.prog.cellsOf e = 1)
    {v : Value} {d : DataW H} {p : List MemPlace} (hv : ∃ a l c, v = .slice a l c) (h : DataW.Trod enc Try.prog W 0 (fun _ => true) true t v d p)
    (hs : ∀ elems spare, d = .slice elems spare → (elems.length + spare.length) * 8 ≤ 140737488351232) : ∃ po pl pc zs, v = .slice po pl pc ∧ Ints W po pl pc k zs := by
  obtain ⟨a0, l0, c0, rfl⟩ := hv
  obtain ⟨fuel, hf⟩ := h
  rcases open_ints ht he hce hf with ⟨hcs, _⟩ | ⟨a, len, cap, zs, hcs, _, hl, hm, hz, hx, hcell, hwz⟩
  · simp [Value.cells] at hcs
    obtain ⟨rfl, rfl, rfl⟩ := hcs
    exact ⟨none, 0, 0, fun _ => 0, rfl, Nat.le_refl _, by omega, fun i hi => absurd hi (by omega)⟩
  · simp [Value.cells] at hcs
    obtain ⟨rfl, rfl, rfl⟩ := hcs
    simp only [Prod.mk.injEq] at hx
    have hs' := hs _ _ hx.1
    simp only [if_true] at hz
    simp only [lits, List.length_map, List.length_take, List.length_drop] at hs'
    refine ⟨_, _, _, fun r => zs.getD r 0, rfl, hl, by omega, fun i hi => ?_⟩
    obtain ⟨b, off, spot⟩ := a
    have h0 := World.cell?_spot (hcell 0 (by omega))
    have e0 : spot = none := by simpa [Addr.add] using h0
    subst e0
    have hc := hcell i (by omega)
    rw [Addr.add_lit] at hc
    refine ⟨b, off, rfl, hc, hwz _ ?_⟩
    simp [List.getD, List.getElem?_eq_getElem (show i < zs.length by omega)]

theorem Try.bytes3 : Try.prog.bytesOf 3 = 8 := by kernel_rfl
theorem Try.bytes32 : Try.prog.bytesOf 32 = 8 := by kernel_rfl
end Go.Proofs.Ytmnomjeiijpinaa

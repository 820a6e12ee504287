/-
  How a slice of structs of one-cell fields reads, cell by cell. No program is named here; no conditions.
-/
import Derived.WalkKit
import Derived.ProofKit
import Derived.Deep.Slices
import Derived.Deep.Fields
import Derived.ChangeSame
namespace Go.Proofs.Ytehjekcfhmmggaa
open Go.ChangeShapes Go.WideShapes Go.Deep

theorem read_structs {H : Type} {enc : TypeId × Value → H} {P : Program} {w : World} {t e : TypeId} {fs : Array Field} {a0 : Option Addr} {l0 c0 : Nat} {d : DataW H} {p : List MemPlace} (ht : P.underlying t = some (.slice e)) (he : P.underlying e = some (.struct fs))
    (hone : oneCellFields P fs = true) (hC : P.cellsOf e = fs.size) (h : DataW.Trod enc P w 0 (fun _ => true) true t (.slice a0 l0 c0) d p) :
    l0 ≤ c0 ∧ c0 ≤ maxLen ∧ (a0 = none → c0 = 0) ∧ (∀ B, (∀ elems spare, d = .slice elems spare → elems.length + spare.length ≤ B) → c0 ≤ B) ∧
      ∀ (i j : Nat) (f : Field), i < l0 → fs[j]? = some f → ∃ (a : Addr) (v : Value) (n : Nat) (y : DataW H × List MemPlace), a0 = some a ∧ w.cell? (a.add (i * fs.size + j)) = some v ∧ DataW.trod enc P w 0 (fun _ => true) true n f.type [v] = some y := by
  obtain ⟨fuel, hf⟩ := h
  rcases open_slice ht hf with ⟨hcs, hx⟩ | ⟨a, len, cap, m, n, D, Pl, hcs, _, hl, hm, hmm, hx, hi⟩
  · simp [Value.cells] at hcs
    obtain ⟨rfl, rfl, rfl⟩ := hcs
    exact ⟨Nat.le_refl _, Nat.zero_le _, fun _ => rfl, fun _ _ => Nat.zero_le _, fun i j f hi => absurd hi (by omega)⟩
  · simp [Value.cells] at hcs
    obtain ⟨rfl, rfl, rfl⟩ := hcs
    simp only [if_true] at hmm
    simp only [Prod.mk.injEq] at hx
    refine ⟨hl, hm, fun e => (by cases e), fun B hB => ?_, fun i j f hil hj => ?_⟩
    · have := hB _ _ hx.1
      simp only [List.length_map, List.length_range] at this
      omega
    · obtain ⟨cs', hc, htr⟩ := hi i (by omega)
      rw [hC] at hc
      obtain ⟨ys, n', _, _, hlen, hyl, hfld⟩ := DataW.trod_struct he htr
      obtain ⟨_, hcl, hat⟩ := World.cells?_some hc
      obtain ⟨ho, hk⟩ := hone_of hone j f hj
      have hjl : j < fs.size := (Array.getElem?_eq_some_iff.1 hj).1
      have h1 := hfld j f hj
      rw [ho, hk, List.drop_eq_getElem_cons (by omega)] at h1
      have hys : ys[j]? = some (ys[j]'(by omega)) := List.getElem?_eq_getElem (by omega)
      refine ⟨a, cs'[j]'(by omega), n', ys[j]'(by omega), rfl, ?_, ?_⟩
      · rw [← Go.Deep.add_add, hat j hjl]
        exact List.getElem?_eq_getElem (by omega)
      · rw [hys] at h1
        exact h1

end Go.Proofs.Ytehjekcfhmmggaa

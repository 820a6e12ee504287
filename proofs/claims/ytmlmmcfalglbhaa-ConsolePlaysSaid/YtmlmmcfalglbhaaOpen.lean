/-
  How the laws' arguments read: slices of slices of bytes, slices of ints. No conditions.
-/
import Derived.Test.YtmlmmcfalglbhaaBackW
import Derived.ProofKit
import Derived.SizedLaws
import Derived.Deep.Matrix
namespace Go.Proofs.Ytmlmmcfalglbhaa
open Go.ChangeShapes Go.WideShapes Go.ChangeAt Go.RowKit Go.Deep

/-- Numbers of the kind uint8 as bytes. -/
def toBytes (zs : List Int) : List UInt8 := zs.map fun n => UInt8.ofNat n.toNat

theorem bv_toBytes (zs : List Int) (h : ∀ n ∈ zs, (Lit.int .u8 n).wf = true) : bv (toBytes zs) = zs.map (Value.int .u8) := by
  unfold bv toBytes
  rw [List.map_map]
  apply List.map_congr_left
  intro n hn
  have := h n hn
  simp [Lit.wf, IntKind.min, IntKind.max, IntKind.signed, IntKind.bits] at this
  simp only [Function.comp]
  congr 1
  have : (UInt8.ofNat n.toNat).toNat = n.toNat := by rw [UInt8.toNat_ofNat']; omega
  rw [this]; omega

theorem src_of_ints {W : World} {ao : Option Addr} {l c : Nat} {Z : List Int} (hl : l ≤ c) (hz : Z.length = c) (hw : ∀ n ∈ Z, (Lit.int .u8 n).wf = true) (hn : ao = none → c = 0) (hc : ∀ a, ao = some a → ∀ j, j < c → W.cell? (a.add j) = some (.int .u8 (Z.getD j 0))) :
    Src W ao (toBytes (Z.take l)) ∧ (toBytes (Z.take l)).length = l := by
  have hlen : (toBytes (Z.take l)).length = l := by unfold toBytes; rw [List.length_map, List.length_take]; omega
  refine ⟨⟨fun e => List.eq_nil_of_length_eq_zero (by rw [hlen]; have := hn e; omega), fun ad had j u hu => ?_⟩, hlen⟩
  rw [bv_toBytes _ (fun n h => hw n (List.mem_of_mem_take h)), List.getElem?_map] at hu
  have hj : j < l := by
    rcases Nat.lt_or_ge j l with h | h
    · exact h
    · rw [List.getElem?_eq_none (by rw [List.length_take]; omega)] at hu
      cases hu
  rw [hc ad had j (by omega)]
  rw [List.getElem?_take, if_pos hj] at hu
  rw [← hu, List.getElem?_eq_getElem (by omega)]
  simp [List.getD, List.getElem?_eq_getElem (show j < Z.length by omega)]

theorem open_pieces {H : Type} {enc : TypeId × Value → H} {W : World} {v : Value} {d : DataW H} {p : List MemPlace} (hv : ∃ a l c, v = .slice a l c) (h : DataW.Trod enc Try.prog W 0 (fun _ => true) true 22 v d p)
    (hs : ∀ elems spare, d = .slice elems spare → (elems.length + spare.length) * 24 ≤ 140737488351232) : ∃ po pl pc ps A C, v = .slice po pl pc ∧ Pieces W po pl pc ps A C := by
  obtain ⟨a0, l0, c0, rfl⟩ := hv
  obtain ⟨fuel, hf⟩ := h
  rcases open_int_rows Try.underlying22 Try.underlying29 Try.underlying5 (by kernel_rfl) (by kernel_rfl) hf with ⟨hcs, _⟩ | ⟨a, len, cap, A, L, C, Z, hcs, _, hl, hm, hx, hr⟩
  · simp [Value.cells] at hcs
    obtain ⟨rfl, rfl, rfl⟩ := hcs
    exact ⟨none, 0, 0, fun _ => [], fun _ => none, fun _ => 0, rfl, Nat.le_refl _, by omega, fun i hi => absurd hi (by omega)⟩
  · simp [Value.cells] at hcs
    obtain ⟨rfl, rfl, rfl⟩ := hcs
    simp only [Prod.mk.injEq] at hx
    have hs' := hs _ _ hx.1
    simp only [List.length_map, List.length_range] at hs'
    refine ⟨_, _, _, fun r => toBytes ((Z r).take (L r)), A, C, rfl, hl, by omega, fun i hi => ?_⟩
    obtain ⟨hc, h1, h2, h3, h4, h5, h6⟩ := hr i (by omega)
    have hsp := World.cell?_spot hc
    have hspot : a.spot = none ∨ True := .inr trivial
    obtain ⟨b, off, spot⟩ := a
    have S := src_of_ints (W := W) h1 h3 h4 h5 (fun a' ha' j hj => (h6 a' ha').2 j hj)
    have h0 := World.cell?_spot (hr 0 (by omega)).1
    have e0 : spot = none := by simpa [Addr.add] using h0
    subst e0
    unfold maxLen at h2
    refine ⟨b, off, rfl, ?_, S.1, by rw [S.2]; exact h1, by omega⟩
    rw [S.2]
    rw [Addr.add_lit] at hc
    exact hc

theorem open_takes {H : Type} {enc : TypeId × Value → H} {W : World} {v : Value} {d : DataW H} {p : List MemPlace} (hv : ∃ a l c, v = .slice a l c) (h : DataW.Trod enc Try.prog W 0 (fun _ => true) true 23 v d p)
    (hs : ∀ elems spare, d = .slice elems spare → (elems.length + spare.length) * 8 ≤ 140737488351232) : ∃ po pl pc zs, v = .slice po pl pc ∧ Takes W po pl pc zs := by
  obtain ⟨a0, l0, c0, rfl⟩ := hv
  obtain ⟨fuel, hf⟩ := h
  rcases open_ints Try.underlying23 Try.underlying3 (by kernel_rfl) hf with ⟨hcs, _⟩ | ⟨a, len, cap, zs, hcs, _, hl, hm, hz, hx, hcell, hwz⟩
  · simp [Value.cells] at hcs
    obtain ⟨rfl, rfl, rfl⟩ := hcs
    exact ⟨none, 0, 0, fun _ => 0, rfl, Nat.le_refl _, by omega, fun i hi => absurd hi (by omega)⟩
  · simp [Value.cells] at hcs
    obtain ⟨rfl, rfl, rfl⟩ := hcs
    simp only [Prod.mk.injEq] at hx
    have hs' := hs _ _ hx.1
    simp only [if_true] at hz
    simp only [lits, List.length_map, List.length_take, List.length_drop] at hs'
    refine ⟨_, _, _, fun r => zs.getD r 0, rfl, hl, by omega, fun i hi => ?_⟩
    obtain ⟨b, off, spot⟩ := a
    have h0 := World.cell?_spot (hcell 0 (by omega))
    have e0 : spot = none := by simpa [Addr.add] using h0
    subst e0
    have hc := hcell i (by omega)
    rw [Addr.add_lit] at hc
    exact ⟨b, off, rfl, hc⟩

theorem Try.bytes29 : Try.prog.bytesOf 29 = 24 := by kernel_rfl
theorem Try.bytes3 : Try.prog.bytesOf 3 = 8 := by kernel_rfl
end Go.Proofs.Ytmlmmcfalglbhaa

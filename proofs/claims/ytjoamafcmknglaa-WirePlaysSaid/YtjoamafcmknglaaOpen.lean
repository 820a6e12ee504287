/-
  How the laws' slices of bytes and of groups read, and the string of a slice of bytes. No conditions.
-/
import Derived.Test.YtjoamafcmknglaaWir5
import Derived.ProofKit
import Derived.SizedLaws
import Derived.Deep.Matrix
namespace Go.Proofs.Ytjoamafcmknglaa
open Go.ChangeShapes Go.WideShapes Go.ChangeAt Go.RowKit Go.Deep

theorem run_conv (w : World) (bo : Option Addr) (xs : List UInt8) (h : Src w bo xs) (l c : Nat) (hl : xs.length = l) : (convert 28 9 (.slice bo l c)).run Try.prog w = .ok (.string ⟨xs.toArray⟩) w := by
  rw [run_convert_bytes_string w 28 9 5 bo l c Try.underlying28 Try.underlying5 Try.underlying9]
  cases bo with
  | none =>
    obtain rfl := h.nil rfl
    simp [Conv.bytesToString]
    rfl
  | some ad =>
    have e : bv xs = (xs.map fun b => (b.toNat : Int)).map (Value.int .u8) := by simp [bv]
    have hl' := run_loadCells_list (P := Try.prog) w ad (bv xs) (h.cells ad rfl)
    have hlen : (bv xs).length = l := by unfold bv; rw [List.length_map, hl]
    rw [hlen, e] at hl'
    rw [run_bytesToString w ad l c _ hl', foldl_push_bytes]
    congr 2
    simp only [List.map_map]
    have : (fun n : Int => UInt8.ofNat n.toNat) ∘ (fun b : UInt8 => (b.toNat : Int)) = id := by
      funext b; simp
    rw [this]
    simp

/-- Numbers of the kind uint8 as bytes. -/
def toBytes (zs : List Int) : List UInt8 := zs.map fun n => UInt8.ofNat n.toNat

theorem bv_toBytes (zs : List Int) (h : ∀ n ∈ zs, (Lit.int .u8 n).wf = true) : bv (toBytes zs) = zs.map (Value.int .u8) := by
  unfold bv toBytes
  rw [List.map_map]
  apply List.map_congr_left
  intro n hn
  have := h n hn
  simp [Lit.wf, IntKind.min, IntKind.max, IntKind.signed, IntKind.bits] at this
  simp only [Function.comp]
  congr 1
  have : (UInt8.ofNat n.toNat).toNat = n.toNat := by rw [UInt8.toNat_ofNat']; omega
  rw [this]; omega

theorem src_of_ints {W : World} {ao : Option Addr} {l c : Nat} {Z : List Int} (hl : l ≤ c) (hz : Z.length = c) (hw : ∀ n ∈ Z, (Lit.int .u8 n).wf = true) (hn : ao = none → c = 0) (hc : ∀ a, ao = some a → ∀ j, j < c → W.cell? (a.add j) = some (.int .u8 (Z.getD j 0))) :
    Src W ao (toBytes (Z.take l)) ∧ (toBytes (Z.take l)).length = l := by
  have hlen : (toBytes (Z.take l)).length = l := by unfold toBytes; rw [List.length_map, List.length_take]; omega
  refine ⟨⟨fun e => List.eq_nil_of_length_eq_zero (by rw [hlen]; have := hn e; omega), fun ad had j u hu => ?_⟩, hlen⟩
  rw [bv_toBytes _ (fun n h => hw n (List.mem_of_mem_take h)), List.getElem?_map] at hu
  have hj : j < l := by
    rcases Nat.lt_or_ge j l with h | h
    · exact h
    · rw [List.getElem?_eq_none (by rw [List.length_take]; omega)] at hu
      cases hu
  rw [hc ad had j (by omega)]
  rw [List.getElem?_take, if_pos hj] at hu
  rw [← hu, List.getElem?_eq_getElem (by omega)]
  simp [List.getD, List.getElem?_eq_getElem (show j < Z.length by omega)]


/-- A slice of bytes that came in. -/
def Bts (W : World) (po : Option Addr) (pl pc : Nat) (b : List UInt8) : Prop :=
  pl ≤ pc ∧ pc ≤ 9223372036854775807 ∧ Src W po b ∧ b.length = pl ∧ (po = none → pc = 0)

theorem open_bytes {H : Type} {enc : TypeId × Value → H} {W : World} {v : Value} {d : DataW H} {p : List MemPlace} (hv : ∃ a l c, v = .slice a l c) (h : DataW.Trod enc Try.prog W 0 (fun _ => true) true 28 v d p) : ∃ po pl pc b, v = .slice po pl pc ∧ Bts W po pl pc b := by
  obtain ⟨a0, l0, c0, rfl⟩ := hv
  obtain ⟨fuel, hf⟩ := h
  rcases open_ints Try.underlying28 Try.underlying5 (by kernel_rfl) hf with ⟨hcs, _⟩ | ⟨a, len, cap, zs, hcs, _, hl, hm, hz, hx, hcell, hwz⟩
  · simp [Value.cells] at hcs
    obtain ⟨rfl, rfl, rfl⟩ := hcs
    exact ⟨none, 0, 0, [], rfl, Nat.le_refl _, by omega, ⟨fun _ => rfl, fun ad had => by cases had⟩, rfl, fun _ => rfl⟩
  · simp [Value.cells] at hcs
    obtain ⟨rfl, rfl, rfl⟩ := hcs
    simp only [if_true] at hz
    unfold maxLen at hm
    have hS := src_of_ints (W := W) (ao := some a) (Z := zs) hl hz hwz (fun e => by cases e) (fun a' ha' j hj => by
      cases ha'
      exact hcell j (by omega))
    exact ⟨_, _, _, _, rfl, hl, by omega, hS.1, hS.2, fun e => by cases e⟩

theorem open_groups {H : Type} {enc : TypeId × Value → H} {W : World} {v : Value} {d : DataW H} {p : List MemPlace} (hv : ∃ a l c, v = .slice a l c) (h : DataW.Trod enc Try.prog W 0 (fun _ => true) true 23 v d p) : ∃ po pl pc zs, v = .slice po pl pc ∧ Grp W po pl pc zs ∧ pl ≤ pc ∧ pc ≤ 9223372036854775807 ∧ (∀ i, i < pl → ∃ b off, po = some ⟨b, off, none⟩ ∧ W.cell? ⟨b, off + i, none⟩ = some (.int .i64 (zs i))) := by
  obtain ⟨a0, l0, c0, rfl⟩ := hv
  obtain ⟨fuel, hf⟩ := h
  rcases open_ints Try.underlying23 Try.underlying3 (by kernel_rfl) hf with ⟨hcs, _⟩ | ⟨a, len, cap, zs, hcs, _, hl, hm, hz, hx, hcell, hwz⟩
  · simp [Value.cells] at hcs
    obtain ⟨rfl, rfl, rfl⟩ := hcs
    exact ⟨none, 0, 0, fun _ => 0, rfl, ⟨fun _ => ⟨rfl, rfl⟩, fun ad had => by cases had⟩, Nat.le_refl _, by omega, fun i hi => absurd hi (by omega)⟩
  · simp [Value.cells] at hcs
    obtain ⟨rfl, rfl, rfl⟩ := hcs
    simp only [if_true] at hz
    unfold maxLen at hm
    refine ⟨_, _, _, fun r => zs.getD r 0, rfl, ⟨fun e => (by cases e), fun ad had j u hu => ?_⟩, hl, by omega, fun i hi => ?_⟩
    · cases had
      unfold zv at hu
      rw [List.getElem?_map] at hu
      have hj : j < l0 := by
        rcases Nat.lt_or_ge j l0 with h | h
        · exact h
        · rw [List.getElem?_eq_none (by rw [List.length_range]; omega)] at hu
          cases hu
      rw [List.getElem?_range hj] at hu
      rw [hcell j (by omega), ← hu]
      simp [List.getD, List.getElem?_eq_getElem (show j < zs.length by omega)]
    · obtain ⟨b, off, spot⟩ := a
      have h0 := World.cell?_spot (hcell 0 (by omega))
      have e0 : spot = none := by simpa [Addr.add] using h0
      subst e0
      have hc := hcell i (by omega)
      rw [Addr.add_lit] at hc
      exact ⟨b, off, rfl, hc⟩
end Go.Proofs.Ytjoamafcmknglaa

/-
  A slice of acts that came in. No conditions.
-/
import Derived.Test.YtjoamafcmknglaaOpen
import Derived.Test.YtjoamafcmknglaaStruct2
namespace Go.Proofs.Ytjoamafcmknglaa
open Go.ChangeShapes Go.WideShapes Go.ChangeAt Go.RowKit Go.Deep

structure ActM where
  kind : Int
  src : Int
  dst : Int
  bo : Option Addr
  bl : Nat
  bc : Nat
  b : List UInt8

instance : Inhabited ActM := ⟨⟨0, 0, 0, none, 0, 0, []⟩⟩

/-- A slice of bytes that came in, within the reach. -/
def Btr (W : World) (po : Option Addr) (pl pc : Nat) (b : List UInt8) : Prop := Bts W po pl pc b ∧ pc ≤ 140737488351232

def Acts (W : World) (po : Option Addr) (pl pc : Nat) (ac : Nat → ActM) : Prop :=
  pl ≤ pc ∧ pc ≤ 9223372036854775807 ∧ ∀ i, i < pl → ∃ b off, po = some ⟨b, off, none⟩ ∧ W.cell? ⟨b, off + i * 4, none⟩ = some (.int .i64 (ac i).kind) ∧ W.cell? ⟨b, off + i * 4 + 1, none⟩ = some (.int .i64 (ac i).src) ∧
    W.cell? ⟨b, off + i * 4 + 2, none⟩ = some (.int .i64 (ac i).dst) ∧ W.cell? ⟨b, off + i * 4 + 3, none⟩ = some (.slice (ac i).bo (ac i).bl (ac i).bc) ∧ Btr W (ac i).bo (ac i).bl (ac i).bc (ac i).b

theorem choose_lt {α : Type} [Inhabited α] {n : Nat} {P : Nat → α → Prop} (h : ∀ i, i < n → ∃ x, P i x) : ∃ f : Nat → α, ∀ i, i < n → P i (f i) := by
  refine ⟨fun i => if hi : i < n then Classical.choose (h i hi) else default, fun i hi => ?_⟩
  simp only [dif_pos hi]
  exact Classical.choose_spec (h i hi)

theorem Try.bytes5 : Try.prog.bytesOf 5 = 1 := by kernel_rfl

theorem open_bytes_in {H : Type} {enc : TypeId × Value → H} {W : World} {v : Value} {n : Nat} {y : DataW H × List MemPlace} (h : DataW.trod enc Try.prog W 0 (fun _ => true) true n 28 [v] = some y) (hs : ∀ k ∈ y.1.weights Try.prog 28, k ≤ 140737488351232) : ∃ po pl pc b, v = .slice po pl pc ∧ Btr W po pl pc b := by
  rcases open_ints Try.underlying28 Try.underlying5 (by kernel_rfl) h with ⟨hcs, _⟩ | ⟨a, len, cap, zs, hcs, _, hl, hm, hz, hx, hcell, hwz⟩
  · simp at hcs
    subst hcs
    exact ⟨none, 0, 0, [], rfl, ⟨Nat.le_refl _, by omega, ⟨fun _ => rfl, fun ad had => by cases had⟩, rfl, fun _ => rfl⟩, by omega⟩
  · simp at hcs
    subst hcs
    simp only [if_true] at hz
    unfold maxLen at hm
    have hw := hs ((((zs.take len).length + (zs.drop len).length)) * Try.prog.bytesOf 5) (by rw [hx]; simp [DataW.weights, Try.underlying28, lits])
    rw [Try.bytes5, List.length_take, List.length_drop] at hw
    have hS := src_of_ints (W := W) (ao := some a) (Z := zs) hl hz hwz (fun e => by cases e) (fun a' ha' j hj => by
      cases ha'
      exact hcell j (by omega))
    exact ⟨_, _, _, _, rfl, ⟨hl, by omega, hS.1, hS.2, fun e => (by cases e)⟩, by omega⟩

theorem open_acts {H : Type} {enc : TypeId × Value → H} {W : World} {v : Value} {d : DataW H} {p : List MemPlace} (hv : ∃ a l c, v = .slice a l c) (h : DataW.Trod enc Try.prog W 0 (fun _ => true) true 22 v d p) (hs : ∀ k ∈ d.weights Try.prog 22, k ≤ 140737488351232) :
    ∃ po pl pc ac, v = .slice po pl pc ∧ Acts W po pl pc ac := by
  obtain ⟨po, pl, pc, rfl⟩ := hv
  obtain ⟨h1, h2, _, hc⟩ := read_structs2 Try.underlying22 Try.underlying30 (by kernel_rfl) (by kernel_rfl) h
  have each : ∀ i, i < pl → ∃ x : ActM, ∃ b off, po = some ⟨b, off, none⟩ ∧ W.cell? ⟨b, off + i * 4, none⟩ = some (.int .i64 x.kind) ∧ W.cell? ⟨b, off + i * 4 + 1, none⟩ = some (.int .i64 x.src) ∧
      W.cell? ⟨b, off + i * 4 + 2, none⟩ = some (.int .i64 x.dst) ∧ W.cell? ⟨b, off + i * 4 + 3, none⟩ = some (.slice x.bo x.bl x.bc) ∧ Btr W x.bo x.bl x.bc x.b := by
    intro i hi
    obtain ⟨a, v0, n0, y0, ha, k0, t0, _⟩ := hc i 0 _ hi rfl
    obtain ⟨a', v1, n1, y1, ha1, k1, t1, _⟩ := hc i 1 _ hi rfl
    obtain rfl : a = a' := by rw [ha] at ha1; exact Option.some.inj ha1
    obtain ⟨a', v2, n2, y2, ha2, k2, t2, _⟩ := hc i 2 _ hi rfl
    obtain rfl : a = a' := by rw [ha] at ha2; exact Option.some.inj ha2
    obtain ⟨a', v3, n3, y3, ha3, k3, t3, q3⟩ := hc i 3 _ hi rfl
    obtain rfl : a = a' := by rw [ha] at ha3; exact Option.some.inj ha3
    obtain ⟨x0, e0, _, _⟩ := DataW.trod_int Try.underlying3 t0
    obtain ⟨x1, e1, _, _⟩ := DataW.trod_int Try.underlying3 t1
    obtain ⟨x2, e2, _, _⟩ := DataW.trod_int Try.underlying3 t2
    obtain ⟨bo, bl, bc, b3, e3, hb⟩ := open_bytes_in t3 (fun k hk => hs k (q3 k hk))
    simp at e0 e1 e2
    subst e0 e1 e2 e3
    obtain ⟨b, off, spot⟩ := a
    have e0 : spot = none := by
      obtain ⟨a', v0', n0', y0', ha', k0', _⟩ := hc 0 0 _ (by omega) rfl
      have := World.cell?_spot k0'
      rw [ha] at ha'
      obtain rfl := Option.some.inj ha'
      simpa [Addr.add] using this
    subst e0
    simp only [Addr.add_lit, List.size_toArray, List.length_cons, List.length_nil, Nat.zero_add, Nat.reduceAdd, Nat.add_zero, ← Nat.add_assoc] at k0 k1 k2 k3
    exact ⟨⟨x0, x1, x2, bo, bl, bc, b3⟩, b, off, ha, k0, k1, k2, k3, hb⟩
  obtain ⟨ac, has⟩ := choose_lt each
  unfold maxLen at h2
  exact ⟨po, pl, pc, ac, rfl, h1, by omega, has⟩
end Go.Proofs.Ytjoamafcmknglaa

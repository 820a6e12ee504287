/-
  A slice of acts that came in. No conditions.
-/
import Derived.Test.YtehjekcfhmmggaaRows
import Derived.Test.YtehjekcfhmmggaaStruct
namespace Go.Proofs.Ytehjekcfhmmggaa
open Go.ChangeShapes Go.WideShapes Go.ChangeAt Go.RowKit Go.Deep

structure Act5 where
  kind : Int
  id : Int
  weight : Int
  core : Int
  n : Int

instance : Inhabited Act5 := ⟨⟨0, 0, 0, 0, 0⟩⟩

def Acts (W : World) (po : Option Addr) (pl pc : Nat) (ac : Nat → Act5) : Prop :=
  pl ≤ pc ∧ pc ≤ 9223372036854775807 ∧ ∀ i, i < pl → ∃ b off, po = some ⟨b, off, none⟩ ∧ W.cell? ⟨b, off + i * 5, none⟩ = some (.int .i64 (ac i).kind) ∧ W.cell? ⟨b, off + i * 5 + 1, none⟩ = some (.int .i64 (ac i).id) ∧
    W.cell? ⟨b, off + i * 5 + 2, none⟩ = some (.int .i64 (ac i).weight) ∧ W.cell? ⟨b, off + i * 5 + 3, none⟩ = some (.int .i64 (ac i).core) ∧ W.cell? ⟨b, off + i * 5 + 4, none⟩ = some (.int .i64 (ac i).n) ∧
    (Lit.int .i64 (ac i).id).wf = true

theorem choose_lt {α : Type} [Inhabited α] {n : Nat} {P : Nat → α → Prop} (h : ∀ i, i < n → ∃ x, P i x) : ∃ f : Nat → α, ∀ i, i < n → P i (f i) := by
  refine ⟨fun i => if hi : i < n then Classical.choose (h i hi) else default, fun i hi => ?_⟩
  simp only [dif_pos hi]
  exact Classical.choose_spec (h i hi)

theorem open_acts {H : Type} {enc : TypeId × Value → H} {W : World} {v : Value} {d : DataW H} {p : List MemPlace} (hv : ∃ a l c, v = .slice a l c) (h : DataW.Trod enc Try.prog W 0 (fun _ => true) true 52 v d p) :
    ∃ po pl pc ac, v = .slice po pl pc ∧ Acts W po pl pc ac := by
  obtain ⟨po, pl, pc, rfl⟩ := hv
  obtain ⟨h1, h2, _, _, hc⟩ := read_structs Try.underlying52 Try.underlying34 (by kernel_rfl) (by kernel_rfl) h
  have each : ∀ i, i < pl → ∃ x : Act5, ∃ b off, po = some ⟨b, off, none⟩ ∧ W.cell? ⟨b, off + i * 5, none⟩ = some (.int .i64 x.kind) ∧ W.cell? ⟨b, off + i * 5 + 1, none⟩ = some (.int .i64 x.id) ∧
      W.cell? ⟨b, off + i * 5 + 2, none⟩ = some (.int .i64 x.weight) ∧ W.cell? ⟨b, off + i * 5 + 3, none⟩ = some (.int .i64 x.core) ∧ W.cell? ⟨b, off + i * 5 + 4, none⟩ = some (.int .i64 x.n) ∧
      (Lit.int .i64 x.id).wf = true := by
    intro i hi
    obtain ⟨a, v0, n0, y0, ha, k0, t0⟩ := hc i 0 _ hi rfl
    obtain ⟨a', v1, n1, y1, ha1, k1, t1⟩ := hc i 1 _ hi rfl
    obtain rfl : a = a' := by rw [ha] at ha1; exact Option.some.inj ha1
    obtain ⟨a', v2, n2, y2, ha2, k2, t2⟩ := hc i 2 _ hi rfl
    obtain rfl : a = a' := by rw [ha] at ha2; exact Option.some.inj ha2
    obtain ⟨a', v3, n3, y3, ha3, k3, t3⟩ := hc i 3 _ hi rfl
    obtain rfl : a = a' := by rw [ha] at ha3; exact Option.some.inj ha3
    obtain ⟨a', v4, n4, y4, ha4, k4, t4⟩ := hc i 4 _ hi rfl
    obtain rfl : a = a' := by rw [ha] at ha4; exact Option.some.inj ha4
    obtain ⟨x0, e0, _, _⟩ := DataW.trod_int Try.underlying3 t0
    obtain ⟨x1, e1, _, u1⟩ := DataW.trod_int Try.underlying3 t1
    obtain ⟨x2, e2, _, _⟩ := DataW.trod_int Try.underlying3 t2
    obtain ⟨x3, e3, _, _⟩ := DataW.trod_int Try.underlying3 t3
    obtain ⟨x4, e4, _, _⟩ := DataW.trod_int Try.underlying3 t4
    simp at e0 e1 e2 e3 e4
    subst e0 e1 e2 e3 e4
    obtain ⟨b, off, spot⟩ := a
    have e0 : spot = none := by
      obtain ⟨a', v0', n0', y0', ha', k0', _⟩ := hc 0 0 _ (by omega) rfl
      have := World.cell?_spot k0'
      rw [ha] at ha'
      obtain rfl := Option.some.inj ha'
      simpa [Addr.add] using this
    subst e0
    simp only [Addr.add_lit, List.size_toArray, List.length_cons, List.length_nil, Nat.zero_add, Nat.reduceAdd, Nat.add_zero, ← Nat.add_assoc] at k0 k1 k2 k3 k4
    exact ⟨⟨x0, x1, x2, x3, x4⟩, b, off, ha, k0, k1, k2, k3, k4, u1⟩
  obtain ⟨ac, has⟩ := choose_lt each
  unfold maxLen at h2
  exact ⟨po, pl, pc, ac, rfl, h1, by omega, has⟩
end Go.Proofs.Ytehjekcfhmmggaa

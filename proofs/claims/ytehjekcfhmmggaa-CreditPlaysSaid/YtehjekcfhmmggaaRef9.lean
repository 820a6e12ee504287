/-
  New on both sides: the reference's, and both where the arguments are out of range. No conditions.
-/
import Derived.Test.YtehjekcfhmmggaaRef8
namespace Go.Proofs.Ytehjekcfhmmggaa
open Go.RowKit

theorem info_queue : ∃ i, Try.prog.info? 49 = some i ∧ i.zero = some (.slice none 0 0) ∧ i.size = 1 ∧ i.bytes = 24 := by
  have h : (Try.prog.info? 49).map (fun i => (i.zero, i.size, i.bytes)) = some (some (.slice none 0 0), 1, 24) := by kernel_rfl
  cases hx : Try.prog.info? 49 with
  | none => rw [hx] at h; cases h
  | some i =>
    rw [hx] at h
    simp only [Option.map_some, Option.some.injEq, Prod.mk.injEq] at h
    exact ⟨i, rfl, h.1, h.2.1, h.2.2⟩

def queueZ : Array Value := #[.slice none 0 0]
theorem queueZ_at (n i : Nat) (hi : i < n) : (madeCells queueZ n)[i]? = some (.slice none 0 0) := by
  unfold madeCells
  rw [Array.getElem?_map, Array.getElem?_range, if_pos (by omega)]
  show some queueZ[i % 1]! = _
  rw [Nat.mod_one]
  rfl

/-- The reference's New. -/
theorem rnew_ok (S : Nat → Prop) (w : World) (n per : Nat) (n1 : 1 ≤ n) (n8 : n ≤ 8) (p1 : 1 ≤ per) (p2 : per ≤ 1048576) (hS : ∀ k, w.heap.size ≤ k → S k) :
    Calls Try.prog 21 #[.int .i64 n, .int .i64 per] w fun e w' => e = .returned (.tuple #[.pointer (some ⟨w.heap.size + 1, 0, none⟩), .int .i64 0]) ∧ Hid (RR S w' (w.heap.size + 1) per n emptyC) ∧ Hid (Fr (fun _ => False) w w') := by
  have HS := hid hS
  clear hS
  obtain ⟨i0, hi0, hz0, hz1, hz2⟩ := info_queue
  have hmk : (Instr.makeSlice 71 (.int .i64 (n : Int)) (.int .i64 (n : Int))).run Try.prog w = .ok (.slice (some ⟨w.heap.size, 0, none⟩) n n) (w.alloc (.cells (madeCells queueZ n) 49)) := by
    have := run_make (P := Try.prog) w 71 49 i0 _ Try.underlying71 hi0 hz0 .i64 .i64 (n : Int) (n : Int) (by omega) (Int.le_refl _) (by rw [hz2]; omega) (by omega)
    rw [hz1, Nat.mul_one] at this
    exact this
  have l1 : ¬ ((n : Int) < 1) := by omega
  have l2 : ¬ ((n : Int) > 8) := by omega
  have l3 : ¬ ((per : Int) < 1) := by omega
  have l4 : ¬ ((per : Int) > 1048576) := by omega
  clear hi0 hz0 hz1 hz2
  go_enter Try.func21, Try.ntmps21
  go_wp2_with fail
  go_ret2
  refine ⟨by first | rfl | simp, ?_, ((Fr.refl _ w).alloc _).alloc _⟩
  have hh := heap2 w (.cells (madeCells queueZ n) 49) (.cells (refC n per ⟨none, 0, w.heap.size, fun _ => none, fun _ => 0⟩ 0 (fun _ => 0)) 75)
  refine ⟨⟨none, 0, w.heap.size, fun _ => none, fun _ => 0⟩, fun _ => 0, ⟨hh.2, ⟨_, hh.1, fun i hi => queueZ_at n i hi⟩, World.ownsRow_nil _ _ _ _, fun i hi => World.ownsRow_nil _ _ _ _, fun i j g _ _ hg => (by cases hg), HS.out _ (by omega), HS.out _ (by show w.heap.size ≤ w.heap.size; omega), fun g hg => (by cases hg), fun i g _ hg => (by cases hg)⟩, fun i hi => ⟨by show (0 : Int) ≤ 0; omega, by show (0 : Int) ≤ 2097152; omega, .inl ⟨by show (0 : Int) < per; omega, rfl⟩⟩⟩

def badN (x y : Int) : Prop := x < 1 ∨ 8 < x ∨ y < 1 ∨ 1048576 < y

theorem rnew_bad (w : World) (x y : Int) (h : badN x y) : Calls Try.prog 21 #[.int .i64 x, .int .i64 y] w fun e w' => e = .returned (.tuple #[.pointer none, .int .i64 2]) ∧ w = w' := by
  by_cases l1 : x < 1
  · clear h
    go_enter Try.func21, Try.ntmps21
    go_wp2_with fail
    go_ret2
    exact ⟨rfl, rfl⟩
  by_cases l2 : x > 8
  · clear h
    go_enter Try.func21, Try.ntmps21
    go_wp2_with fail
    go_ret2
    exact ⟨rfl, rfl⟩
  by_cases l3 : y < 1
  · clear h
    go_enter Try.func21, Try.ntmps21
    go_wp2_with fail
    go_ret2
    exact ⟨rfl, rfl⟩
  have l4 : y > 1048576 := by unfold badN at h; omega
  clear h
  go_enter Try.func21, Try.ntmps21
  go_wp2_with fail
  go_ret2
  exact ⟨rfl, rfl⟩

theorem new_bad (w : World) (x y : Int) (h : badN x y) : Calls Try.prog 8 #[.int .i64 x, .int .i64 y] w fun e w' => e = .returned (.tuple #[.pointer none, .int .i64 2]) ∧ w = w' := by
  by_cases l1 : x < 1
  · clear h
    go_enter Try.func8, Try.ntmps8
    go_wp2_with fail
    go_ret2
    exact ⟨rfl, rfl⟩
  by_cases l2 : x > 8
  · clear h
    go_enter Try.func8, Try.ntmps8
    go_wp2_with fail
    go_ret2
    exact ⟨rfl, rfl⟩
  by_cases l3 : y < 1
  · clear h
    go_enter Try.func8, Try.ntmps8
    go_wp2_with fail
    go_ret2
    exact ⟨rfl, rfl⟩
  have l4 : y > 1048576 := by unfold badN at h; omega
  clear h
  go_enter Try.func8, Try.ntmps8
  go_wp2_with fail
  go_ret2
  exact ⟨rfl, rfl⟩
end Go.Proofs.Ytehjekcfhmmggaa

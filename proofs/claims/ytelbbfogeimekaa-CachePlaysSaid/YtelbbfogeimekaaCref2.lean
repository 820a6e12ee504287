/-
  The reference's New. No conditions.
-/
import Derived.Test.YtelbbfogeimekaaCref
namespace Go.Proofs.Ytelbbfogeimekaa
open Go.RowKit

theorem newref_ok (S : Nat → Prop) (w : World) (room : Nat) (h1 : 1 ≤ room) (h2 : room ≤ 1024) (hS : ∀ k, w.heap.size ≤ k → S k) :
    Calls Try.prog 13 #[.int .i64 room] w fun e w' => e = .returned (.tuple #[.pointer (some ⟨w.heap.size, 0, none⟩), .int .i64 0]) ∧ Hid (REF S w' w.heap.size room []) ∧ Hid (Fr (fun _ => False) w w') := by
  have hS := hid hS
  have l1 : ¬ ((room : Int) < 1) := by omega
  have l2 : ¬ ((room : Int) > 1024) := by omega
  go_enter Try.func13, Try.ntmps13
  go_wp2_with fail
  go_ret2
  refine ⟨by first | rfl | simp, ?_, (Fr.refl _ w).alloc _⟩
  have hb : (w.alloc (.cells #[.int .i64 room, .slice none 0 0] 49)).heap[w.heap.size]? = some (.cells #[.int .i64 room, .slice none 0 0] 49 (0, 0)) := by
    have h := (heap2 w (.cells #[.int .i64 room, .slice none 0 0] 49) (.cells #[] 0)).1
    rwa [Below.heap_alloc _ _ _ (by simp)] at h
  exact ⟨none, 0, hb, Seg.nil _ _ _, fun e => (by cases e), hS.out _ (Nat.le_refl _), fun g e => (by cases e)⟩

theorem newref_bad (w : World) (room : Int) (h : ¬ (1 ≤ room ∧ room ≤ 1024)) :
    Calls Try.prog 13 #[.int .i64 room] w fun e w' => e = .returned (.tuple #[.pointer none, .int .i64 2]) ∧ w = w' := by
  by_cases l1 : room < 1
  · go_enter Try.func13, Try.ntmps13
    go_wp2_with fail
    go_ret2
    exact ⟨rfl, rfl⟩
  · have l2 : room > 1024 := by omega
    clear h
    go_enter Try.func13, Try.ntmps13
    go_wp2_with fail
    go_ret2
    exact ⟨rfl, rfl⟩
end Go.Proofs.Ytelbbfogeimekaa

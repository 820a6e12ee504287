/-
  A cache's New. No conditions.
-/
import Derived.Test.YtelbbfogeimekaaCacGB
namespace Go.Proofs.Ytelbbfogeimekaa
open Go.RowKit

set_option maxHeartbeats 400000 in
theorem new_okB (S : Nat → Prop) (w : World) (room : Nat) (h1 : 1 ≤ room) (h2 : room ≤ 1024) (hS : ∀ k, w.heap.size ≤ k → S k) :
    Calls Try.prog 19 #[.int .i64 room] w fun e w' => e = .returned (.tuple #[.pointer (some ⟨w.heap.size + 1, 0, none⟩), .int .i64 0]) ∧ Hid (CACHEB S w' (w.heap.size + 1) room []) ∧ Hid (Fr (fun _ => False) w w') := by
  have hS := hid hS
  have l1 : ¬ ((room : Int) < 1) := by omega
  have l2 : ¬ ((room : Int) > 1024) := by omega
  have hmm := @run_makeMap
  go_enter Try.func19, Try.ntmps19
  go_wp2_with fail
  go_ret2
  refine ⟨by first | rfl | simp, ?_, ((Fr.refl _ w).alloc _).alloc _⟩
  obtain ⟨a, b⟩ := heap2 w (.map #[] 0) (.cells #[.int .i64 room, .map (some w.heap.size), .slice none 0 0] 78)
  refine ⟨w.heap.size, none, 0, fun _ => none, b, (MAPF_new w Try.prog 80).of_heap (Below.heap_alloc _ _ _ (by simp)), fun _ _ _ _ => rfl, ?_, List.Pairwise.nil, fun e he => (by cases he), h2, ⟨by omega, fun e => (by cases e), fun e => (by cases e)⟩, hS.out _ (by omega), hS.out _ (by omega), fun g e => (by cases e)⟩
  exact World.ownsRow_nil _ _ _ _

set_option maxHeartbeats 400000 in
theorem new_badB (w : World) (room : Int) (h : ¬ (1 ≤ room ∧ room ≤ 1024)) :
    Calls Try.prog 19 #[.int .i64 room] w fun e w' => e = .returned (.tuple #[.pointer none, .int .i64 2]) ∧ w = w' := by
  by_cases l1 : room < 1
  · go_enter Try.func19, Try.ntmps19
    go_wp2_with fail
    go_ret2
    exact ⟨rfl, rfl⟩
  · have l2 : room > 1024 := by omega
    clear h
    go_enter Try.func19, Try.ntmps19
    go_wp2_with fail
    go_ret2
    exact ⟨rfl, rfl⟩
end Go.Proofs.Ytelbbfogeimekaa

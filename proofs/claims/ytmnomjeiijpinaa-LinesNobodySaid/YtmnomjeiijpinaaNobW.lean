/-
  LinesNobody, walked. No conditions.
-/
import Derived.Test.YtmnomjeiijpinaaNob
namespace Go.Proofs.Ytmnomjeiijpinaa
open Go.RowKit Go.Conc

set_option maxHeartbeats 1000000 in
set_option maxRecDepth 100000 in
theorem nobody_walk (kd core ev n : Int) (w : World) :
    Calls Try.prog 4 #[.agg #[.int .i64 kd, .int .i64 core, .int .i64 ev, .int .u64 n]] w fun e w' => e = .returned (.bool true) ∧ Below w.heap.size w w' := by
  go_enter Try.func4, Try.ntmps4
  go_wp2_with fail
  obtain ⟨w3, hw3⟩ : ∃ w3, w3 = (((w.alloc (.cells #[.int .i64 kd, .int .i64 core, .int .i64 ev, .int .u64 n] 34)).alloc (.cells #[.slice none 0 0] 37)).alloc
    (.cells #[.pointer none, .pointer (some ⟨w.heap.size + 1, 0, none⟩)] 23)) := ⟨_, rfl⟩
  have N3 : w3.cell? ⟨w.heap.size, 1, none⟩ = some (.int .i64 core) ∧ w3.cell? ⟨w.heap.size, 2, none⟩ = some (.int .i64 ev) ∧ w3.cell? ⟨w.heap.size, 3, none⟩ = some (.int .u64 n) ∧
      w3.cell? ⟨w.heap.size + 1, 0, none⟩ = some (.slice none 0 0) ∧ w3.cell? ⟨w.heap.size + 1 + 1, 0, none⟩ = some (.pointer none) ∧ w3.cell? ⟨w.heap.size + 1 + 1, 1, none⟩ = some (.pointer (some ⟨w.heap.size + 1, 0, none⟩)) := by
    obtain ⟨h1, h2, h3⟩ := heap3 w (.cells #[.int .i64 kd, .int .i64 core, .int .i64 ev, .int .u64 n] 34) (.cells #[.slice none 0 0] 37) (.cells #[.pointer none, .pointer (some ⟨w.heap.size + 1, 0, none⟩)] 23)
    rw [← hw3] at h1 h2 h3
    exact ⟨cell_at h1, cell_at h1, cell_at h1, cell_at h2, cell_at h3, cell_at h3⟩
  have F3 : Hid (Fr (fun _ => False) w w3) := by rw [hw3]; exact (((Fr.refl _ w).alloc _).alloc _).alloc _
  rw [← hw3]
  clear hw3
  generalize w.heap.size + 1 + 1 = R at N3 ⊢
  generalize w.heap.size + 1 = Z at N3 ⊢
  obtain ⟨A, hA⟩ : ∃ A, A = w.heap.size := ⟨_, rfl⟩
  rw [← hA] at N3 ⊢
  have HA := hid hA
  clear hA
  obtain ⟨a1, a2, a3, z0, r0, r1⟩ := N3
  refine wp_loop_rounds 3 ?_
  rw [rounds_succ]
  go_wp2_with (first
    | (go_at_call 9; refine (send_no _ _ _ _ (of_none _ _ (by first | exact Or.inl rfl | exact Or.inr ⟨_, rfl, by assumption⟩) _) _).mono ?_; rintro e w' ⟨rfl, rfl⟩)
    | (go_at_call 10; refine (waiting_no _ _ _ _ (of_none _ _ (by first | exact Or.inl rfl | exact Or.inr ⟨_, rfl, by assumption⟩) _)).mono ?_; rintro e w' ⟨rfl, rfl⟩)
    | (go_at_call 11; refine (take_no _ _ _ _ (of_none _ _ (by first | exact Or.inl rfl | exact Or.inr ⟨_, rfl, by assumption⟩) _)).mono ?_; rintro e w' ⟨rfl, rfl⟩)
    | (go_at_call 12; refine (tick_no _ _ _ _ (of_none _ _ (by first | exact Or.inl rfl | exact Or.inr ⟨_, rfl, by assumption⟩) _) _).mono ?_; rintro e w' ⟨rfl, rfl⟩)
    | (go_at_call 13; refine (armed_none _ _ _ _ (of_none _ _ (by first | exact Or.inl rfl | exact Or.inr ⟨_, rfl, by assumption⟩) _)).mono ?_; rintro e w' ⟨rfl, rfl⟩)
    | (go_at_call 14; refine (set_no _ _ _ _ (of_none _ _ (by first | exact Or.inl rfl | exact Or.inr ⟨_, rfl, by assumption⟩) _) _).mono ?_; rintro e w' ⟨rfl, rfl⟩)
    | (go_at_call 15; refine (now_no _ _ _ _ (of_none _ _ (by first | exact Or.inl rfl | exact Or.inr ⟨_, rfl, by assumption⟩) _)).mono ?_; rintro e w' ⟨rfl, rfl⟩)
    | fail)
  rw [rounds_succ]
  go_wp2_with (first
    | (go_at_call 9; refine (send_no _ _ _ _ (of_none _ _ (by first | exact Or.inl rfl | exact Or.inr ⟨_, rfl, by assumption⟩) _) _).mono ?_; rintro e w' ⟨rfl, rfl⟩)
    | (go_at_call 10; refine (waiting_no _ _ _ _ (of_none _ _ (by first | exact Or.inl rfl | exact Or.inr ⟨_, rfl, by assumption⟩) _)).mono ?_; rintro e w' ⟨rfl, rfl⟩)
    | (go_at_call 11; refine (take_no _ _ _ _ (of_none _ _ (by first | exact Or.inl rfl | exact Or.inr ⟨_, rfl, by assumption⟩) _)).mono ?_; rintro e w' ⟨rfl, rfl⟩)
    | (go_at_call 12; refine (tick_no _ _ _ _ (of_none _ _ (by first | exact Or.inl rfl | exact Or.inr ⟨_, rfl, by assumption⟩) _) _).mono ?_; rintro e w' ⟨rfl, rfl⟩)
    | (go_at_call 13; refine (armed_none _ _ _ _ (of_none _ _ (by first | exact Or.inl rfl | exact Or.inr ⟨_, rfl, by assumption⟩) _)).mono ?_; rintro e w' ⟨rfl, rfl⟩)
    | (go_at_call 14; refine (set_no _ _ _ _ (of_none _ _ (by first | exact Or.inl rfl | exact Or.inr ⟨_, rfl, by assumption⟩) _) _).mono ?_; rintro e w' ⟨rfl, rfl⟩)
    | (go_at_call 15; refine (now_no _ _ _ _ (of_none _ _ (by first | exact Or.inl rfl | exact Or.inr ⟨_, rfl, by assumption⟩) _)).mono ?_; rintro e w' ⟨rfl, rfl⟩)
    | fail)
  rw [rounds_succ]
  go_wp2
  go_ret
  exact ⟨rfl, F3.out.below (Nat.le_refl _) (fun _ _ h => h)⟩
end Go.Proofs.Ytmnomjeiijpinaa

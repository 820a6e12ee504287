/-
  WireNobody, walked. No conditions.
-/
import Derived.Test.YtjoamafcmknglaaNob
namespace Go.Proofs.Ytjoamafcmknglaa
open Go.RowKit Go.Conc

/-- What the round reads: the act's box, the wire without slices, the two pointers. -/
structure NB (A Z R : Nat) (kd fr to : Int) (bv : Value) (w : World) : Prop where
  a1 : w.cell? ⟨A, 1, none⟩ = some (.int .i64 fr)
  a2 : w.cell? ⟨A, 2, none⟩ = some (.int .i64 to)
  a3 : w.cell? ⟨A, 3, none⟩ = some bv
  z1 : w.cell? ⟨Z, 1, none⟩ = some (.slice none 0 0)
  r0 : w.cell? ⟨R, 0, none⟩ = some (.pointer none)
  r1 : w.cell? ⟨R, 1, none⟩ = some (.pointer (some ⟨Z, 0, none⟩))

theorem NB.alloc {A Z R : Nat} {kd fr to : Int} {bv : Value} {w : World} (h : NB A Z R kd fr to bv w) (o : Obj) : NB A Z R kd fr to bv (w.alloc o) := by
  have k : ∀ {b o' : Nat} {v : Value}, w.cell? ⟨b, o', none⟩ = some v → (w.alloc o).cell? ⟨b, o', none⟩ = some v := fun hc => by
    rw [World.cell?_of_block (Below.heap_alloc w o _ (block_lt_of_cell hc))]; exact hc
  exact ⟨k h.a1, k h.a2, k h.a3, k h.z1, k h.r0, k h.r1⟩

set_option maxHeartbeats 2000000 in
set_option maxRecDepth 100000 in
theorem nobody_walk (kd fr to : Int) (bo : Option Addr) (bl bc : Nat) (w : World) :
    Calls Try.prog 5 #[.agg #[.int .i64 kd, .int .i64 fr, .int .i64 to, .slice bo bl bc]] w fun e w' => e = .returned (.bool true) ∧ Below w.heap.size w w' := by
  go_enter Try.func5, Try.ntmps5
  go_wp2_with fail
  obtain ⟨w3, hw3⟩ : ∃ w3, w3 = (((w.alloc (.cells #[.int .i64 kd, .int .i64 fr, .int .i64 to, .slice bo bl bc] 30)).alloc (.cells #[.slice none 0 0, .slice none 0 0] 42)).alloc
    (.cells #[.pointer none, .pointer (some ⟨w.heap.size + 1, 0, none⟩)] 24)) := ⟨_, rfl⟩
  have N3 : Hid (NB w.heap.size (w.heap.size + 1) (w.heap.size + 1 + 1) kd fr to (.slice bo bl bc) w3) := by
    obtain ⟨h1, h2, h3⟩ := heap3 w (.cells #[.int .i64 kd, .int .i64 fr, .int .i64 to, .slice bo bl bc] 30) (.cells #[.slice none 0 0, .slice none 0 0] 42) (.cells #[.pointer none, .pointer (some ⟨w.heap.size + 1, 0, none⟩)] 24)
    rw [← hw3] at h1 h2 h3
    exact ⟨cell_at h1, cell_at h1, cell_at h1, cell_at h2, cell_at h3, cell_at h3⟩
  have F3 : Hid (Fr (fun _ => False) w w3) := by rw [hw3]; exact (((Fr.refl _ w).alloc _).alloc _).alloc _
  rw [← hw3]
  clear hw3
  generalize w.heap.size + 1 + 1 = R at N3 ⊢
  generalize w.heap.size + 1 = Z at N3 ⊢
  obtain ⟨A, hA⟩ : ∃ A, A = w.heap.size := ⟨_, rfl⟩
  rw [← hA] at N3 ⊢
  have HA := hid hA
  clear hA
  obtain ⟨a1, a2, a3, z0, r0, r1⟩ := N3.out
  refine wp_loop_rounds 3 ?_
  rw [rounds_succ]
  go_wp2_with (first
    | (go_at_call 8; refine (send_none _ _ (by first | exact Or.inl rfl | exact Or.inr ⟨_, rfl, by assumption⟩) _ _ _).mono ?_; rintro e w' ⟨rfl, rfl⟩)
    | (go_at_call 9; refine (receive_nobody _ _ (by first | exact Or.inl rfl | exact Or.inr ⟨_, rfl, by assumption⟩) _).mono ?_; rintro e w5 ⟨rfl, hw5⟩; have N5 := hid ((by rw [hw5]; exact N3.out.alloc _ : NB A Z R kd fr to (.slice bo bl bc) w5).alloc (.cells #[.int .i64 0, .slice none 0 0] 34)); have F5 := hid ((by rw [hw5]; exact F3.out.alloc _ : Fr (fun _ => False) w w5).alloc (.cells #[.int .i64 0, .slice none 0 0] 34)); clear hw5; obtain ⟨p1, p2, p3, p4, p5, p6⟩ := N5.out)
    | (go_at_call 11; refine (inject_none _ _ (by first | exact Or.inl rfl | exact Or.inr ⟨_, rfl, by assumption⟩) _ _).mono ?_; rintro e w' ⟨rfl, rfl⟩)
    | (go_at_call 10; refine (waiting_none _ _ (by first | exact Or.inl rfl | exact Or.inr ⟨_, rfl, by assumption⟩) _).mono ?_; rintro e w' ⟨rfl, rfl⟩)
    | (go_at_call 12; refine (join_none _ _ (by first | exact Or.inl rfl | exact Or.inr ⟨_, rfl, by assumption⟩) _ _).mono ?_; rintro e w' ⟨rfl, rfl⟩)
    | fail)
  clear a1 a2 a3 z0 r0 r1
  rw [rounds_succ]
  go_wp2_with (first
    | (go_at_call 8; refine (send_none _ _ (by first | exact Or.inl rfl | exact Or.inr ⟨_, rfl, by assumption⟩) _ _ _).mono ?_; rintro e w' ⟨rfl, rfl⟩)
    | (go_at_call 9; refine (receive_nobody _ _ (by first | exact Or.inl rfl | exact Or.inr ⟨_, rfl, by assumption⟩) _).mono ?_; rintro e w7 ⟨rfl, hw5⟩; have N7 := hid ((by rw [hw5]; exact N5.out.alloc _ : NB A Z R kd fr to (.slice bo bl bc) w7).alloc (.cells #[.int .i64 0, .slice none 0 0] 34)); have F7 := hid ((by rw [hw5]; exact F5.out.alloc _ : Fr (fun _ => False) w w7).alloc (.cells #[.int .i64 0, .slice none 0 0] 34)); clear hw5; obtain ⟨p1, p2, p3, p4, p5, p6⟩ := N7.out)
    | (go_at_call 11; refine (inject_none _ _ (by first | exact Or.inl rfl | exact Or.inr ⟨_, rfl, by assumption⟩) _ _).mono ?_; rintro e w' ⟨rfl, rfl⟩)
    | (go_at_call 10; refine (waiting_none _ _ (by first | exact Or.inl rfl | exact Or.inr ⟨_, rfl, by assumption⟩) _).mono ?_; rintro e w' ⟨rfl, rfl⟩)
    | (go_at_call 12; refine (join_none _ _ (by first | exact Or.inl rfl | exact Or.inr ⟨_, rfl, by assumption⟩) _ _).mono ?_; rintro e w' ⟨rfl, rfl⟩)
    | fail)
  rw [rounds_succ]
  go_wp2
  go_ret
  rw [HA.out]
  exact ⟨rfl, F7.out.below (Nat.le_refl _) (fun _ _ h => h)⟩
end Go.Proofs.Ytjoamafcmknglaa

/-
  CreditNobody, walked. No conditions.
-/
import Derived.Test.YtehjekcfhmmggaaRows
import Derived.Test.YtehjekcfhmmggaaBase
namespace Go.Proofs.Ytehjekcfhmmggaa
open Go.RowKit

/-- nil, or a scheduler whose map is nil. -/
def NoneP (w : World) (p : Value) : Prop := p = .pointer none ∨ ∃ b, p = .pointer (some ⟨b, 0, none⟩) ∧ w.cell? ⟨b, 2, none⟩ = some (.map none)

set_option maxHeartbeats 400000 in
theorem none_yes (w : World) (p : Value) (h : NoneP w p) : Calls Try.prog 26 #[p] w fun e w' => e = .returned (.bool true) ∧ w = w' := by
  have he : ∀ (w : World) (r : Option Nat), (binOp .eql 36 (.map r) (.map none)).run Try.prog w = .ok (.bool r.isNone) w := fun w r => run_eql_map_nil w _ _ _ r Try.underlying36
  rcases h with rfl | ⟨b, rfl, c0⟩
  · go_enter Try.func26, Try.ntmps26
    go_wp2
    go_ret
    exact ⟨rfl, rfl⟩
  · go_enter Try.func26, Try.ntmps26
    go_wp2
    go_ret
    exact ⟨rfl, rfl⟩

section
variable (w : World) (p : Value) (h : NoneP w p)
include h

set_option maxHeartbeats 400000 in
theorem has_none (k : Value) : Calls Try.prog 27 #[p, k] w fun e w' => e = .returned (.bool false) ∧ w = w' := by
  have HW := hid (none_yes w p h)
  clear h
  go_enter Try.func27, Try.ntmps27
  go_wp2_with (first | (go_at_call 26; refine HW.out.mono ?_; rintro e w' ⟨rfl, rfl⟩) | fail)
  go_ret
  exact ⟨rfl, rfl⟩

set_option maxHeartbeats 400000 in
theorem of_none (k : Value) : Calls Try.prog 29 #[p, k] w fun e w' => e = .returned (.tuple #[.pointer none, .int .i64 1]) ∧ w = w' := by
  have HW := hid (none_yes w p h)
  clear h
  go_enter Try.func29, Try.ntmps29
  go_wp2_with (first | (go_at_call 26; refine HW.out.mono ?_; rintro e w' ⟨rfl, rfl⟩) | fail)
  go_ret2
  exact ⟨rfl, rfl⟩

set_option maxHeartbeats 400000 in
theorem running_none (k : Value) : Calls Try.prog 34 #[p, k] w fun e w' => e = .returned (.tuple #[.pointer none, .int .i64 1]) ∧ w = w' := by
  have HW := hid (none_yes w p h)
  clear h
  go_enter Try.func34, Try.ntmps34
  go_wp2_with (first | (go_at_call 26; refine HW.out.mono ?_; rintro e w' ⟨rfl, rfl⟩) | fail)
  go_ret2
  exact ⟨rfl, rfl⟩

set_option maxHeartbeats 400000 in
theorem pick_none (k : Value) : Calls Try.prog 12 #[p, k] w fun e w' => e = .returned (.tuple #[.int .i64 0, .bool false, .int .i64 1]) ∧ w = w' := by
  have HW := hid (none_yes w p h)
  clear h
  go_enter Try.func12, Try.ntmps12
  go_wp2_with (first | (go_at_call 26; refine HW.out.mono ?_; rintro e w' ⟨rfl, rfl⟩) | fail)
  refine bodyPost_ret (v := .tuple #[.int .i64 0, .bool false, .int .i64 1]) (by simp [results, Try.results12, go_sem]) rfl ?_
  exact ⟨rfl, rfl⟩

set_option maxHeartbeats 400000 in
theorem yield_none (k : Value) : Calls Try.prog 13 #[p, k] w fun e w' => e = .returned (.tuple #[.int .i64 0, .int .i64 1]) ∧ w = w' := by
  have HW := hid (running_none w p h k)
  clear h
  go_enter Try.func13, Try.ntmps13
  go_wp2_with (first | (go_at_call 34; refine HW.out.mono ?_; rintro e w' ⟨rfl, rfl⟩) | fail)
  go_ret2
  exact ⟨rfl, rfl⟩

set_option maxHeartbeats 400000 in
theorem runs_none (k : Value) : Calls Try.prog 14 #[p, k] w fun e w' => e = .returned (.tuple #[.int .i64 0, .bool false]) ∧ w = w' := by
  have HW := hid (running_none w p h k)
  clear h
  go_enter Try.func14, Try.ntmps14
  go_wp2_with (first | (go_at_call 34; refine HW.out.mono ?_; rintro e w' ⟨rfl, rfl⟩) | fail)
  go_ret2
  exact ⟨rfl, rfl⟩

set_option maxHeartbeats 400000 in
theorem add_none (k m c : Value) : Calls Try.prog 9 #[p, k, m, c] w fun e w' => e = .returned (.int .i64 1) ∧ w = w' := by
  have HW := hid (none_yes w p h)
  clear h
  go_enter Try.func9, Try.ntmps9
  go_wp2_with (first | (go_at_call 26; refine HW.out.mono ?_; rintro e w' ⟨rfl, rfl⟩) | fail)
  go_ret
  exact ⟨rfl, rfl⟩

set_option maxHeartbeats 400000 in
theorem remove_none (k : Value) : Calls Try.prog 15 #[p, k] w fun e w' => e = .returned (.int .i64 1) ∧ w = w' := by
  have HW := hid (of_none w p h k)
  clear h
  go_enter Try.func15, Try.ntmps15
  go_wp2_with (first | (go_at_call 29; refine HW.out.mono ?_; rintro e w' ⟨rfl, rfl⟩) | fail)
  go_ret
  exact ⟨rfl, rfl⟩

set_option maxHeartbeats 400000 in
theorem wake_none (k : Value) : Calls Try.prog 16 #[p, k] w fun e w' => e = .returned (.int .i64 1) ∧ w = w' := by
  have HW := hid (of_none w p h k)
  clear h
  go_enter Try.func16, Try.ntmps16
  go_wp2_with (first | (go_at_call 29; refine HW.out.mono ?_; rintro e w' ⟨rfl, rfl⟩) | fail)
  go_ret
  exact ⟨rfl, rfl⟩

set_option maxHeartbeats 400000 in
theorem block_none (k : Value) : Calls Try.prog 17 #[p, k] w fun e w' => e = .returned (.int .i64 1) ∧ w = w' := by
  have HW := hid (of_none w p h k)
  clear h
  go_enter Try.func17, Try.ntmps17
  go_wp2_with (first | (go_at_call 29; refine HW.out.mono ?_; rintro e w' ⟨rfl, rfl⟩) | fail)
  go_ret
  exact ⟨rfl, rfl⟩

set_option maxHeartbeats 400000 in
theorem charge_none (k m : Value) : Calls Try.prog 18 #[p, k, m] w fun e w' => e = .returned (.int .i64 1) ∧ w = w' := by
  have HW := hid (running_none w p h k)
  clear h
  go_enter Try.func18, Try.ntmps18
  go_wp2_with (first | (go_at_call 34; refine HW.out.mono ?_; rintro e w' ⟨rfl, rfl⟩) | fail)
  go_ret
  exact ⟨rfl, rfl⟩

set_option maxHeartbeats 400000 in
theorem over_none (k : Value) : Calls Try.prog 19 #[p, k] w fun e w' => e = .returned (.bool false) ∧ w = w' := by
  have HW := hid (running_none w p h k)
  clear h
  go_enter Try.func19, Try.ntmps19
  go_wp2_with (first | (go_at_call 34; refine HW.out.mono ?_; rintro e w' ⟨rfl, rfl⟩) | fail)
  go_ret
  exact ⟨rfl, rfl⟩

set_option maxHeartbeats 400000 in
theorem refill_none : Calls Try.prog 10 #[p] w fun e w' => e = .returned (.int .i64 1) ∧ w = w' := by
  have HW := hid (none_yes w p h)
  clear h
  go_enter Try.func10, Try.ntmps10
  go_wp2_with (first | (go_at_call 26; refine HW.out.mono ?_; rintro e w' ⟨rfl, rfl⟩) | fail)
  go_ret
  exact ⟨rfl, rfl⟩

set_option maxHeartbeats 400000 in
theorem queue_none (k : Value) : Calls Try.prog 20 #[p, k] w fun e w' => e = .returned (.slice none 0 0) ∧ w = w' := by
  have HW := hid (has_none w p h k)
  clear h
  go_enter Try.func20, Try.ntmps20
  go_wp2_with (first | (go_at_call 27; refine HW.out.mono ?_; rintro e w' ⟨rfl, rfl⟩) | fail)
  go_ret
  exact ⟨rfl, rfl⟩

theorem NoneP.alloc (o : Obj) : NoneP (w.alloc o) p := by
  rcases h with h | ⟨b, h, hc⟩
  · exact .inl h
  · refine .inr ⟨b, h, ?_⟩
    rw [World.cell?_of_block (w := w) (a := ⟨b, 2, none⟩) (Below.heap_alloc _ _ _ (block_lt_of_cell hc))]
    exact hc

set_option maxHeartbeats 400000 in
theorem look_none (k : Value) : Calls Try.prog 11 #[p, k] w fun e w' => e = .returned (.tuple #[.agg #[.int .i64 0, .int .i64 0, .int .i64 0, .int .i64 0], .bool false]) ∧ w' = w.alloc (.cells #[.int .i64 0, .int .i64 0, .int .i64 0, .int .i64 0] 29) := by
  have HW := hid (of_none _ p (NoneP.alloc w p h (.cells #[.int .i64 0, .int .i64 0, .int .i64 0, .int .i64 0] 29)) k)
  clear h
  go_enter Try.func11, Try.ntmps11
  go_wp2_with (go_at_call 29; refine HW.out.mono ?_; rintro e w' ⟨rfl, rfl⟩)
  exact bodyPost_ret (v := .tuple #[.agg #[.int .i64 0, .int .i64 0, .int .i64 0, .int .i64 0], .bool false]) (by simp [results, Try.results11, go_sem]) rfl ⟨rfl, rfl⟩
end

/-- What the round reads: the act's box, the scheduler without a map, the two pointers. -/
structure NB (A Z R : Nat) (id we co n : Int) (w : World) : Prop where
  a1 : w.cell? ⟨A, 1, none⟩ = some (.int .i64 id)
  a2 : w.cell? ⟨A, 2, none⟩ = some (.int .i64 we)
  a3 : w.cell? ⟨A, 3, none⟩ = some (.int .i64 co)
  a4 : w.cell? ⟨A, 4, none⟩ = some (.int .i64 n)
  z1 : w.cell? ⟨Z, 2, none⟩ = some (.map none)
  r0 : w.cell? ⟨R, 0, none⟩ = some (.pointer none)
  r1 : w.cell? ⟨R, 1, none⟩ = some (.pointer (some ⟨Z, 0, none⟩))

theorem NB.alloc {A Z R : Nat} {id we co n : Int} {w : World} (h : NB A Z R id we co n w) (o : Obj) : NB A Z R id we co n (w.alloc o) := by
  have k : ∀ {b o' : Nat} {v : Value}, w.cell? ⟨b, o', none⟩ = some v → (w.alloc o).cell? ⟨b, o', none⟩ = some v := fun hc => by
    rw [World.cell?_of_block (Below.heap_alloc w o _ (block_lt_of_cell hc))]; exact hc
  exact ⟨k h.a1, k h.a2, k h.a3, k h.a4, k h.z1, k h.r0, k h.r1⟩

set_option maxHeartbeats 4000000 in
set_option maxRecDepth 100000 in
theorem nobody_walk (kd id we co n : Int) (w : World) :
    Calls Try.prog 4 #[.agg #[.int .i64 kd, .int .i64 id, .int .i64 we, .int .i64 co, .int .i64 n]] w fun e w' => e = .returned (.bool true) ∧ Below w.heap.size w w' := by
  go_enter Try.func4, Try.ntmps4
  go_wp2_with fail
  obtain ⟨w3, hw3⟩ : ∃ w3, w3 = (((w.alloc (.cells #[.int .i64 kd, .int .i64 id, .int .i64 we, .int .i64 co, .int .i64 n] 34)).alloc (.cells #[.int .i64 0, .slice none 0 0, .map none, .int .i64 0] 38)).alloc
    (.cells #[.pointer none, .pointer (some ⟨w.heap.size + 1, 0, none⟩)] 22)) := ⟨_, rfl⟩
  have N3 : Hid (NB w.heap.size (w.heap.size + 1) (w.heap.size + 1 + 1) id we co n w3) := by
    obtain ⟨h1, h2, h3⟩ := heap3 w (.cells #[.int .i64 kd, .int .i64 id, .int .i64 we, .int .i64 co, .int .i64 n] 34) (.cells #[.int .i64 0, .slice none 0 0, .map none, .int .i64 0] 38) (.cells #[.pointer none, .pointer (some ⟨w.heap.size + 1, 0, none⟩)] 22)
    rw [← hw3] at h1 h2 h3
    exact ⟨cell_at h1, cell_at h1, cell_at h1, cell_at h1, cell_at h2, cell_at h3, cell_at h3⟩
  have F3 : Hid (Fr (fun _ => False) w w3) := by rw [hw3]; exact (((Fr.refl _ w).alloc _).alloc _).alloc _
  rw [← hw3]
  clear hw3
  generalize w.heap.size + 1 + 1 = R at N3 ⊢
  generalize w.heap.size + 1 = Z at N3 ⊢
  obtain ⟨A, hA⟩ : ∃ A, A = w.heap.size := ⟨_, rfl⟩
  rw [← hA] at N3 ⊢
  have HA := hid hA
  clear hA
  obtain ⟨a1, a2, a3, a4, z0, r0, r1⟩ := N3.out
  refine wp_loop_rounds 3 ?_
  rw [rounds_succ]
  go_wp2_with (first
    | (go_at_call 12; refine (pick_none _ _ (by first | exact Or.inl rfl | exact Or.inr ⟨_, rfl, by assumption⟩) _).mono ?_; rintro e w' ⟨rfl, rfl⟩)
    | (go_at_call 13; refine (yield_none _ _ (by first | exact Or.inl rfl | exact Or.inr ⟨_, rfl, by assumption⟩) _).mono ?_; rintro e w' ⟨rfl, rfl⟩)
    | (go_at_call 14; refine (runs_none _ _ (by first | exact Or.inl rfl | exact Or.inr ⟨_, rfl, by assumption⟩) _).mono ?_; rintro e w' ⟨rfl, rfl⟩)
    | (go_at_call 9; refine (add_none _ _ (by first | exact Or.inl rfl | exact Or.inr ⟨_, rfl, by assumption⟩) _ _ _).mono ?_; rintro e w' ⟨rfl, rfl⟩)
    | (go_at_call 15; refine (remove_none _ _ (by first | exact Or.inl rfl | exact Or.inr ⟨_, rfl, by assumption⟩) _).mono ?_; rintro e w' ⟨rfl, rfl⟩)
    | (go_at_call 16; refine (wake_none _ _ (by first | exact Or.inl rfl | exact Or.inr ⟨_, rfl, by assumption⟩) _).mono ?_; rintro e w' ⟨rfl, rfl⟩)
    | (go_at_call 17; refine (block_none _ _ (by first | exact Or.inl rfl | exact Or.inr ⟨_, rfl, by assumption⟩) _).mono ?_; rintro e w' ⟨rfl, rfl⟩)
    | (go_at_call 18; refine (charge_none _ _ (by first | exact Or.inl rfl | exact Or.inr ⟨_, rfl, by assumption⟩) _ _).mono ?_; rintro e w' ⟨rfl, rfl⟩)
    | (go_at_call 19; refine (over_none _ _ (by first | exact Or.inl rfl | exact Or.inr ⟨_, rfl, by assumption⟩) _).mono ?_; rintro e w' ⟨rfl, rfl⟩)
    | (go_at_call 10; refine (refill_none _ _ (by first | exact Or.inl rfl | exact Or.inr ⟨_, rfl, by assumption⟩) ).mono ?_; rintro e w' ⟨rfl, rfl⟩)
    | (go_at_call 20; refine (queue_none _ _ (by first | exact Or.inl rfl | exact Or.inr ⟨_, rfl, by assumption⟩) _).mono ?_; rintro e w' ⟨rfl, rfl⟩)
    | (go_at_call 11; refine (look_none _ _ (by first | exact Or.inl rfl | exact Or.inr ⟨_, rfl, by assumption⟩) _).mono ?_; rintro e w5 ⟨rfl, hw5⟩; have N5 := hid ((by rw [hw5]; exact N3.out.alloc _ : NB A Z R id we co n w5).alloc (.cells #[.int .i64 0, .int .i64 0, .int .i64 0, .int .i64 0] 29)); have F5 := hid ((by rw [hw5]; exact F3.out.alloc _ : Fr (fun _ => False) w w5).alloc (.cells #[.int .i64 0, .int .i64 0, .int .i64 0, .int .i64 0] 29)); clear hw5; obtain ⟨p1, p2, p3, p4, p5, p6, p7⟩ := N5.out)
    | fail)
  clear a1 a2 a3 a4 z0 r0 r1
  rw [rounds_succ]
  go_wp2_with (first
    | (go_at_call 12; refine (pick_none _ _ (by first | exact Or.inl rfl | exact Or.inr ⟨_, rfl, by assumption⟩) _).mono ?_; rintro e w' ⟨rfl, rfl⟩)
    | (go_at_call 13; refine (yield_none _ _ (by first | exact Or.inl rfl | exact Or.inr ⟨_, rfl, by assumption⟩) _).mono ?_; rintro e w' ⟨rfl, rfl⟩)
    | (go_at_call 14; refine (runs_none _ _ (by first | exact Or.inl rfl | exact Or.inr ⟨_, rfl, by assumption⟩) _).mono ?_; rintro e w' ⟨rfl, rfl⟩)
    | (go_at_call 9; refine (add_none _ _ (by first | exact Or.inl rfl | exact Or.inr ⟨_, rfl, by assumption⟩) _ _ _).mono ?_; rintro e w' ⟨rfl, rfl⟩)
    | (go_at_call 15; refine (remove_none _ _ (by first | exact Or.inl rfl | exact Or.inr ⟨_, rfl, by assumption⟩) _).mono ?_; rintro e w' ⟨rfl, rfl⟩)
    | (go_at_call 16; refine (wake_none _ _ (by first | exact Or.inl rfl | exact Or.inr ⟨_, rfl, by assumption⟩) _).mono ?_; rintro e w' ⟨rfl, rfl⟩)
    | (go_at_call 17; refine (block_none _ _ (by first | exact Or.inl rfl | exact Or.inr ⟨_, rfl, by assumption⟩) _).mono ?_; rintro e w' ⟨rfl, rfl⟩)
    | (go_at_call 18; refine (charge_none _ _ (by first | exact Or.inl rfl | exact Or.inr ⟨_, rfl, by assumption⟩) _ _).mono ?_; rintro e w' ⟨rfl, rfl⟩)
    | (go_at_call 19; refine (over_none _ _ (by first | exact Or.inl rfl | exact Or.inr ⟨_, rfl, by assumption⟩) _).mono ?_; rintro e w' ⟨rfl, rfl⟩)
    | (go_at_call 10; refine (refill_none _ _ (by first | exact Or.inl rfl | exact Or.inr ⟨_, rfl, by assumption⟩) ).mono ?_; rintro e w' ⟨rfl, rfl⟩)
    | (go_at_call 20; refine (queue_none _ _ (by first | exact Or.inl rfl | exact Or.inr ⟨_, rfl, by assumption⟩) _).mono ?_; rintro e w' ⟨rfl, rfl⟩)
    | (go_at_call 11; refine (look_none _ _ (by first | exact Or.inl rfl | exact Or.inr ⟨_, rfl, by assumption⟩) _).mono ?_; rintro e w7 ⟨rfl, hw5⟩; have N7 := hid ((by rw [hw5]; exact N5.out.alloc _ : NB A Z R id we co n w7).alloc (.cells #[.int .i64 0, .int .i64 0, .int .i64 0, .int .i64 0] 29)); have F7 := hid ((by rw [hw5]; exact F5.out.alloc _ : Fr (fun _ => False) w w7).alloc (.cells #[.int .i64 0, .int .i64 0, .int .i64 0, .int .i64 0] 29)); clear hw5; obtain ⟨p1, p2, p3, p4, p5, p6, p7⟩ := N7.out)
    | fail)
  rw [rounds_succ]
  go_wp2
  go_ret
  rw [HA.out]
  exact ⟨rfl, F7.out.below (Nat.le_refl _) (fun _ _ h => h)⟩
end Go.Proofs.Ytehjekcfhmmggaa

/-
  CacheNobody, walked. No conditions.
-/
import Derived.Test.YtelbbfogeimekaaRows
import Derived.Test.YtelbbfogeimekaaBase
namespace Go.Proofs.Ytelbbfogeimekaa
open Go.RowKit

/-- nil, or a cache whose map is nil. -/
def NoneP (w : World) (p : Value) : Prop := p = .pointer none ∨ ∃ b, p = .pointer (some ⟨b, 0, none⟩) ∧ w.cell? ⟨b, 1, none⟩ = some (.map none)

set_option maxHeartbeats 400000 in
theorem none_yes (w : World) (p : Value) (h : NoneP w p) : Calls Try.prog 29 #[p] w fun e w' => e = .returned (.bool true) ∧ w = w' := by
  have he : ∀ (w : World) (r : Option Nat), (binOp .eql 26 (.map r) (.map none)).run Try.prog w = .ok (.bool r.isNone) w := fun w r => run_eql_map_nil w _ _ _ r Try.underlying26
  rcases h with rfl | ⟨b, rfl, c0⟩
  · go_enter Try.func29, Try.ntmps29
    go_wp2
    go_ret
    exact ⟨rfl, rfl⟩
  · go_enter Try.func29, Try.ntmps29
    go_wp2
    go_ret
    exact ⟨rfl, rfl⟩

section
variable (w : World) (p : Value) (h : NoneP w p)
include h

set_option maxHeartbeats 400000 in
theorem get_none (g k : Value) : Calls Try.prog 7 #[p, g, k] w fun e w' => e = .returned (.tuple #[.int .i64 0, .bool false]) ∧ w = w' := by
  have HW := hid (none_yes w p h)
  clear h
  go_enter Try.func7, Try.ntmps7
  go_wp2_with (go_at_call 29; refine HW.out.mono ?_; rintro e w' ⟨rfl, rfl⟩)
  go_ret2
  exact ⟨rfl, rfl⟩

set_option maxHeartbeats 400000 in
theorem put_none (g k v : Value) : Calls Try.prog 8 #[p, g, k, v] w fun e w' => e = .returned (.int .i64 1) ∧ w = w' := by
  have HW := hid (none_yes w p h)
  clear h
  go_enter Try.func8, Try.ntmps8
  go_wp2_with (go_at_call 29; refine HW.out.mono ?_; rintro e w' ⟨rfl, rfl⟩)
  go_ret
  exact ⟨rfl, rfl⟩

set_option maxHeartbeats 400000 in
theorem drop_none (g k : Value) : Calls Try.prog 9 #[p, g, k] w fun e w' => e = .returned (.bool false) ∧ w = w' := by
  have HW := hid (get_none w p h g k)
  clear h
  go_enter Try.func9, Try.ntmps9
  go_wp2_with (go_at_call 7; refine HW.out.mono ?_; rintro e w' ⟨rfl, rfl⟩)
  go_ret
  exact ⟨rfl, rfl⟩

set_option maxHeartbeats 400000 in
theorem dropg_none (g : Value) : Calls Try.prog 10 #[p, g] w fun e w' => e = .returned (.int .i64 0) ∧ w = w' := by
  have HW := hid (none_yes w p h)
  clear h
  go_enter Try.func10, Try.ntmps10
  go_wp2_with (go_at_call 29; refine HW.out.mono ?_; rintro e w' ⟨rfl, rfl⟩)
  go_ret
  exact ⟨rfl, rfl⟩

set_option maxHeartbeats 400000 in
theorem len_none : Calls Try.prog 11 #[p] w fun e w' => e = .returned (.int .i64 0) ∧ w = w' := by
  have HW := hid (none_yes w p h)
  clear h
  go_enter Try.func11, Try.ntmps11
  go_wp2_with (go_at_call 29; refine HW.out.mono ?_; rintro e w' ⟨rfl, rfl⟩)
  go_ret
  exact ⟨rfl, rfl⟩
end

set_option maxHeartbeats 2000000 in
set_option maxRecDepth 100000 in
theorem nobody_walk (kd gr ke aq va : Int) (w : World) :
    Calls Try.prog 3 #[.agg #[.int .i64 kd, .int .i64 gr, .int .u64 ke, .int .u64 aq, .int .i64 va]] w fun e w' => e = .returned (.bool true) ∧ Below w.heap.size w w' := by
  go_enter Try.func3, Try.ntmps3
  go_wp2_with fail
  obtain ⟨w3, hw3⟩ : ∃ w3, w3 = (((w.alloc (.cells #[.int .i64 kd, .int .i64 gr, .int .u64 ke, .int .u64 aq, .int .i64 va] 24)).alloc (.cells #[.int .i64 0, .map none, .slice none 0 0] 29)).alloc
    (.cells #[.pointer none, .pointer (some ⟨w.heap.size + 1, 0, none⟩)] 25)) := ⟨_, rfl⟩
  obtain ⟨h1, h2, h3⟩ := heap3 w (.cells #[.int .i64 kd, .int .i64 gr, .int .u64 ke, .int .u64 aq, .int .i64 va] 24) (.cells #[.int .i64 0, .map none, .slice none 0 0] 29) (.cells #[.pointer none, .pointer (some ⟨w.heap.size + 1, 0, none⟩)] 25)
  have F3 : Hid (Fr (fun _ => False) w w3) := by rw [hw3]; exact (((Fr.refl _ w).alloc _).alloc _).alloc _
  rw [← hw3] at h1 h2 h3 ⊢
  have a1 := cell_at (o := 1) h1
  have a2 := cell_at (o := 2) h1
  have a4 := cell_at (o := 4) h1
  have z1 := cell_at (o := 1) h2
  have r0 := cell_at (o := 0) h3
  have r1 := cell_at (o := 1) h3
  simp at a1 a2 a4 z1 r0 r1
  clear hw3 h1 h2 h3
  generalize w.heap.size + 1 + 1 = R at *
  generalize w.heap.size + 1 = Z at *
  obtain ⟨A, hA⟩ : ∃ A, A = w.heap.size := ⟨_, rfl⟩
  rw [← hA] at a1 a2 a4 ⊢
  have HA := hid hA
  clear hA
  refine wp_loop_rounds 3 ?_
  rw [rounds_succ]
  go_wp2_with (first
    | (go_at_call 7; refine (get_none _ _ (by first | exact Or.inl rfl | exact Or.inr ⟨_, rfl, by assumption⟩) _ _).mono ?_; rintro e w' ⟨rfl, rfl⟩)
    | (go_at_call 8; refine (put_none _ _ (by first | exact Or.inl rfl | exact Or.inr ⟨_, rfl, by assumption⟩) _ _ _).mono ?_; rintro e w' ⟨rfl, rfl⟩)
    | (go_at_call 9; refine (drop_none _ _ (by first | exact Or.inl rfl | exact Or.inr ⟨_, rfl, by assumption⟩) _ _).mono ?_; rintro e w' ⟨rfl, rfl⟩)
    | (go_at_call 10; refine (dropg_none _ _ (by first | exact Or.inl rfl | exact Or.inr ⟨_, rfl, by assumption⟩) _).mono ?_; rintro e w' ⟨rfl, rfl⟩)
    | (go_at_call 11; refine (len_none _ _ (by first | exact Or.inl rfl | exact Or.inr ⟨_, rfl, by assumption⟩)).mono ?_; rintro e w' ⟨rfl, rfl⟩)
    | fail)
  rw [rounds_succ]
  go_wp2_with (first
    | (go_at_call 7; refine (get_none _ _ (by first | exact Or.inl rfl | exact Or.inr ⟨_, rfl, by assumption⟩) _ _).mono ?_; rintro e w' ⟨rfl, rfl⟩)
    | (go_at_call 8; refine (put_none _ _ (by first | exact Or.inl rfl | exact Or.inr ⟨_, rfl, by assumption⟩) _ _ _).mono ?_; rintro e w' ⟨rfl, rfl⟩)
    | (go_at_call 9; refine (drop_none _ _ (by first | exact Or.inl rfl | exact Or.inr ⟨_, rfl, by assumption⟩) _ _).mono ?_; rintro e w' ⟨rfl, rfl⟩)
    | (go_at_call 10; refine (dropg_none _ _ (by first | exact Or.inl rfl | exact Or.inr ⟨_, rfl, by assumption⟩) _).mono ?_; rintro e w' ⟨rfl, rfl⟩)
    | (go_at_call 11; refine (len_none _ _ (by first | exact Or.inl rfl | exact Or.inr ⟨_, rfl, by assumption⟩)).mono ?_; rintro e w' ⟨rfl, rfl⟩)
    | fail)
  rw [rounds_succ]
  go_wp2
  go_ret
  rw [HA.out]
  exact ⟨rfl, F3.out.below (Nat.le_refl _) (fun _ _ h => h)⟩
end Go.Proofs.Ytelbbfogeimekaa

/-
  Wires that no call made: what the functions tell then. No conditions.
-/
import Derived.Test.YtjoamafcmknglaaWir5
namespace Go.Proofs.Ytjoamafcmknglaa
open Go.RowKit Go.Conc

/-- nil, or a wire whose slices are nil. -/
def NoneP (w : World) (p : Value) : Prop := p = .pointer none ∨ ∃ b, p = .pointer (some ⟨b, 0, none⟩) ∧ w.cell? ⟨b, 1, none⟩ = some (.slice none 0 0)

set_option maxHeartbeats 400000 in
theorem wrong_none (w : World) (p : Value) (h : NoneP w p) (i : Value) : Calls Try.prog 21 #[p, i] w fun e w' => e = .returned (.int .i64 1) ∧ w = w' := by
  have he := fun (w : World) => Lib.run_eql_slice_nil (P := Try.prog) w 40 66 none 0 0 0 0 Try.underlying40
  rcases h with rfl | ⟨b, rfl, c0⟩
  · go_enter Try.func21, Try.ntmps21
    go_wp2
    go_ret
    exact ⟨rfl, rfl⟩
  · go_enter Try.func21, Try.ntmps21
    go_wp2
    go_ret
    exact ⟨rfl, rfl⟩

section
variable (w : World) (p : Value) (h : NoneP w p)
include h

set_option maxHeartbeats 400000 in
theorem send_none (f t b : Value) : Calls Try.prog 8 #[p, f, t, b] w fun e w' => e = .returned (.tuple #[.int .i64 0, .int .i64 1]) ∧ w = w' := by
  have HW := hid (wrong_none w p h f)
  clear h
  go_enter Try.func8, Try.ntmps8
  go_wp2_with (go_at_call 21; refine HW.out.mono ?_; rintro e w' ⟨rfl, rfl⟩)
  go_ret2
  exact ⟨rfl, rfl⟩

set_option maxHeartbeats 400000 in
theorem inject_none (t b : Value) : Calls Try.prog 11 #[p, t, b] w fun e w' => e = .returned (.int .i64 1) ∧ w = w' := by
  have HW := hid (wrong_none w p h t)
  clear h
  go_enter Try.func11, Try.ntmps11
  go_wp2_with (go_at_call 21; refine HW.out.mono ?_; rintro e w' ⟨rfl, rfl⟩)
  go_ret
  exact ⟨rfl, rfl⟩

set_option maxHeartbeats 400000 in
theorem waiting_none (t : Value) : Calls Try.prog 10 #[p, t] w fun e w' => e = .returned (.int .i64 0) ∧ w = w' := by
  have HW := hid (wrong_none w p h t)
  clear h
  go_enter Try.func10, Try.ntmps10
  go_wp2_with (go_at_call 21; refine HW.out.mono ?_; rintro e w' ⟨rfl, rfl⟩)
  go_ret
  exact ⟨rfl, rfl⟩

set_option maxHeartbeats 400000 in
theorem join_none (t g : Value) : Calls Try.prog 12 #[p, t, g] w fun e w' => e = .returned (.int .i64 1) ∧ w = w' := by
  have HW := hid (wrong_none w p h t)
  clear h
  go_enter Try.func12, Try.ntmps12
  go_wp2_with (go_at_call 21; refine HW.out.mono ?_; rintro e w' ⟨rfl, rfl⟩)
  go_ret
  exact ⟨rfl, rfl⟩

theorem NoneP.alloc (o : Obj) : NoneP (w.alloc o) p := by
  rcases h with h | ⟨b, h, hc⟩
  · exact .inl h
  · refine .inr ⟨b, h, ?_⟩
    rw [World.cell?_of_block (w := w) (a := ⟨b, 1, none⟩) (Below.heap_alloc _ _ _ (block_lt_of_cell hc))]
    exact hc

set_option maxHeartbeats 400000 in
theorem receive_nobody (t : Value) : Calls Try.prog 9 #[p, t] w fun e w' => e = .returned (.tuple #[.agg #[.int .i64 0, .slice none 0 0], .bool false]) ∧ w' = w.alloc (.cells #[.int .i64 0, .slice none 0 0] 34) := by
  have HW := hid (wrong_none _ p (NoneP.alloc w p h (.cells #[.int .i64 0, .slice none 0 0] 34)) t)
  clear h
  go_enter Try.func9, Try.ntmps9
  go_wp2_with (go_at_call 21; refine HW.out.mono ?_; rintro e w' ⟨rfl, rfl⟩)
  exact bodyPost_ret (v := .tuple #[.agg #[.int .i64 0, .slice none 0 0], .bool false]) (by simp [results, Try.results9, go_sem]) rfl ⟨rfl, rfl⟩
end
end Go.Proofs.Ytjoamafcmknglaa

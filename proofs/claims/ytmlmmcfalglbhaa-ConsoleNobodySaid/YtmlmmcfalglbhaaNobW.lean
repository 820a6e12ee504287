/-
  ConsoleNobody, walked: a console that no call made takes nothing. No conditions.
-/
import Derived.Test.YtmlmmcfalglbhaaLaw0
namespace Go.Proofs.Ytmlmmcfalglbhaa
open Go.RowKit

/-- nil, or a console whose 'made' is false. -/
def NoneP (w : World) (p : Value) : Prop := p = .pointer none ∨ ∃ b, p = .pointer (some ⟨b, 0, none⟩) ∧ w.cell? ⟨b, 0, none⟩ = some (.bool false)

theorem NoneP.kept {w w' : World} {p : Value} {T : Nat → Prop} (h : NoneP w p) (hf : Fr T w w') (hT : ∀ k, k < w.heap.size → ¬ T k) : NoneP w' p := by
  rcases h with h | ⟨b, h, hc⟩
  · exact .inl h
  · exact .inr ⟨b, h, (hf.cell (block_lt_of_cell hc) (hT _ (block_lt_of_cell hc))).trans hc⟩

set_option maxHeartbeats 400000 in
theorem none_yes (w : World) (p : Value) (h : NoneP w p) : Calls Try.prog 16 #[p] w fun e w' => e = .returned (.bool true) ∧ w = w' := by
  rcases h with rfl | ⟨b, rfl, c0⟩
  · go_enter Try.func16, Try.ntmps16
    go_wp2
    go_ret
    exact ⟨rfl, rfl⟩
  · go_enter Try.func16, Try.ntmps16
    go_wp2
    go_ret
    exact ⟨rfl, rfl⟩

set_option maxHeartbeats 400000 in
theorem input_none (w : World) (p : Value) (h : NoneP w p) (b : Value) : Calls Try.prog 8 #[p, b] w fun e w' => e = .returned (.tuple #[.int .i64 0, .int .i64 1]) ∧ w = w' := by
  have H := hid h
  clear h
  go_enter Try.func8, Try.ntmps8
  go_wp2_with (go_at_call 16; refine (none_yes _ _ H.out).mono ?_; rintro e w' ⟨rfl, rfl⟩)
  go_ret2
  exact ⟨rfl, rfl⟩

set_option maxHeartbeats 400000 in
theorem write_none (w : World) (p : Value) (h : NoneP w p) (b : Value) : Calls Try.prog 11 #[p, b] w fun e w' => e = .returned (.tuple #[.int .i64 0, .int .i64 1]) ∧ w = w' := by
  have H := hid h
  clear h
  go_enter Try.func11, Try.ntmps11
  go_wp2_with (go_at_call 16; refine (none_yes _ _ H.out).mono ?_; rintro e w' ⟨rfl, rfl⟩)
  go_ret2
  exact ⟨rfl, rfl⟩

set_option maxHeartbeats 400000 in
theorem read_none (w : World) (p : Value) (h : NoneP w p) (n : Value) : Calls Try.prog 9 #[p, n] w fun e w' => e = .returned (.slice none 0 0) ∧ w = w' := by
  have H := hid h
  clear h
  go_enter Try.func9, Try.ntmps9
  go_wp2_with (go_at_call 16; refine (none_yes _ _ H.out).mono ?_; rintro e w' ⟨rfl, rfl⟩)
  go_ret
  exact ⟨rfl, rfl⟩

set_option maxHeartbeats 400000 in
theorem written_none (w : World) (p : Value) (h : NoneP w p) : Calls Try.prog 12 #[p] w fun e w' => e = .returned (.slice none 0 0) ∧ w = w' := by
  have H := hid h
  clear h
  go_enter Try.func12, Try.ntmps12
  go_wp2_with (go_at_call 16; refine (none_yes _ _ H.out).mono ?_; rintro e w' ⟨rfl, rfl⟩)
  go_ret
  exact ⟨rfl, rfl⟩

set_option maxHeartbeats 400000 in
theorem counts_none (w : World) (p : Value) (h : NoneP w p) : Calls Try.prog 10 #[p] w fun e w' => e = .returned (.agg #[.int .i64 0, .int .i64 0, .int .i64 0, .int .i64 0]) ∧ Hid (Fr (fun _ => False) w w') := by
  have H := hid (h.kept ((Fr.refl (fun _ => False) w).alloc (.cells #[.int .i64 0, .int .i64 0, .int .i64 0, .int .i64 0] 32)) (fun _ _ h => h))
  clear h
  go_enter Try.func10, Try.ntmps10
  go_wp2_with (go_at_call 16; refine (none_yes _ _ H.out).mono ?_; rintro e w' ⟨rfl, rfl⟩)
  refine bodyPost_ret (v := .agg #[.int .i64 0, .int .i64 0, .int .i64 0, .int .i64 0]) (by simp [results, Try.results10, go_sem]) rfl ⟨rfl, (Fr.refl _ _).alloc _⟩

/-- The argument's box, the console without a maker, and the two pointers. -/
structure NI (A Z R : Nat) (n bs : Value) (w : World) : Prop where
  a1 : w.cell? ⟨A, 1, none⟩ = some n
  a3 : w.cell? ⟨A, 3, none⟩ = some bs
  z0 : w.cell? ⟨Z, 0, none⟩ = some (.bool false)
  r0 : w.cell? ⟨R, 0, none⟩ = some (.pointer none)
  r1 : w.cell? ⟨R, 1, none⟩ = some (.pointer (some ⟨Z, 0, none⟩))

theorem NI.kept {A Z R : Nat} {n bs : Value} {w w' : World} (h : NI A Z R n bs w) (hf : Fr (fun _ => False) w w') : NI A Z R n bs w' := by
  have k : ∀ {a : Addr} {v : Value}, w.cell? a = some v → w'.cell? a = some v := fun hc => (hf.cell (block_lt_of_cell hc) id).trans hc
  exact ⟨k h.a1, k h.a3, k h.z0, k h.r0, k h.r1⟩

set_option maxHeartbeats 1000000 in
set_option maxRecDepth 100000 in
theorem nobody_walk (k n t : Int) (bo : Option Addr) (bl bc : Nat) (w : World) :
    Calls Try.prog 5 #[.agg #[.int .i64 k, .int .i64 n, .int .i64 t, .slice bo bl bc]] w fun e w' => e = .returned (.bool true) ∧ Below w.heap.size w w' := by
  go_enter Try.func5, Try.ntmps5
  go_wp2_with fail
  obtain ⟨w3, hw3⟩ : ∃ w3, w3 = (((w.alloc (.cells #[.int .i64 k, .int .i64 n, .int .i64 t, .slice bo bl bc] 37)).alloc (.cells #[.bool false, .slice none 0 0, .slice none 0 0, .int .i64 0, .int .i64 0, .int .i64 0, .int .i64 0] 39)).alloc
    (.cells #[.pointer none, .pointer (some ⟨w.heap.size + 1, 0, none⟩)] 24)) := ⟨_, rfl⟩
  have N3 : NI w.heap.size (w.heap.size + 1) (w.heap.size + 1 + 1) (.int .i64 n) (.slice bo bl bc) w3 := by
    obtain ⟨h1, h2, h3⟩ := heap3 w (.cells #[.int .i64 k, .int .i64 n, .int .i64 t, .slice bo bl bc] 37) (.cells #[.bool false, .slice none 0 0, .slice none 0 0, .int .i64 0, .int .i64 0, .int .i64 0, .int .i64 0] 39) (.cells #[.pointer none, .pointer (some ⟨w.heap.size + 1, 0, none⟩)] 24)
    rw [← hw3] at h1 h2 h3
    exact ⟨cell_at h1, cell_at h1, cell_at h2, cell_at h3, cell_at h3⟩
  have F3 : Hid (Fr (fun _ => False) w w3) := by rw [hw3]; exact (((Fr.refl _ w).alloc _).alloc _).alloc _
  rw [← hw3]
  clear hw3
  generalize w.heap.size + 1 + 1 = R at N3 ⊢
  generalize w.heap.size + 1 = Z at N3 ⊢
  obtain ⟨A, hA⟩ : ∃ A, A = w.heap.size := ⟨_, rfl⟩
  rw [← hA] at N3 ⊢
  have HA := hid hA
  clear hA
  have HN3 := hid N3
  obtain ⟨a1, a3, z0, r0, r1⟩ := N3
  refine wp_loop_rounds 3 ?_
  rw [rounds_succ]
  go_wp2_with (first
    | (go_at_call 8; refine (input_none _ _ (by first | exact Or.inl rfl | exact Or.inr ⟨_, rfl, by assumption⟩) _).mono ?_; rintro e w' ⟨rfl, rfl⟩)
    | (go_at_call 11; refine (write_none _ _ (by first | exact Or.inl rfl | exact Or.inr ⟨_, rfl, by assumption⟩) _).mono ?_; rintro e w' ⟨rfl, rfl⟩)
    | (go_at_call 9; refine (read_none _ _ (by first | exact Or.inl rfl | exact Or.inr ⟨_, rfl, by assumption⟩) _).mono ?_; rintro e w' ⟨rfl, rfl⟩)
    | (go_at_call 12; refine (written_none _ _ (by first | exact Or.inl rfl | exact Or.inr ⟨_, rfl, by assumption⟩)).mono ?_; rintro e w' ⟨rfl, rfl⟩)
    | (go_at_call 10; refine (counts_none _ _ (by first | exact Or.inl rfl | exact Or.inr ⟨_, rfl, by assumption⟩)).mono ?_; rintro e w4 ⟨rfl, F4⟩; have HN4 := hid (HN3.out.kept F4.out); obtain ⟨b1, b3, y0, s0, s1⟩ := HN4.out))
  rw [rounds_succ]
  go_wp2_with (first
    | (go_at_call 8; refine (input_none _ _ (by first | exact Or.inl rfl | exact Or.inr ⟨_, rfl, by assumption⟩) _).mono ?_; rintro e w' ⟨rfl, rfl⟩)
    | (go_at_call 11; refine (write_none _ _ (by first | exact Or.inl rfl | exact Or.inr ⟨_, rfl, by assumption⟩) _).mono ?_; rintro e w' ⟨rfl, rfl⟩)
    | (go_at_call 9; refine (read_none _ _ (by first | exact Or.inl rfl | exact Or.inr ⟨_, rfl, by assumption⟩) _).mono ?_; rintro e w' ⟨rfl, rfl⟩)
    | (go_at_call 12; refine (written_none _ _ (by first | exact Or.inl rfl | exact Or.inr ⟨_, rfl, by assumption⟩)).mono ?_; rintro e w' ⟨rfl, rfl⟩)
    | (go_at_call 10; refine (counts_none _ _ (by first | exact Or.inl rfl | exact Or.inr ⟨_, rfl, by assumption⟩)).mono ?_; rintro e w5 ⟨rfl, F5⟩; have HN5 := hid (HN4.out.kept F5.out); obtain ⟨b1, b3, y0, s0, s1⟩ := HN5.out))
  rw [rounds_succ]
  go_wp2
  go_ret
  exact ⟨rfl, ((F3.out.trans F4.out).trans F5.out).below (Nat.le_refl _) (fun _ _ h => h)⟩
end Go.Proofs.Ytmlmmcfalglbhaa

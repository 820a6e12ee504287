/-
  Lines that no call made, and cores that are not there: what the functions tell then. No conditions.
-/
import Derived.Test.YtmnomjeiijpinaaLaw0
namespace Go.Proofs.Ytmnomjeiijpinaa
open Go.RowKit Go.Conc

/-- nil, or lines whose slice is nil. -/
def NoneP (w : World) (p : Value) : Prop := p = .pointer none ∨ ∃ b, p = .pointer (some ⟨b, 0, none⟩) ∧ w.cell? ⟨b, 0, none⟩ = some (.slice none 0 0)

/-- There is no such core: the code. -/
def NoCore (w : World) (p i : Value) (K : Int) : Prop := (K = 1 ∨ K = 2) ∧ Calls Try.prog 23 #[p, i] w fun e w' => e = .returned (.tuple #[.pointer none, .int .i64 K]) ∧ w = w'

set_option maxHeartbeats 400000 in
theorem of_none (w : World) (p : Value) (h : NoneP w p) (i : Int) : NoCore w p (.int .i64 i) 1 := by
  refine ⟨.inl rfl, ?_⟩
  have he := fun (w : World) => Lib.run_eql_slice_nil (P := Try.prog) w 35 65 none 0 0 0 0 Try.underlying35
  rcases h with rfl | ⟨b, rfl, c0⟩
  · go_enter Try.func23, Try.ntmps23
    go_wp2
    go_ret2
    exact ⟨rfl, rfl⟩
  · go_enter Try.func23, Try.ntmps23
    go_wp2
    go_ret2
    exact ⟨rfl, rfl⟩

theorem LIN.no {W w : World} {n : Nat} {st : Nat → LC} (h : LIN W w n st) (h1 : 1 ≤ n) (h8 : n ≤ 8) (i : Int) (hi : i < 0 ∨ (n : Int) ≤ i) : NoCore w (.pointer (some ⟨W.heap.size, 0, none⟩)) (.int .i64 i) 2 := by
  obtain ⟨sa, cap, cb, ch, hL, hB, hF⟩ := h
  obtain ⟨g, rfl, _⟩ := hL.ptr (show 0 < n by omega)
  have c0 := cell_at (o := 0) hL.l
  simp at c0
  exact ⟨.inr rfl, of_bad w W.heap.size ⟨g, 0, none⟩ cap n c0 h8 i hi⟩

section
variable (w : World) (p i : Value) (K : Int) (h : NoCore w p i K)
include h

set_option maxHeartbeats 400000 in
theorem send_no (x : Value) : Calls Try.prog 9 #[p, i, x] w fun e w' => e = .returned (.int .i64 K) ∧ w = w' := by
  obtain ⟨hK, ho⟩ := h
  have k1 : (K == 0) = false := by rcases hK with rfl | rfl <;> rfl
  have k2 : (K != 0) = true := by rcases hK with rfl | rfl <;> rfl
  have Ho := hid ho
  clear hK ho
  go_enter Try.func9, Try.ntmps9
  go_wp2_with (go_at_call 23; refine Ho.out.mono ?_; rintro e w' ⟨rfl, rfl⟩)
  go_ret
  exact ⟨rfl, rfl⟩

set_option maxHeartbeats 400000 in
theorem waiting_no  : Calls Try.prog 10 #[p, i] w fun e w' => e = .returned (.int .i64 0) ∧ w = w' := by
  obtain ⟨hK, ho⟩ := h
  have k1 : (K == 0) = false := by rcases hK with rfl | rfl <;> rfl
  have k2 : (K != 0) = true := by rcases hK with rfl | rfl <;> rfl
  have Ho := hid ho
  clear hK ho
  go_enter Try.func10, Try.ntmps10
  go_wp2_with (go_at_call 23; refine Ho.out.mono ?_; rintro e w' ⟨rfl, rfl⟩)
  go_ret
  exact ⟨rfl, rfl⟩

set_option maxHeartbeats 400000 in
theorem take_no  : Calls Try.prog 11 #[p, i] w fun e w' => e = .returned (.tuple #[.int .i64 0, .bool false]) ∧ w = w' := by
  obtain ⟨hK, ho⟩ := h
  have k1 : (K == 0) = false := by rcases hK with rfl | rfl <;> rfl
  have k2 : (K != 0) = true := by rcases hK with rfl | rfl <;> rfl
  have Ho := hid ho
  clear hK ho
  go_enter Try.func11, Try.ntmps11
  go_wp2_with (go_at_call 23; refine Ho.out.mono ?_; rintro e w' ⟨rfl, rfl⟩)
  go_ret2
  exact ⟨rfl, rfl⟩

set_option maxHeartbeats 400000 in
theorem tick_no (x : Value) : Calls Try.prog 12 #[p, i, x] w fun e w' => e = .returned (.tuple #[.bool false, .int .i64 K]) ∧ w = w' := by
  obtain ⟨hK, ho⟩ := h
  have k1 : (K == 0) = false := by rcases hK with rfl | rfl <;> rfl
  have k2 : (K != 0) = true := by rcases hK with rfl | rfl <;> rfl
  have Ho := hid ho
  clear hK ho
  go_enter Try.func12, Try.ntmps12
  go_wp2_with (go_at_call 23; refine Ho.out.mono ?_; rintro e w' ⟨rfl, rfl⟩)
  go_ret2
  exact ⟨rfl, rfl⟩

set_option maxHeartbeats 400000 in
theorem armed_none  : Calls Try.prog 13 #[p, i] w fun e w' => e = .returned (.tuple #[.int .u64 0, .bool false]) ∧ w = w' := by
  obtain ⟨hK, ho⟩ := h
  have k1 : (K == 0) = false := by rcases hK with rfl | rfl <;> rfl
  have k2 : (K != 0) = true := by rcases hK with rfl | rfl <;> rfl
  have Ho := hid ho
  clear hK ho
  go_enter Try.func13, Try.ntmps13
  go_wp2_with (go_at_call 23; refine Ho.out.mono ?_; rintro e w' ⟨rfl, rfl⟩)
  go_ret2
  exact ⟨rfl, rfl⟩

set_option maxHeartbeats 400000 in
theorem set_no (x : Value) : Calls Try.prog 14 #[p, i, x] w fun e w' => e = .returned (.int .i64 K) ∧ w = w' := by
  obtain ⟨hK, ho⟩ := h
  have k1 : (K == 0) = false := by rcases hK with rfl | rfl <;> rfl
  have k2 : (K != 0) = true := by rcases hK with rfl | rfl <;> rfl
  have Ho := hid ho
  clear hK ho
  go_enter Try.func14, Try.ntmps14
  go_wp2_with (go_at_call 23; refine Ho.out.mono ?_; rintro e w' ⟨rfl, rfl⟩)
  go_ret
  exact ⟨rfl, rfl⟩

set_option maxHeartbeats 400000 in
theorem now_no  : Calls Try.prog 15 #[p, i] w fun e w' => e = .returned (.int .u64 0) ∧ w = w' := by
  obtain ⟨hK, ho⟩ := h
  have k1 : (K == 0) = false := by rcases hK with rfl | rfl <;> rfl
  have k2 : (K != 0) = true := by rcases hK with rfl | rfl <;> rfl
  have Ho := hid ho
  clear hK ho
  go_enter Try.func15, Try.ntmps15
  go_wp2_with (go_at_call 23; refine Ho.out.mono ?_; rintro e w' ⟨rfl, rfl⟩)
  go_ret
  exact ⟨rfl, rfl⟩

end
end Go.Proofs.Ytmnomjeiijpinaa

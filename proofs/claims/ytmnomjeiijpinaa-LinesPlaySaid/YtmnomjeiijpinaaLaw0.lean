/-
  Lines as an object of the law's own, and the contracts over them. No conditions.
-/
import Derived.Test.YtmnomjeiijpinaaLin3
namespace Go.Proofs.Ytmnomjeiijpinaa
open Go.RowKit Go.Conc

/-- Lines at the first block behind W, all theirs behind W. -/
def LIN (W w : World) (n : Nat) (st : Nat → LC) : Prop :=
  ∃ sa cap cb ch, LAt w W.heap.size sa cap cb ch n st ∧ (∀ i, i < n → W.heap.size ≤ cb i ∧ W.heap.size ≤ ch i) ∧ Fr (fun k => W.heap.size ≤ k) W w

theorem LIN.of_new {W w : World} {n : Nat} (h : NewI W n (.int .i64 n) w) : LIN W w n (fun _ => lc0) := by
  obtain ⟨k, sa, cap, cb, ch, hk, e, hL, hF, hB, _⟩ := h
  have : k = n := by simp at e; omega
  subst this
  exact ⟨sa, cap, cb, ch, hL, hB, hF⟩

theorem LIN.fr {W w : World} {n : Nat} {st : Nat → LC} (h : LIN W w n st) : Fr (fun k => W.heap.size ≤ k) W w := by
  obtain ⟨_, _, _, _, _, _, h⟩ := h
  exact h
theorem LIN.below {W w : World} {n : Nat} {st : Nat → LC} (h : LIN W w n st) : Below W.heap.size W w := h.fr.below (Nat.le_refl _) (fun _ hk h => Nat.not_le_of_lt hk h)
theorem LIN.cell {W w : World} {n : Nat} {st : Nat → LC} (h : LIN W w n st) {p : Addr} {v : Value} (hc : W.cell? p = some v) : w.cell? p = some v :=
  (h.fr.cell (block_lt_of_cell hc) (Nat.not_le_of_lt (block_lt_of_cell hc))).trans hc

/-- Another call behind which the lines are the lines. -/
theorem LIN.kept {W w w' : World} {n : Nat} {st : Nat → LC} (h : LIN W w n st) {T : Nat → Prop} (hf : Fr T w w') (hT : ∀ k, k < w.heap.size → ¬ T k) : LIN W w' n st := by
  obtain ⟨sa, cap, cb, ch, hL, hB, hF⟩ := h
  refine ⟨sa, cap, cb, ch, ⟨?_, ?_, fun i hi => ?_, fun i hi => ?_, hL.lne, hL.ne, hL.dist⟩, hB, hF.then hf (fun k hk h => (hT k (Nat.lt_of_lt_of_le hk hF.size) h).elim)⟩
  · rw [hf.block _ (heap_lt hL.l) (hT _ (heap_lt hL.l))]; exact hL.l
  · refine owns_of_heap hL.row (fun g hg => ?_)
    rw [ownBlock_slice] at hg
    have := owns_lt hL.row g hg
    exact hf.block g this (hT g this)
  · rw [hf.block _ (heap_lt (hL.core i hi)) (hT _ (heap_lt (hL.core i hi)))]; exact hL.core i hi
  · obtain ⟨s, r, hc⟩ := hL.chan i hi
    exact ⟨s, r, by rw [hf.block _ (heap_lt hc) (hT _ (heap_lt hc))]; exact hc⟩

theorem LIN.step {W w w' : World} {n : Nat} {st' : Nat → LC} {sa : Option Addr} {cap : Nat} {cb ch : Nat → Nat} (hB : ∀ i, i < n → W.heap.size ≤ cb i ∧ W.heap.size ≤ ch i) (hF : Fr (fun k => W.heap.size ≤ k) W w)
    (h1 : LAt w' W.heap.size sa cap cb ch n st') (h2 : Fr (Mine cb ch n) w w') : LIN W w' n st' :=
  ⟨sa, cap, cb, ch, h1, hB, hF.then h2 (fun k _ ⟨i, hi, h⟩ => by rcases h with rfl | rfl; exact (hB i hi).1; exact (hB i hi).2)⟩

section
variable (W w : World) (n : Nat) (st : Nat → LC) (h : LIN W w n st) (i : Nat) (hi : i < n)
include h hi

theorem l_send_room (x : Int) (hl : (st i).ev.length < 16) :
    Calls Try.prog 9 #[.pointer (some ⟨W.heap.size, 0, none⟩), .int .i64 i, .int .i64 x] w fun e w' => e = .returned (.int .i64 0) ∧ Hid (LIN W w' n (upd st i { st i with ev := (st i).ev ++ [x] })) := by
  obtain ⟨sa, cap, cb, ch, hL, hB, hF⟩ := h
  refine (send_room w W.heap.size sa cap cb ch n st hL i hi x hl).mono ?_
  rintro e w' ⟨rfl, h1, h2⟩
  exact ⟨rfl, LIN.step hB hF h1.out h2.out⟩

theorem l_send_full (x : Int) (hl : 16 ≤ (st i).ev.length) :
    Calls Try.prog 9 #[.pointer (some ⟨W.heap.size, 0, none⟩), .int .i64 i, .int .i64 x] w fun e w' => e = .returned (.int .i64 18) ∧ w = w' := by
  obtain ⟨sa, cap, cb, ch, hL, hB, hF⟩ := h
  exact send_full w W.heap.size sa cap cb ch n st hL i hi x hl

theorem l_take_some (x : Int) (l : List Int) (hl : (st i).ev = x :: l) :
    Calls Try.prog 11 #[.pointer (some ⟨W.heap.size, 0, none⟩), .int .i64 i] w fun e w' => e = .returned (.tuple #[.int .i64 x, .bool true]) ∧ Hid (LIN W w' n (upd st i { st i with ev := l })) := by
  obtain ⟨sa, cap, cb, ch, hL, hB, hF⟩ := h
  refine (take_some w W.heap.size sa cap cb ch n st hL i hi x l hl).mono ?_
  rintro e w' ⟨rfl, h1, h2⟩
  exact ⟨rfl, LIN.step hB hF h1.out h2.out⟩

theorem l_take_none (hl : (st i).ev = []) :
    Calls Try.prog 11 #[.pointer (some ⟨W.heap.size, 0, none⟩), .int .i64 i] w fun e w' => e = .returned (.tuple #[.int .i64 0, .bool false]) ∧ w = w' := by
  obtain ⟨sa, cap, cb, ch, hL, hB, hF⟩ := h
  exact take_none w W.heap.size sa cap cb ch n st hL i hi hl

theorem l_waiting :
    Calls Try.prog 10 #[.pointer (some ⟨W.heap.size, 0, none⟩), .int .i64 i] w fun e w' => e = .returned (.int .i64 (st i).ev.length) ∧ w = w' := by
  obtain ⟨sa, cap, cb, ch, hL, hB, hF⟩ := h
  exact waiting_ok w W.heap.size sa cap cb ch n st hL i hi

theorem l_set (x : Int) :
    Calls Try.prog 14 #[.pointer (some ⟨W.heap.size, 0, none⟩), .int .i64 i, .int .u64 x] w fun e w' => e = .returned (.int .i64 0) ∧ Hid (LIN W w' n (upd st i { st i with due := x, armed := true })) := by
  obtain ⟨sa, cap, cb, ch, hL, hB, hF⟩ := h
  refine (set_ok w W.heap.size sa cap cb ch n st hL i hi x).mono ?_
  rintro e w' ⟨rfl, h1, h2⟩
  exact ⟨rfl, LIN.step hB hF h1.out h2.out⟩

theorem l_now :
    Calls Try.prog 15 #[.pointer (some ⟨W.heap.size, 0, none⟩), .int .i64 i] w fun e w' => e = .returned (.int .u64 (st i).clock) ∧ w = w' := by
  obtain ⟨sa, cap, cb, ch, hL, hB, hF⟩ := h
  exact now_ok w W.heap.size sa cap cb ch n st hL i hi

theorem l_armed :
    Calls Try.prog 13 #[.pointer (some ⟨W.heap.size, 0, none⟩), .int .i64 i] w fun e w' => e = .returned (.tuple #[.int .u64 (if (st i).armed then (st i).due else 0), .bool (st i).armed]) ∧ w = w' := by
  obtain ⟨sa, cap, cb, ch, hL, hB, hF⟩ := h
  cases ha : (st i).armed with
  | true => simpa [ha] using armed_yes w W.heap.size sa cap cb ch n st hL i hi ha
  | false => simpa [ha] using armed_no w W.heap.size sa cap cb ch n st hL i hi ha

theorem l_tick (x : Int) (hx : 0 ≤ x) (hk0 : 0 ≤ (st i).clock) (hk1 : (st i).clock ≤ 4611686018427387904) :
    Calls Try.prog 12 #[.pointer (some ⟨W.heap.size, 0, none⟩), .int .i64 i, .int .u64 x] w fun e w' => e = .returned (.tuple #[.bool ((st i).isDue x), .int .i64 0]) ∧ Hid (LIN W w' n (upd st i ((st i).tick x))) := by
  obtain ⟨sa, cap, cb, ch, hL, hB, hF⟩ := h
  refine (tick_ok w W.heap.size sa cap cb ch n st hL i hi x hx hk0 hk1).mono ?_
  rintro e w' ⟨rfl, h1, h2⟩
  exact ⟨rfl, LIN.step hB hF h1.out h2.out⟩
end

theorem l_new (n : Nat) (h1 : 1 ≤ n) (h8 : n ≤ 8) (W : World) :
    Calls Try.prog 8 #[.int .i64 n] W fun e w' => e = .returned (.tuple #[.pointer (some ⟨W.heap.size, 0, none⟩), .int .i64 0]) ∧ Hid (LIN W w' n (fun _ => lc0)) :=
  (new_ok n h1 h8 W).mono (fun _ _ ⟨h, h'⟩ => ⟨h, LIN.of_new h'.out⟩)

/-- A slice of ints that came in. -/
def Ints (W : World) (po : Option Addr) (pl pc : Nat) (k : IntKind) (zs : Nat → Int) : Prop :=
  pl ≤ pc ∧ pc * 8 ≤ 140737488351232 ∧ ∀ i, i < pl → ∃ b off, po = some ⟨b, off, none⟩ ∧ W.cell? ⟨b, off + i, none⟩ = some (.int k (zs i)) ∧ (Lit.int k (zs i)).wf = true

end Go.Proofs.Ytmnomjeiijpinaa

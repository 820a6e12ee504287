/-
  The lines' clocks and timers, each function walked once. No conditions.
-/
import Derived.Test.YtmnomjeiijpinaaLin
namespace Go.Proofs.Ytmnomjeiijpinaa
open Go.RowKit Go.Conc

/-- One core changes: its own cells. -/
theorem LAt.setCore {w w' : World} {lb : Nat} {sa : Option Addr} {cap : Nat} {cb ch : Nat → Nat} {n : Nat} {st : Nat → LC} (h : LAt w lb sa cap cb ch n st) {i : Nat} (hi : i < n) (c : LC) (hev : c.ev = (st i).ev)
    (hc : w'.heap[cb i]? = some (.cells (c.cells (ch i)) 68 (0, 0))) (hf : Fr (fun k => k = cb i) w w') :
    LAt w' lb sa cap cb ch n (upd st i c) ∧ Fr (Mine cb ch n) w w' := by
  refine ⟨⟨?_, ?_, fun j hj => ?_, fun j hj => ?_, h.lne, h.ne, h.dist⟩, hf.mono (fun k _ e => ⟨i, hi, .inl e⟩)⟩
  · rw [hf.block lb (heap_lt h.l) (fun e => (h.ne i hi).1 e.symm)]; exact h.l
  · refine owns_of_heap h.row (fun g hg => ?_)
    rw [ownBlock_slice] at hg
    exact hf.block g (owns_lt h.row g hg) (fun e => (h.ne i hi).2.2.1 (e ▸ hg))
  · by_cases e : j = i
    · subst e; rw [hc]; simp [upd]
    · rw [hf.block (cb j) (heap_lt (h.core j hj)) ((h.dist j i hj hi).2 e).1, h.core j hj]; simp [upd, e]
  · obtain ⟨s, r, hcj⟩ := h.chan j hj
    refine ⟨s, r, ?_⟩
    rw [hf.block (ch j) (heap_lt hcj) (fun e => (h.dist i j hi hj).1 e.symm), hcj]
    by_cases e : j = i
    · subst e; simp [upd, hev]
    · simp [upd, e]

set_option maxHeartbeats 400000 in
theorem set_ok (w : World) (lb : Nat) (sa : Option Addr) (cap : Nat) (cb ch : Nat → Nat) (n : Nat) (st : Nat → LC) (h : LAt w lb sa cap cb ch n st) (i : Nat) (hi : i < n) (x : Int) :
    Calls Try.prog 14 #[.pointer (some ⟨lb, 0, none⟩), .int .i64 i, .int .u64 x] w fun e w' => e = .returned (.int .i64 0) ∧ Hid (LAt w' lb sa cap cb ch n (upd st i { st i with due := x, armed := true })) ∧ Hid (Fr (Mine cb ch n) w w') := by
  have H := hid h
  have hc := h.core i hi
  have c2 := cell_at (o := 2) hc
  have c3 := cell_at (o := 3) hc
  simp [LC.cells] at c2 c3
  have f2 := thawed (o := 2) hc
  have f3 := thawed (o := 3) hc
  have hcb := heap_lt hc
  have hset : Hid (∀ W : World, W = (w.setCell ⟨cb i, 2, none⟩ (.int .u64 x)).setCell ⟨cb i, 3, none⟩ (.bool true) →
      LAt W lb sa cap cb ch n (upd st i { st i with due := x, armed := true }) ∧ Fr (Mine cb ch n) w W) := by
    intro W hW
    refine h.setCore hi _ rfl ?_ ?_
    · rw [hW, heap_set (heap_set hc _) _]
      simp [LC.cells]
    · rw [hW]
      have F0 : Fr (fun k => k = cb i) w w := Fr.refl _ w
      exact (F0.setCell (p := ⟨cb i, 2, none⟩) (fun _ => rfl) _).setCell (p := ⟨cb i, 3, none⟩) (fun _ => rfl) _
  clear hc
  go_enter Try.func14, Try.ntmps14
  go_wp2_with (go_at_call 23; refine (of_ok _ lb sa cap cb ch n st H.out i hi).mono ?_; rintro e w' ⟨rfl, rfl⟩)
  go_ret
  exact ⟨rfl, hset.out _ rfl⟩

set_option maxHeartbeats 400000 in
theorem now_ok (w : World) (lb : Nat) (sa : Option Addr) (cap : Nat) (cb ch : Nat → Nat) (n : Nat) (st : Nat → LC) (h : LAt w lb sa cap cb ch n st) (i : Nat) (hi : i < n) :
    Calls Try.prog 15 #[.pointer (some ⟨lb, 0, none⟩), .int .i64 i] w fun e w' => e = .returned (.int .u64 (st i).clock) ∧ w = w' := by
  have H := hid h
  have c1 := cell_at (o := 1) (h.core i hi)
  simp [LC.cells] at c1
  go_enter Try.func15, Try.ntmps15
  go_wp2_with (go_at_call 23; refine (of_ok _ lb sa cap cb ch n st H.out i hi).mono ?_; rintro e w' ⟨rfl, rfl⟩)
  go_ret
  exact ⟨rfl, rfl⟩

set_option maxHeartbeats 400000 in
theorem armed_yes (w : World) (lb : Nat) (sa : Option Addr) (cap : Nat) (cb ch : Nat → Nat) (n : Nat) (st : Nat → LC) (h : LAt w lb sa cap cb ch n st) (i : Nat) (hi : i < n) (ha : (st i).armed = true) :
    Calls Try.prog 13 #[.pointer (some ⟨lb, 0, none⟩), .int .i64 i] w fun e w' => e = .returned (.tuple #[.int .u64 (st i).due, .bool true]) ∧ w = w' := by
  have H := hid h
  have c2 := cell_at (o := 2) (h.core i hi)
  have c3 := cell_at (o := 3) (h.core i hi)
  simp [LC.cells, ha] at c2 c3
  go_enter Try.func13, Try.ntmps13
  go_wp2_with (go_at_call 23; refine (of_ok _ lb sa cap cb ch n st H.out i hi).mono ?_; rintro e w' ⟨rfl, rfl⟩)
  go_ret2
  exact ⟨rfl, rfl⟩

set_option maxHeartbeats 400000 in
theorem armed_no (w : World) (lb : Nat) (sa : Option Addr) (cap : Nat) (cb ch : Nat → Nat) (n : Nat) (st : Nat → LC) (h : LAt w lb sa cap cb ch n st) (i : Nat) (hi : i < n) (ha : (st i).armed = false) :
    Calls Try.prog 13 #[.pointer (some ⟨lb, 0, none⟩), .int .i64 i] w fun e w' => e = .returned (.tuple #[.int .u64 0, .bool false]) ∧ w = w' := by
  have H := hid h
  have c3 := cell_at (o := 3) (h.core i hi)
  simp [LC.cells, ha] at c3
  go_enter Try.func13, Try.ntmps13
  go_wp2_with (go_at_call 23; refine (of_ok _ lb sa cap cb ch n st H.out i hi).mono ?_; rintro e w' ⟨rfl, rfl⟩)
  go_ret2
  exact ⟨rfl, rfl⟩


/-- The same but for how much of the tape is drawn. -/
def SameW (w x : World) : Prop := w.heap = x.heap ∧ w.os = x.os ∧ w.tape = x.tape ∧ w.output = x.output
theorem SameW.fr {S : Nat → Prop} {a w x : World} (h : SameW w x) (hf : Fr S a x) : Fr S a w :=
  ⟨h.2.1.trans hf.os, h.2.2.1.trans hf.tape, h.2.2.2.trans hf.output, by rw [h.1]; exact hf.size, fun k hk hn => by rw [h.1]; exact hf.block k hk hn⟩

def topC : Int := 4611686018427387904
/-- What a tick makes of a core, and whether its timer was due. -/
def LC.tickClock (c : LC) (x : Int) : Int := if x ≤ topC - c.clock then c.clock + x else topC
def LC.isDue (c : LC) (x : Int) : Bool := c.armed && decide (c.due ≤ c.tickClock x)
def LC.tick (c : LC) (x : Int) : LC := if c.isDue x then { c with clock := c.tickClock x, due := 0, armed := false } else { c with clock := c.tickClock x }

set_option maxHeartbeats 1000000 in
set_option maxRecDepth 100000 in
theorem tick_ok (w : World) (lb : Nat) (sa : Option Addr) (cap : Nat) (cb ch : Nat → Nat) (n : Nat) (st : Nat → LC) (h : LAt w lb sa cap cb ch n st) (i : Nat) (hi : i < n) (x : Int) (hx : 0 ≤ x) (hk0 : 0 ≤ (st i).clock) (hk1 : (st i).clock ≤ 4611686018427387904) :
    Calls Try.prog 12 #[.pointer (some ⟨lb, 0, none⟩), .int .i64 i, .int .u64 x] w fun e w' => e = .returned (.tuple #[.bool ((st i).isDue x), .int .i64 0]) ∧ Hid (LAt w' lb sa cap cb ch n (upd st i ((st i).tick x))) ∧ Hid (Fr (Mine cb ch n) w w') := by
  have H := hid h
  have hc := h.core i hi
  have c1 := cell_at (o := 1) hc
  have c2 := cell_at (o := 2) hc
  have c3 := cell_at (o := 3) hc
  simp [LC.cells] at c1 c2 c3
  have f1 := thawed (o := 1) hc
  have f2 := thawed (o := 2) hc
  have f3 := thawed (o := 3) hc
  have hcb := heap_lt hc
  obtain ⟨k, hk⟩ : ∃ k, k = (st i).clock := ⟨_, rfl⟩
  obtain ⟨d, hd⟩ : ∃ d, d = (st i).due := ⟨_, rfl⟩
  obtain ⟨ar, har⟩ : ∃ ar, ar = (st i).armed := ⟨_, rfl⟩
  rw [← hk] at c1 hk0 hk1
  rw [← hd] at c2
  rw [← har] at c3
  have key : Hid (∀ k' : Int, k' = (if x ≤ 4611686018427387904 - k then k + x else 4611686018427387904) →
      (ar = false ∨ k' < d → (st i).isDue x = false ∧ ∀ W : World, SameW W (w.setCell ⟨cb i, 1, none⟩ (.int .u64 k')) → LAt W lb sa cap cb ch n (upd st i ((st i).tick x)) ∧ Fr (Mine cb ch n) w W) ∧
      (ar = true → d ≤ k' → (st i).isDue x = true ∧ ∀ W : World, SameW W (((w.setCell ⟨cb i, 1, none⟩ (.int .u64 k')).setCell ⟨cb i, 2, none⟩ (.int .u64 0)).setCell ⟨cb i, 3, none⟩ (.bool false)) → LAt W lb sa cap cb ch n (upd st i ((st i).tick x)) ∧ Fr (Mine cb ch n) w W)) := by
    intro k' hk'
    have ht : (st i).tickClock x = k' := by rw [hk']; simp only [LC.tickClock, topC, ← hk]
    have F0 : Fr (fun k => k = cb i) w w := Fr.refl _ w
    refine ⟨fun hno => ?_, fun hya hyd => ?_⟩
    · have h1 : (st i).isDue x = false := by
        unfold LC.isDue
        rw [ht, ← hd, ← har]
        rcases hno with h | h
        · simp [h]
        · have : decide (d ≤ k') = false := by simp; omega
          simp [this]
      refine ⟨h1, fun W hW => h.setCore hi _ ?_ ?_ ?_⟩
      · simp [LC.tick, h1]
      · rw [hW.1, heap_set hc _]; simp [LC.cells, LC.tick, h1, ht]
      · refine hW.fr ?_; exact F0.setCell (p := ⟨cb i, 1, none⟩) (fun _ => rfl) _
    · have h1 : (st i).isDue x = true := by
        unfold LC.isDue
        rw [ht, ← hd, ← har, hya]
        simpa using hyd
      refine ⟨h1, fun W hW => h.setCore hi _ ?_ ?_ ?_⟩
      · simp [LC.tick, h1]
      · rw [hW.1, heap_set (heap_set (heap_set hc _) _) _]; simp [LC.cells, LC.tick, h1, ht]
      · refine hW.fr ?_; exact ((F0.setCell (p := ⟨cb i, 1, none⟩) (fun _ => rfl) _).setCell (p := ⟨cb i, 2, none⟩) (fun _ => rfl) _).setCell (p := ⟨cb i, 3, none⟩) (fun _ => rfl) _
  have Hk := hid hk
  have Hd := hid hd
  have Har := hid har
  clear hc h hk hd har
  by_cases hle : x ≤ 4611686018427387904 - k
  · have key2 := key.out (k + x) (by rw [if_pos hle])
    have Key := hid key2
    clear key key2
    cases ar with
    | false =>
      go_enter Try.func12, Try.ntmps12
      go_wp2_with (go_at_call 23; refine (of_ok _ lb sa cap cb ch n st H.out i hi).mono ?_; rintro e w' ⟨rfl, rfl⟩)
      go_region
      go_wp2
      go_quiet (fail)
      go_wp2
      go_ret2
      obtain ⟨e1, e2⟩ := Key.out.1 (.inl (by first | rfl | trivial))
      rw [e1]
      exact ⟨rfl, e2 _ ⟨rfl, rfl, rfl, rfl⟩⟩
    | true =>
      by_cases hdl : d ≤ k + x
      · go_enter Try.func12, Try.ntmps12
        go_wp2_with (go_at_call 23; refine (of_ok _ lb sa cap cb ch n st H.out i hi).mono ?_; rintro e w' ⟨rfl, rfl⟩)
        go_region
        go_wp2
        go_quiet (fail)
        go_wp2
        go_ret2
        obtain ⟨e1, e2⟩ := Key.out.2 (by first | rfl | trivial) hdl
        rw [e1]
        exact ⟨rfl, e2 _ ⟨rfl, rfl, rfl, rfl⟩⟩
      · have hdl' : k + x < d := by omega
        go_enter Try.func12, Try.ntmps12
        go_wp2_with (go_at_call 23; refine (of_ok _ lb sa cap cb ch n st H.out i hi).mono ?_; rintro e w' ⟨rfl, rfl⟩)
        go_region
        go_wp2
        go_quiet (fail)
        go_wp2
        go_ret2
        obtain ⟨e1, e2⟩ := Key.out.1 (.inr hdl')
        rw [e1]
        exact ⟨rfl, e2 _ ⟨rfl, rfl, rfl, rfl⟩⟩
  · have key2 := key.out (k + (4611686018427387904 - k)) (by rw [if_neg hle]; omega)
    have Key := hid key2
    clear key key2
    cases ar with
    | false =>
      go_enter Try.func12, Try.ntmps12
      go_wp2_with (go_at_call 23; refine (of_ok _ lb sa cap cb ch n st H.out i hi).mono ?_; rintro e w' ⟨rfl, rfl⟩)
      go_region
      go_wp2
      go_quiet (fail)
      go_wp2
      go_ret2
      obtain ⟨e1, e2⟩ := Key.out.1 (.inl (by first | rfl | trivial))
      rw [e1]
      exact ⟨rfl, e2 _ ⟨rfl, rfl, rfl, rfl⟩⟩
    | true =>
      by_cases hdl : d ≤ k + (4611686018427387904 - k)
      · go_enter Try.func12, Try.ntmps12
        go_wp2_with (go_at_call 23; refine (of_ok _ lb sa cap cb ch n st H.out i hi).mono ?_; rintro e w' ⟨rfl, rfl⟩)
        go_region
        go_wp2
        go_quiet (fail)
        go_wp2
        go_ret2
        obtain ⟨e1, e2⟩ := Key.out.2 (by first | rfl | trivial) hdl
        rw [e1]
        exact ⟨rfl, e2 _ ⟨rfl, rfl, rfl, rfl⟩⟩
      · have hdl' : k + (4611686018427387904 - k) < d := by omega
        go_enter Try.func12, Try.ntmps12
        go_wp2_with (go_at_call 23; refine (of_ok _ lb sa cap cb ch n st H.out i hi).mono ?_; rintro e w' ⟨rfl, rfl⟩)
        go_region
        go_wp2
        go_quiet (fail)
        go_wp2
        go_ret2
        obtain ⟨e1, e2⟩ := Key.out.1 (.inr hdl')
        rw [e1]
        exact ⟨rfl, e2 _ ⟨rfl, rfl, rfl, rfl⟩⟩
end Go.Proofs.Ytmnomjeiijpinaa

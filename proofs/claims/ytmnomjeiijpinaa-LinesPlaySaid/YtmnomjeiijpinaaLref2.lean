/-
  The reference's lines, more of their functions. No conditions.
-/
import Derived.Test.YtmnomjeiijpinaaLref
namespace Go.Proofs.Ytmnomjeiijpinaa
open Go.RowKit Go.Conc

theorem RP.same {S : Nat → Prop} {w w' : World} {rb n : Nat} {st : Nat → LC} (h : RP S w rb n st) (e : w'.heap = w.heap) : RP S w' rb n st := by
  obtain ⟨ab, wa, wc, h1, ⟨cur, h2, h3⟩, h4, h5, h6, h7⟩ := h
  exact ⟨ab, wa, wc, by rw [e]; exact h1, ⟨cur, by rw [e]; exact h2, h3⟩, fun i hi => (h4 i hi).of_heap (fun _ _ => by rw [e]), h5, h6, h7⟩

theorem upd_upd (st : Nat → LC) (i : Nat) (a b : LC) : upd (upd st i a) i b = upd st i b := by funext j; unfold upd; split <;> rfl
theorem upd_same (st : Nat → LC) (i : Nat) (a : LC) : upd st i a i = a := if_pos rfl

section
variable (S : Nat → Prop) (w : World) (rb ab n : Nat) (wa : Nat → Option Addr) (wc : Nat → Nat) (st : Nat → LC) (h : RAt S w rb ab n wa wc st)
include h

theorem r_has' (i : Int) : Hid (Calls Try.prog 22 #[.pointer (some ⟨rb, 0, none⟩), .int .i64 i] w fun e w' => e = .returned (.bool (inR n i)) ∧ w = w') := r_has w rb ab n n h.l i

set_option maxHeartbeats 400000 in
theorem r_send_full (i : Nat) (hi : i < n) (x : Int) (hl : 16 ≤ (st i).ev.length) :
    Calls Try.prog 18 #[.pointer (some ⟨rb, 0, none⟩), .int .i64 i, .int .i64 x] w fun e w' => e = .returned (.int .i64 18) ∧ w = w' := by
  have Hhas := r_has' S w rb ab n wa wc st h i
  rw [show inR n (i : Int) = true from by simp [inR, hi]] at Hhas
  have c0 := cell_at (o := 0) h.l
  simp at c0
  obtain ⟨c1, c2, c3, c4, f1⟩ := h.cores hi
  clear h c2 c3 c4 f1
  go_enter Try.func18, Try.ntmps18
  go_wp2_with (go_at_call 22; refine Hhas.out.mono ?_; rintro e w' ⟨rfl, rfl⟩)
  go_ret
  exact ⟨rfl, rfl⟩

set_option maxHeartbeats 400000 in
theorem r_take_none (i : Nat) (hi : i < n) (hl : (st i).ev = []) :
    Calls Try.prog 19 #[.pointer (some ⟨rb, 0, none⟩), .int .i64 i] w fun e w' => e = .returned (.tuple #[.int .i64 0, .bool false]) ∧ w = w' := by
  have Hhas := r_has' S w rb ab n wa wc st h i
  rw [show inR n (i : Int) = true from by simp [inR, hi]] at Hhas
  have c0 := cell_at (o := 0) h.l
  simp at c0
  obtain ⟨c1, c2, c3, c4, f1⟩ := h.cores hi
  rw [hl] at c1
  simp at c1
  clear h c2 c3 c4 f1
  go_enter Try.func19, Try.ntmps19
  go_wp2_with (go_at_call 22; refine Hhas.out.mono ?_; rintro e w' ⟨rfl, rfl⟩)
  go_ret2
  exact ⟨rfl, rfl⟩

set_option maxHeartbeats 1000000 in
theorem r_take_some (i : Nat) (hi : i < n) (x : Int) (l : List Int) (hl : (st i).ev = x :: l) :
    Calls Try.prog 19 #[.pointer (some ⟨rb, 0, none⟩), .int .i64 i] w fun e w' => e = .returned (.tuple #[.int .i64 x, .bool true]) ∧ Hid (RP S w' rb n (upd st i { st i with ev := l })) ∧ Hid (Fr S w w') := by
  have Hhas := r_has' S w rb ab n wa wc st h i
  rw [show inR n (i : Int) = true from by simp [inR, hi]] at Hhas
  have c0 := cell_at (o := 0) h.l
  simp at c0
  obtain ⟨c1, c2, c3, c4, f1⟩ := h.cores hi
  replace f1 := f1 (i * 4)
  have hseg := h.row i hi
  have hlen : (st i).ev.length = l.length + 1 := by rw [hl]; rfl
  rw [hlen] at c1 hseg
  rw [hl] at hseg
  have hcap : 0 < wc i := by have := hseg.2.1; omega
  obtain ⟨g, off, ha⟩ := hseg.ptr hcap
  have hx := hseg.cell ha 0 (.int .i64 x) rfl
  simp at hx
  have hlc := hseg.2.1
  have hpop := Seg.pop (y := [.int .i64 x]) (ys := evv l) hseg rfl
  have hfin : Hid (RP S (w.setCell ⟨ab, i * 4, none⟩ (.slice (popA (wa i) (wc i) 1) l.length (wc i - 1))) rb n (upd st i { st i with ev := l }) ∧ Fr S w (w.setCell ⟨ab, i * 4, none⟩ (.slice (popA (wa i) (wc i) 1) l.length (wc i - 1)))) :=
    ⟨h.events hi (w1 := w) (fun _ _ _ => rfl) _ _ l hpop (fun g hg => .inl (by rw [← hg, popA_blk])), (Fr.refl S w).setCell (fun _ => h.mine.2.1) _⟩
  rw [ha] at c1 hfin
  obtain ⟨m, em⟩ : ∃ m, m = l.length := ⟨_, rfl⟩
  obtain ⟨c, ec⟩ : ∃ c, c = wc i := ⟨_, rfl⟩
  rw [← em, ← ec] at c1 hfin hlc
  have hm : (((m + 1 : Nat) : Int) == 0) = false := by simp; omega
  have hm2 : (((m : Int) + 1) == 0) = false := by simp; omega
  clear h hseg hpop ha c2 c3 c4 hl hlen hcap em ec
  by_cases hc : c = 1
  · obtain rfl : m = 0 := by omega
    subst hc
    have hfin' : Hid (RP S (w.setCell ⟨ab, i * 4, none⟩ (.slice (some ⟨g, off, none⟩) 0 0)) rb n (upd st i { st i with ev := l }) ∧ Fr S w (w.setCell ⟨ab, i * 4, none⟩ (.slice (some ⟨g, off, none⟩) 0 0))) := by simpa [popA] using hfin
    clear hfin
    go_enter Try.func19, Try.ntmps19
    go_wp2_with (go_at_call 22; refine Hhas.out.mono ?_; rintro e w' ⟨rfl, rfl⟩)
    go_region
    all_goals go_wp2
    all_goals go_ret2
    all_goals exact ⟨rfl, hfin'.out.1.same (by rfl), hfin'.out.2.drew⟩
  · have hfin' : Hid (RP S (w.setCell ⟨ab, i * 4, none⟩ (.slice (some ⟨g, off + 1, none⟩) m (c - 1))) rb n (upd st i { st i with ev := l }) ∧ Fr S w (w.setCell ⟨ab, i * 4, none⟩ (.slice (some ⟨g, off + 1, none⟩) m (c - 1)))) := by simpa [popA, hc, Addr.add_lit] using hfin
    have hc2 : ¬ c ≤ 0 := by omega
    clear hfin
    go_enter Try.func19, Try.ntmps19
    go_wp2_with (go_at_call 22; refine Hhas.out.mono ?_; rintro e w' ⟨rfl, rfl⟩)
    go_region
    all_goals go_wp2
    all_goals go_ret2
    all_goals exact ⟨rfl, hfin'.out.1.same (by rfl), hfin'.out.2.drew⟩

set_option maxHeartbeats 1000000 in
theorem r_set (i : Nat) (hi : i < n) (x : Int) :
    Calls Try.prog 20 #[.pointer (some ⟨rb, 0, none⟩), .int .i64 i, .int .u64 x] w fun e w' => e = .returned (.int .i64 0) ∧ Hid (RP S w' rb n (upd st i { st i with due := x, armed := true })) ∧ Hid (Fr S w w') := by
  have Hhas := r_has' S w rb ab n wa wc st h i
  rw [show inR n (i : Int) = true from by simp [inR, hi]] at Hhas
  have c0 := cell_at (o := 0) h.l
  simp at c0
  obtain ⟨c1, c2, c3, c4, f⟩ := h.cores hi
  have f2 := f (i * 4 + 2)
  have f3 := f (i * 4 + 3)
  have hne := h.ne.1
  have hab : ab < w.heap.size := by obtain ⟨cur, h2, _⟩ := h.tab; exact heap_lt h2
  have hend : Hid (RP S ((w.setCell ⟨ab, i * 4 + 2, none⟩ (.int .u64 x)).setCell ⟨ab, i * 4 + 3, none⟩ (.bool true)) rb n (upd st i { st i with due := x, armed := true }) ∧ Fr S w ((w.setCell ⟨ab, i * 4 + 2, none⟩ (.int .u64 x)).setCell ⟨ab, i * 4 + 3, none⟩ (.bool true))) := by
    have h1 := h.field hi 2 (by omega) (by omega) (.int .u64 x) { st i with due := x } rfl rfl rfl rfl
    have h2 := h1.field hi 3 (by omega) (by omega) (.bool true) { st i with due := x, armed := true } (by rw [upd_same]) (by rw [upd_same]; rfl) (by rw [upd_same]; rfl) rfl
    rw [upd_upd] at h2
    exact ⟨⟨_, _, _, h2⟩, ((Fr.refl S w).setCell (fun _ => h.mine.2.1) _).setCell (fun _ => h.mine.2.1) _⟩
  clear h c1 c2 f
  go_enter Try.func20, Try.ntmps20
  go_wp2_with (go_at_call 22; refine Hhas.out.mono ?_; rintro e w' ⟨rfl, rfl⟩)
  go_ret
  exact ⟨rfl, hend.out⟩

set_option maxHeartbeats 2000000 in
theorem r_tick (i : Nat) (hi : i < n) (x : Int) (hx : 0 ≤ x) (hk0 : 0 ≤ (st i).clock) (hk1 : (st i).clock ≤ 4611686018427387904) :
    Calls Try.prog 21 #[.pointer (some ⟨rb, 0, none⟩), .int .i64 i, .int .u64 x] w fun e w' => e = .returned (.tuple #[.bool ((st i).isDue x), .int .i64 0]) ∧ Hid (RP S w' rb n (upd st i ((st i).tick x))) ∧ Hid (Fr S w w') := by
  have Hhas := r_has' S w rb ab n wa wc st h i
  rw [show inR n (i : Int) = true from by simp [inR, hi]] at Hhas
  have c0 := cell_at (o := 0) h.l
  simp at c0
  obtain ⟨_c, c1, c2, c3, f⟩ := h.cores hi
  have f1 := f (i * 4 + 1)
  have f2 := f (i * 4 + 2)
  have f3 := f (i * 4 + 3)
  have hne := h.ne.1
  have hab : ab < w.heap.size := by obtain ⟨cur, h2, _⟩ := h.tab; exact heap_lt h2
  obtain ⟨k, hk⟩ : ∃ k, k = (st i).clock := ⟨_, rfl⟩
  obtain ⟨d, hd⟩ : ∃ d, d = (st i).due := ⟨_, rfl⟩
  obtain ⟨ar, har⟩ : ∃ ar, ar = (st i).armed := ⟨_, rfl⟩
  have key : Hid (∀ k' : Int, k' = (if x ≤ 4611686018427387904 - k then k + x else 4611686018427387904) →
      (ar = false ∨ k' < d → (st i).isDue x = false ∧ ∀ W : World, SameW W (w.setCell ⟨ab, i * 4 + 1, none⟩ (.int .u64 k')) → RP S W rb n (upd st i ((st i).tick x)) ∧ Fr S w W) ∧
      (ar = true → d ≤ k' → (st i).isDue x = true ∧ ∀ W : World, SameW W (((w.setCell ⟨ab, i * 4 + 1, none⟩ (.int .u64 k')).setCell ⟨ab, i * 4 + 3, none⟩ (.bool false)).setCell ⟨ab, i * 4 + 2, none⟩ (.int .u64 0)) → RP S W rb n (upd st i ((st i).tick x)) ∧ Fr S w W)) := by
    intro k' hk'
    have ht : (st i).tickClock x = k' := by rw [hk']; simp only [LC.tickClock, topC, ← hk]
    have q1 := h.field hi 1 (by omega) (by omega) (.int .u64 k') { st i with clock := k' } rfl rfl rfl rfl
    have F1 : Fr S w (w.setCell ⟨ab, i * 4 + 1, none⟩ (.int .u64 k')) := (Fr.refl S w).setCell (fun _ => h.mine.2.1) _
    refine ⟨fun hno => ?_, fun hya hyd => ?_⟩
    · have h1 : (st i).isDue x = false := by
        unfold LC.isDue
        rw [ht, ← hd, ← har]
        rcases hno with h | h
        · simp [h]
        · have : decide (d ≤ k') = false := by simp; omega
          simp [this]
      have e1 : (st i).tick x = { st i with clock := k' } := by simp [LC.tick, h1, ht]
      rw [e1]
      exact ⟨h1, fun W hW => ⟨RP.same ⟨_, _, _, q1⟩ hW.1, hW.fr F1⟩⟩
    · have h1 : (st i).isDue x = true := by
        unfold LC.isDue
        rw [ht, ← hd, ← har, hya]
        simpa using hyd
      have e1 : (st i).tick x = { st i with clock := k', due := 0, armed := false } := by simp [LC.tick, h1, ht]
      rw [e1]
      have q2 := q1.field hi 3 (by omega) (by omega) (.bool false) { st i with clock := k', armed := false } (by rw [upd_same]) (by rw [upd_same]; rfl) (by rw [upd_same]; rfl) rfl
      have q3 := q2.field hi 2 (by omega) (by omega) (.int .u64 0) { st i with clock := k', due := 0, armed := false } (by rw [upd_same]) (by rw [upd_same]; rfl) rfl (by rw [upd_same]; rfl)
      rw [upd_upd, upd_upd] at q3
      exact ⟨h1, fun W hW => ⟨RP.same ⟨_, _, _, q3⟩ hW.1, hW.fr ((F1.setCell (fun _ => h.mine.2.1) _).setCell (fun _ => h.mine.2.1) _)⟩⟩
  rw [← hk] at c1 hk0 hk1
  rw [← hd] at c2
  rw [← har] at c3
  have Hk := hid hk
  have Hd := hid hd
  have Har := hid har
  clear h _c f hk hd har
  by_cases hle : x ≤ 4611686018427387904 - k
  · have key2 := key.out (k + x) (by rw [if_pos hle])
    have Key := hid key2
    clear key key2
    cases ar with
    | false =>
      go_enter Try.func21, Try.ntmps21
      go_wp2_with (go_at_call 22; refine Hhas.out.mono ?_; rintro e w' ⟨rfl, rfl⟩)
      go_quiet (fail)
      go_wp2
      go_ret2
      obtain ⟨e1, e2⟩ := Key.out.1 (.inl (by first | rfl | trivial))
      rw [e1]
      exact ⟨rfl, e2 _ ⟨rfl, rfl, rfl, rfl⟩⟩
    | true =>
      by_cases hdl : d ≤ k + x
      · go_enter Try.func21, Try.ntmps21
        go_wp2_with (go_at_call 22; refine Hhas.out.mono ?_; rintro e w' ⟨rfl, rfl⟩)
        go_quiet (fail)
        go_wp2
        go_ret2
        obtain ⟨e1, e2⟩ := Key.out.2 (by first | rfl | trivial) hdl
        rw [e1]
        exact ⟨rfl, e2 _ ⟨rfl, rfl, rfl, rfl⟩⟩
      · have hdl' : k + x < d := by omega
        have hdd : decide (d ≤ k + x) = false := decide_eq_false hdl
        go_enter Try.func21, Try.ntmps21
        go_wp2_with (go_at_call 22; refine Hhas.out.mono ?_; rintro e w' ⟨rfl, rfl⟩)
        go_quiet (fail)
        go_wp2
        go_ret2
        obtain ⟨e1, e2⟩ := Key.out.1 (.inr hdl')
        rw [e1]
        exact ⟨rfl, e2 _ ⟨rfl, rfl, rfl, rfl⟩⟩
  · have key2 := key.out 4611686018427387904 (by rw [if_neg hle])
    have Key := hid key2
    clear key key2
    cases ar with
    | false =>
      go_enter Try.func21, Try.ntmps21
      go_wp2_with (go_at_call 22; refine Hhas.out.mono ?_; rintro e w' ⟨rfl, rfl⟩)
      go_quiet (fail)
      go_wp2
      go_ret2
      obtain ⟨e1, e2⟩ := Key.out.1 (.inl (by first | rfl | trivial))
      rw [e1]
      exact ⟨rfl, e2 _ ⟨rfl, rfl, rfl, rfl⟩⟩
    | true =>
      by_cases hdl : d ≤ 4611686018427387904
      · go_enter Try.func21, Try.ntmps21
        go_wp2_with (go_at_call 22; refine Hhas.out.mono ?_; rintro e w' ⟨rfl, rfl⟩)
        go_quiet (fail)
        go_wp2
        go_ret2
        obtain ⟨e1, e2⟩ := Key.out.2 (by first | rfl | trivial) hdl
        rw [e1]
        exact ⟨rfl, e2 _ ⟨rfl, rfl, rfl, rfl⟩⟩
      · have hdl' : 4611686018427387904 < d := by omega
        have hdd : decide (d ≤ 4611686018427387904) = false := decide_eq_false hdl
        go_enter Try.func21, Try.ntmps21
        go_wp2_with (go_at_call 22; refine Hhas.out.mono ?_; rintro e w' ⟨rfl, rfl⟩)
        go_quiet (fail)
        go_wp2
        go_ret2
        obtain ⟨e1, e2⟩ := Key.out.1 (.inr hdl')
        rw [e1]
        exact ⟨rfl, e2 _ ⟨rfl, rfl, rfl, rfl⟩⟩

/-! ### no such core -/
set_option maxHeartbeats 400000 in
theorem r_bad (i : Int) (hi : inR n i = false) (x : Value) :
    (Calls Try.prog 18 #[.pointer (some ⟨rb, 0, none⟩), .int .i64 i, x] w fun e w' => e = .returned (.int .i64 2) ∧ w = w') ∧
    (Calls Try.prog 19 #[.pointer (some ⟨rb, 0, none⟩), .int .i64 i] w fun e w' => e = .returned (.tuple #[.int .i64 0, .bool false]) ∧ w = w') ∧
    (Calls Try.prog 20 #[.pointer (some ⟨rb, 0, none⟩), .int .i64 i, x] w fun e w' => e = .returned (.int .i64 2) ∧ w = w') ∧
    (Calls Try.prog 21 #[.pointer (some ⟨rb, 0, none⟩), .int .i64 i, x] w fun e w' => e = .returned (.tuple #[.bool false, .int .i64 2]) ∧ w = w') := by
  have Hhas := r_has' S w rb ab n wa wc st h i
  rw [hi] at Hhas
  clear h hi
  refine ⟨?_, ?_, ?_, ?_⟩
  · go_enter Try.func18, Try.ntmps18
    go_wp2_with (go_at_call 22; refine Hhas.out.mono ?_; rintro e w' ⟨rfl, rfl⟩)
    go_ret
    exact ⟨rfl, rfl⟩
  · go_enter Try.func19, Try.ntmps19
    go_wp2_with (go_at_call 22; refine Hhas.out.mono ?_; rintro e w' ⟨rfl, rfl⟩)
    go_ret2
    exact ⟨rfl, rfl⟩
  · go_enter Try.func20, Try.ntmps20
    go_wp2_with (go_at_call 22; refine Hhas.out.mono ?_; rintro e w' ⟨rfl, rfl⟩)
    go_ret
    exact ⟨rfl, rfl⟩
  · go_enter Try.func21, Try.ntmps21
    go_wp2_with (go_at_call 22; refine Hhas.out.mono ?_; rintro e w' ⟨rfl, rfl⟩)
    go_ret2
    exact ⟨rfl, rfl⟩
end
end Go.Proofs.Ytmnomjeiijpinaa

/-
  The lines and the reference's lines side by side, and what each call does to the one and leaves of the other. No conditions.
-/
import Derived.Test.YtmnomjeiijpinaaLref3
namespace Go.Proofs.Ytmnomjeiijpinaa
open Go.RowKit Go.Conc

/-- Lines of the call's own, all theirs ahead of B. -/
def LINB (W : World) (B : Nat) (w : World) (n : Nat) (st : Nat → LC) : Prop :=
  ∃ sa cap cb ch, LAt w W.heap.size sa cap cb ch n st ∧ (∀ i, i < n → W.heap.size ≤ cb i ∧ W.heap.size ≤ ch i) ∧ Fr (fun k => W.heap.size ≤ k) W w ∧ W.heap.size < B ∧ (∀ g, blk sa = some g → g < B) ∧ ∀ i, i < n → cb i < B ∧ ch i < B

section
variable {W : World} {B : Nat} {w w' : World} {n : Nat} {st : Nat → LC}

theorem LINB.lin (h : LINB W B w n st) : LIN W w n st := by
  obtain ⟨sa, cap, cb, ch, h1, h2, h3, _⟩ := h
  exact ⟨sa, cap, cb, ch, h1, h2, h3⟩

theorem LINB.of (h : LIN W w n st) : LINB W w.heap.size w n st := by
  obtain ⟨sa, cap, cb, ch, h1, h2, h3⟩ := h
  refine ⟨sa, cap, cb, ch, h1, h2, h3, heap_lt h1.l, fun g hg => owns_lt h1.row g hg, fun i hi => ⟨heap_lt (h1.core i hi), ?_⟩⟩
  obtain ⟨s, r, hc⟩ := h1.chan i hi
  exact heap_lt hc

def Low (W : World) (B k : Nat) : Prop := W.heap.size ≤ k ∧ k < B

theorem LINB.step {st' : Nat → LC} {sa : Option Addr} {cap : Nat} {cb ch : Nat → Nat} (hB : ∀ i, i < n → W.heap.size ≤ cb i ∧ W.heap.size ≤ ch i) (hF : Fr (fun k => W.heap.size ≤ k) W w) (h4 : W.heap.size < B) (h5 : ∀ g, blk sa = some g → g < B) (h6 : ∀ i, i < n → cb i < B ∧ ch i < B)
    (h1 : LAt w' W.heap.size sa cap cb ch n st') (h2 : Fr (Mine cb ch n) w w') : LINB W B w' n st' ∧ Fr (Low W B) w w' :=
  ⟨⟨sa, cap, cb, ch, h1, hB, hF.then h2 (fun k _ ⟨i, hi, h⟩ => by rcases h with rfl | rfl; exact (hB i hi).1; exact (hB i hi).2), h4, h5, h6⟩,
    h2.mono (fun k _ ⟨i, hi, h⟩ => by rcases h with rfl | rfl; exact ⟨(hB i hi).1, (h6 i hi).1⟩; exact ⟨(hB i hi).2, (h6 i hi).2⟩)⟩

theorem LINB.kept (h : LINB W B w n st) {T : Nat → Prop} (hf : Fr T w w') (hT : ∀ k, T k → B ≤ k) : LINB W B w' n st := by
  obtain ⟨sa, cap, cb, ch, hL, hB, hF, h4, h5, h6⟩ := h
  have hT' : ∀ k, k < B → ¬ T k := fun k hk h => Nat.not_le_of_lt hk (hT k h)
  refine ⟨sa, cap, cb, ch, ⟨?_, ?_, fun i hi => ?_, fun i hi => ?_, hL.lne, hL.ne, hL.dist⟩, hB, hF.then hf (fun k hk h => Nat.le_of_lt (Nat.lt_of_lt_of_le h4 (hT k h))), h4, h5, h6⟩
  · rw [hf.block _ (heap_lt hL.l) (hT' _ h4)]; exact hL.l
  · refine owns_of_heap hL.row (fun g hg => ?_)
    rw [ownBlock_slice] at hg
    exact hf.block g (owns_lt hL.row g hg) (hT' g (h5 g hg))
  · rw [hf.block _ (heap_lt (hL.core i hi)) (hT' _ (h6 i hi).1)]; exact hL.core i hi
  · obtain ⟨s, r, hc⟩ := hL.chan i hi
    exact ⟨s, r, by rw [hf.block _ (heap_lt hc) (hT' _ (h6 i hi).2)]; exact hc⟩
end

def Up (B kb k : Nat) : Prop := B ≤ k ∧ k ≠ kb

/-- Both, and the call's act in a block of its own. -/
structure Two (W : World) (B rb n kb : Nat) (cs : Array Value) (w : World) (s t : Nat → LC) : Prop where
  lin : LINB W B w n s
  ref : RP (Up B kb) w rb n t
  loc : w.heap[kb]? = some (.cells cs 34 (0, 0))
  le : B ≤ kb
  n1 : 1 ≤ n
  n8 : n ≤ 8
  sOk : ∀ j, ClockOk (s j)
  tOk : ∀ j, ClockOk (t j)

section
variable {W : World} {B rb n kb : Nat} {cs : Array Value} {w w' : World} {s t : Nat → LC}

theorem Two.byL (h : Two W B rb n kb cs w s t) {s' : Nat → LC} (h1 : LINB W B w' n s') (h2 : Fr (Low W B) w w') (h3 : ∀ j, ClockOk (s' j)) : Two W B rb n kb cs w' s' t :=
  ⟨h1, h.ref.kept h2 (fun _ a b => Nat.not_le_of_lt b.2 a.1), by rw [h2.block kb (heap_lt h.loc) (fun b => Nat.not_le_of_lt b.2 h.le)]; exact h.loc, h.le, h.n1, h.n8, h3, h.tOk⟩

theorem Two.byR (h : Two W B rb n kb cs w s t) {t' : Nat → LC} (h1 : RP (Up B kb) w' rb n t') (h2 : Fr (Up B kb) w w') (h3 : ∀ j, ClockOk (t' j)) : Two W B rb n kb cs w' s t' :=
  ⟨h.lin.kept h2 (fun _ a => a.1), h1, by rw [h2.block kb (heap_lt h.loc) (fun b => b.2 rfl)]; exact h.loc, h.le, h.n1, h.n8, h.sOk, h3⟩

theorem Two.still (h : Two W B rb n kb cs w s t) (hf : Fr (fun _ => False) w w') : Two W B rb n kb cs w' s t :=
  ⟨h.lin.kept hf (fun _ h => h.elim), h.ref.kept hf (fun _ _ h => h), by rw [hf.block kb (heap_lt h.loc) (fun h => h)]; exact h.loc, h.le, h.n1, h.n8, h.sOk, h.tOk⟩

theorem Two.new (h : Two W B rb n kb cs w s t) (k : Nat) (hk : w.heap.size ≤ k) : Up B kb k := by
  have h1 := heap_lt h.loc
  have h2 := h.le
  exact ⟨by omega, by omega⟩

/-- Start of a round: the act is laid. -/
theorem Two.start (h1 : LINB W B w n s) (h2 : RP (fun k => B ≤ k) w rb n s) (h3 : B ≤ w.heap.size) (h4 : 1 ≤ n) (h5 : n ≤ 8) (h6 : ∀ j, ClockOk (s j)) (cs : Array Value) : Two W B rb n w.heap.size cs (w.alloc (.cells cs 34)) s s := by
  have hf : Fr (fun _ => False) w (w.alloc (.cells cs 34)) := (Fr.refl _ w).alloc _
  exact ⟨h1.kept hf (fun _ h => h.elim), (h2.mono (T := Up B w.heap.size) (fun k hk h => ⟨h, by omega⟩)).kept hf (fun _ _ h => h), heap_alloc_new w _, h3, h4, h5, h6, h6⟩
end

/-! ### what each call does, in range or not -/
def onN (n : Nat) (s : Nat → LC) (i : Int) (f : LC → LC) : Nat → LC := if inR n i = true then upd s i.toNat (f (s i.toNat)) else s
def ofN {α : Type} (n : Nat) (s : Nat → LC) (i : Int) (f : LC → α) (d : α) : α := if inR n i = true then f (s i.toNat) else d
def LC.sendC (c : LC) : Int := if c.ev.length < 16 then 0 else 18
def LC.send (x : Int) (c : LC) : LC := if c.ev.length < 16 then { c with ev := c.ev ++ [x] } else c
def LC.headX (c : LC) : Int := match c.ev with | [] => 0 | x :: _ => x
def LC.headB (c : LC) : Bool := match c.ev with | [] => false | _ :: _ => true
def LC.rest (c : LC) : LC := match c.ev with | [] => c | _ :: l => { c with ev := l }
def LC.set (x : Int) (c : LC) : LC := { c with due := x, armed := true }
def LC.armAt (c : LC) : Int := if c.armed then c.due else 0

theorem onN_ok (n : Nat) (s : Nat → LC) (i : Int) (f : LC → LC) (h : ∀ j, ClockOk (s j)) (hf : ∀ c, ClockOk c → ClockOk (f c)) : ∀ j, ClockOk (onN n s i f j) := by
  intro j
  unfold onN upd
  split
  · dsimp only
    split
    · exact hf _ (h _)
    · exact h j
  · exact h j

theorem inR_nat {n : Nat} {i : Int} (h : inR n i = true) : ∃ k : Nat, i = k ∧ k < n := by
  unfold inR at h
  have := of_decide_eq_true h
  exact ⟨i.toNat, by omega, by omega⟩
theorem inR_not {n : Nat} {i : Int} (h : inR n i = false) : i < 0 ∨ (n : Int) ≤ i := by
  unfold inR at h
  have := of_decide_eq_false h
  omega

section
variable (W : World) (B rb n kb : Nat) (cs : Array Value) (w : World) (s t : Nat → LC) (h : Hid (Two W B rb n kb cs w s t)) (i : Int)
include h

theorem t_send (x : Int) : Calls Try.prog 9 #[.pointer (some ⟨W.heap.size, 0, none⟩), .int .i64 i, .int .i64 x] w fun e w' => e = .returned (.int .i64 (ofN n s i LC.sendC 2)) ∧ Hid (Two W B rb n kb cs w' (onN n s i (LC.send x)) t) := by
  have h := h.out
  cases hr : inR n i with
  | false =>
    obtain ⟨_, ho⟩ := h.lin.lin.no h.n1 h.n8 i (inR_not hr)
    refine (send_no w _ _ 2 ⟨.inr rfl, ho⟩ (.int .i64 x)).mono ?_
    rintro e w' ⟨rfl, rfl⟩
    exact ⟨by simp [ofN, hr], by unfold Hid; simpa [onN, hr] using h⟩
  | true =>
    obtain ⟨k, rfl, hk⟩ := inR_nat hr
    obtain ⟨sa, cap, cb, ch, h1, h2, h3, h4, h5, h6⟩ := h.lin
    by_cases hl : (s k).ev.length < 16
    · refine (send_room w W.heap.size sa cap cb ch n s h1 k hk x hl).mono ?_
      rintro e w' ⟨rfl, q1, q2⟩
      obtain ⟨r1, r2⟩ := LINB.step h2 h3 h4 h5 h6 q1.out q2.out
      have e1 : onN n s (k : Int) (LC.send x) = upd s k { s k with ev := (s k).ev ++ [x] } := by simp [onN, hr, LC.send, hl]
      refine ⟨by simp [ofN, hr, LC.sendC, hl], ?_⟩
      rw [← e1] at r1
      exact h.byL r1 r2 (onN_ok n s k _ h.sOk (fun c hc => by unfold LC.send; split <;> exact hc))
    · refine (send_full w W.heap.size sa cap cb ch n s h1 k hk x (by omega)).mono ?_
      rintro e w' ⟨rfl, rfl⟩
      refine ⟨by simp [ofN, hr, LC.sendC, hl], ?_⟩
      have e1 : onN n s (k : Int) (LC.send x) = s := by
        simp only [onN, hr, if_true, LC.send, Int.toNat_natCast, if_neg hl]
        funext j
        unfold upd
        split <;> simp_all
      rw [e1]
      exact h

theorem u_send (x : Int) : Calls Try.prog 18 #[.pointer (some ⟨rb, 0, none⟩), .int .i64 i, .int .i64 x] w fun e w' => e = .returned (.int .i64 (ofN n t i LC.sendC 2)) ∧ Hid (Two W B rb n kb cs w' s (onN n t i (LC.send x))) := by
  have h := h.out
  obtain ⟨ab, wa, wc, hR⟩ := h.ref
  cases hr : inR n i with
  | false =>
    refine (r_bad _ w rb ab n wa wc t hR i hr (.int .i64 x)).1.mono ?_
    rintro e w' ⟨rfl, rfl⟩
    exact ⟨by simp [ofN, hr], by unfold Hid; simpa [onN, hr] using h⟩
  | true =>
    obtain ⟨k, rfl, hk⟩ := inR_nat hr
    by_cases hl : (t k).ev.length < 16
    · refine (r_send_room _ w rb ab n wa wc t hR h.new k hk x hl).mono ?_
      rintro e w' ⟨rfl, r1, r2⟩
      have e1 : onN n t (k : Int) (LC.send x) = upd t k { t k with ev := (t k).ev ++ [x] } := by simp [onN, hr, LC.send, hl]
      refine ⟨by simp [ofN, hr, LC.sendC, hl], ?_⟩
      rw [← e1] at r1
      exact h.byR r1.out r2.out (onN_ok n t k _ h.tOk (fun c hc => by unfold LC.send; split <;> exact hc))
    · refine (r_send_full _ w rb ab n wa wc t hR k hk x (by omega)).mono ?_
      rintro e w' ⟨rfl, rfl⟩
      refine ⟨by simp [ofN, hr, LC.sendC, hl], ?_⟩
      have e1 : onN n t (k : Int) (LC.send x) = t := by
        simp only [onN, hr, if_true, LC.send, Int.toNat_natCast, if_neg hl]
        funext j
        unfold upd
        split <;> simp_all
      rw [e1]
      exact h

theorem t_take : Calls Try.prog 11 #[.pointer (some ⟨W.heap.size, 0, none⟩), .int .i64 i] w fun e w' => e = .returned (.tuple #[.int .i64 (ofN n s i LC.headX 0), .bool (ofN n s i LC.headB false)]) ∧ Hid (Two W B rb n kb cs w' (onN n s i LC.rest) t) := by
  have h := h.out
  cases hr : inR n i with
  | false =>
    obtain ⟨_, ho⟩ := h.lin.lin.no h.n1 h.n8 i (inR_not hr)
    refine (take_no w _ _ 2 ⟨.inr rfl, ho⟩).mono ?_
    rintro e w' ⟨rfl, rfl⟩
    exact ⟨by simp [ofN, hr], by unfold Hid; simpa [onN, hr] using h⟩
  | true =>
    obtain ⟨k, rfl, hk⟩ := inR_nat hr
    obtain ⟨sa, cap, cb, ch, h1, h2, h3, h4, h5, h6⟩ := h.lin
    cases hl : (s k).ev with
    | nil =>
      refine (take_none w W.heap.size sa cap cb ch n s h1 k hk hl).mono ?_
      rintro e w' ⟨rfl, rfl⟩
      refine ⟨by simp [ofN, hr, LC.headX, LC.headB, hl], ?_⟩
      have e1 : onN n s (k : Int) LC.rest = s := by
        simp only [onN, hr, if_true, LC.rest, Int.toNat_natCast, hl]
        funext j
        unfold upd
        split <;> simp_all
      rw [e1]
      exact h
    | cons x l =>
      refine (take_some w W.heap.size sa cap cb ch n s h1 k hk x l hl).mono ?_
      rintro e w' ⟨rfl, q1, q2⟩
      obtain ⟨r1, r2⟩ := LINB.step h2 h3 h4 h5 h6 q1.out q2.out
      have e1 : onN n s (k : Int) LC.rest = upd s k { s k with ev := l } := by simp [onN, hr, LC.rest, hl]
      refine ⟨by simp [ofN, hr, LC.headX, LC.headB, hl], ?_⟩
      rw [← e1] at r1
      exact h.byL r1 r2 (onN_ok n s k _ h.sOk (fun c hc => by unfold LC.rest; split <;> exact hc))

theorem u_take : Calls Try.prog 19 #[.pointer (some ⟨rb, 0, none⟩), .int .i64 i] w fun e w' => e = .returned (.tuple #[.int .i64 (ofN n t i LC.headX 0), .bool (ofN n t i LC.headB false)]) ∧ Hid (Two W B rb n kb cs w' s (onN n t i LC.rest)) := by
  have h := h.out
  obtain ⟨ab, wa, wc, hR⟩ := h.ref
  cases hr : inR n i with
  | false =>
    refine (r_bad _ w rb ab n wa wc t hR i hr (.int .i64 0)).2.1.mono ?_
    rintro e w' ⟨rfl, rfl⟩
    exact ⟨by simp [ofN, hr], by unfold Hid; simpa [onN, hr] using h⟩
  | true =>
    obtain ⟨k, rfl, hk⟩ := inR_nat hr
    cases hl : (t k).ev with
    | nil =>
      refine (r_take_none _ w rb ab n wa wc t hR k hk hl).mono ?_
      rintro e w' ⟨rfl, rfl⟩
      refine ⟨by simp [ofN, hr, LC.headX, LC.headB, hl], ?_⟩
      have e1 : onN n t (k : Int) LC.rest = t := by
        simp only [onN, hr, if_true, LC.rest, Int.toNat_natCast, hl]
        funext j
        unfold upd
        split <;> simp_all
      rw [e1]
      exact h
    | cons x l =>
      refine (r_take_some _ w rb ab n wa wc t hR k hk x l hl).mono ?_
      rintro e w' ⟨rfl, r1, r2⟩
      have e1 : onN n t (k : Int) LC.rest = upd t k { t k with ev := l } := by simp [onN, hr, LC.rest, hl]
      refine ⟨by simp [ofN, hr, LC.headX, LC.headB, hl], ?_⟩
      rw [← e1] at r1
      exact h.byR r1.out r2.out (onN_ok n t k _ h.tOk (fun c hc => by unfold LC.rest; split <;> exact hc))

theorem t_set (x : Int) : Calls Try.prog 14 #[.pointer (some ⟨W.heap.size, 0, none⟩), .int .i64 i, .int .u64 x] w fun e w' => e = .returned (.int .i64 (ofN n s i (fun _ => 0) 2)) ∧ Hid (Two W B rb n kb cs w' (onN n s i (LC.set x)) t) := by
  have h := h.out
  cases hr : inR n i with
  | false =>
    obtain ⟨_, ho⟩ := h.lin.lin.no h.n1 h.n8 i (inR_not hr)
    refine (set_no w _ _ 2 ⟨.inr rfl, ho⟩ (.int .u64 x)).mono ?_
    rintro e w' ⟨rfl, rfl⟩
    exact ⟨by simp [ofN, hr], by unfold Hid; simpa [onN, hr] using h⟩
  | true =>
    obtain ⟨k, rfl, hk⟩ := inR_nat hr
    obtain ⟨sa, cap, cb, ch, h1, h2, h3, h4, h5, h6⟩ := h.lin
    refine (set_ok w W.heap.size sa cap cb ch n s h1 k hk x).mono ?_
    rintro e w' ⟨rfl, q1, q2⟩
    obtain ⟨r1, r2⟩ := LINB.step h2 h3 h4 h5 h6 q1.out q2.out
    have e1 : onN n s (k : Int) (LC.set x) = upd s k { s k with due := x, armed := true } := by simp [onN, hr, LC.set]
    refine ⟨by simp [ofN, hr], ?_⟩
    rw [← e1] at r1
    exact h.byL r1 r2 (onN_ok n s k _ h.sOk (fun c hc => hc))

theorem u_set (x : Int) : Calls Try.prog 20 #[.pointer (some ⟨rb, 0, none⟩), .int .i64 i, .int .u64 x] w fun e w' => e = .returned (.int .i64 (ofN n t i (fun _ => 0) 2)) ∧ Hid (Two W B rb n kb cs w' s (onN n t i (LC.set x))) := by
  have h := h.out
  obtain ⟨ab, wa, wc, hR⟩ := h.ref
  cases hr : inR n i with
  | false =>
    refine (r_bad _ w rb ab n wa wc t hR i hr (.int .u64 x)).2.2.1.mono ?_
    rintro e w' ⟨rfl, rfl⟩
    exact ⟨by simp [ofN, hr], by unfold Hid; simpa [onN, hr] using h⟩
  | true =>
    obtain ⟨k, rfl, hk⟩ := inR_nat hr
    refine (r_set _ w rb ab n wa wc t hR k hk x).mono ?_
    rintro e w' ⟨rfl, r1, r2⟩
    have e1 : onN n t (k : Int) (LC.set x) = upd t k { t k with due := x, armed := true } := by simp [onN, hr, LC.set]
    refine ⟨by simp [ofN, hr], ?_⟩
    rw [← e1] at r1
    exact h.byR r1.out r2.out (onN_ok n t k _ h.tOk (fun c hc => hc))

theorem t_tick (x : Int) (hx : 0 ≤ x) : Calls Try.prog 12 #[.pointer (some ⟨W.heap.size, 0, none⟩), .int .i64 i, .int .u64 x] w fun e w' => e = .returned (.tuple #[.bool (ofN n s i (fun c => c.isDue x) false), .int .i64 (ofN n s i (fun _ => 0) 2)]) ∧ Hid (Two W B rb n kb cs w' (onN n s i (fun c => c.tick x)) t) := by
  have h := h.out
  cases hr : inR n i with
  | false =>
    obtain ⟨_, ho⟩ := h.lin.lin.no h.n1 h.n8 i (inR_not hr)
    refine (tick_no w _ _ 2 ⟨.inr rfl, ho⟩ (.int .u64 x)).mono ?_
    rintro e w' ⟨rfl, rfl⟩
    exact ⟨by simp [ofN, hr], by unfold Hid; simpa [onN, hr] using h⟩
  | true =>
    obtain ⟨k, rfl, hk⟩ := inR_nat hr
    obtain ⟨sa, cap, cb, ch, h1, h2, h3, h4, h5, h6⟩ := h.lin
    refine (tick_ok w W.heap.size sa cap cb ch n s h1 k hk x hx (h.sOk k).1 (h.sOk k).2).mono ?_
    rintro e w' ⟨rfl, q1, q2⟩
    obtain ⟨r1, r2⟩ := LINB.step h2 h3 h4 h5 h6 q1.out q2.out
    have e1 : onN n s (k : Int) (fun c => c.tick x) = upd s k ((s k).tick x) := by simp [onN, hr]
    refine ⟨by simp [ofN, hr], ?_⟩
    rw [← e1] at r1
    exact h.byL r1 r2 (onN_ok n s k _ h.sOk (fun c hc => hc.tick x hx))

theorem u_tick (x : Int) (hx : 0 ≤ x) : Calls Try.prog 21 #[.pointer (some ⟨rb, 0, none⟩), .int .i64 i, .int .u64 x] w fun e w' => e = .returned (.tuple #[.bool (ofN n t i (fun c => c.isDue x) false), .int .i64 (ofN n t i (fun _ => 0) 2)]) ∧ Hid (Two W B rb n kb cs w' s (onN n t i (fun c => c.tick x))) := by
  have h := h.out
  obtain ⟨ab, wa, wc, hR⟩ := h.ref
  cases hr : inR n i with
  | false =>
    refine (r_bad _ w rb ab n wa wc t hR i hr (.int .u64 x)).2.2.2.mono ?_
    rintro e w' ⟨rfl, rfl⟩
    exact ⟨by simp [ofN, hr], by unfold Hid; simpa [onN, hr] using h⟩
  | true =>
    obtain ⟨k, rfl, hk⟩ := inR_nat hr
    refine (r_tick _ w rb ab n wa wc t hR k hk x hx (h.tOk k).1 (h.tOk k).2).mono ?_
    rintro e w' ⟨rfl, r1, r2⟩
    have e1 : onN n t (k : Int) (fun c => c.tick x) = upd t k ((t k).tick x) := by simp [onN, hr]
    refine ⟨by simp [ofN, hr], ?_⟩
    rw [← e1] at r1
    exact h.byR r1.out r2.out (onN_ok n t k _ h.tOk (fun c hc => hc.tick x hx))

theorem t_armed : Calls Try.prog 13 #[.pointer (some ⟨W.heap.size, 0, none⟩), .int .i64 i] w fun e w' => e = .returned (.tuple #[.int .u64 (ofN n s i LC.armAt 0), .bool (ofN n s i LC.armed false)]) ∧ w = w' := by
  have h := h.out
  cases hr : inR n i with
  | false =>
    obtain ⟨_, ho⟩ := h.lin.lin.no h.n1 h.n8 i (inR_not hr)
    refine (armed_none w _ _ 2 ⟨.inr rfl, ho⟩).mono ?_
    rintro e w' ⟨rfl, rfl⟩
    exact ⟨by simp [ofN, hr], rfl⟩
  | true =>
    obtain ⟨k, rfl, hk⟩ := inR_nat hr
    refine (l_armed W w n s h.lin.lin k hk).mono ?_
    rintro e w' ⟨rfl, rfl⟩
    exact ⟨by simp [ofN, hr, LC.armAt], rfl⟩

theorem t_waiting : Calls Try.prog 10 #[.pointer (some ⟨W.heap.size, 0, none⟩), .int .i64 i] w fun e w' => e = .returned (.int .i64 (ofN n s i (fun c => ((c.ev.length : Nat) : Int)) 0)) ∧ w = w' := by
  have h := h.out
  cases hr : inR n i with
  | false =>
    obtain ⟨_, ho⟩ := h.lin.lin.no h.n1 h.n8 i (inR_not hr)
    refine (waiting_no w _ _ 2 ⟨.inr rfl, ho⟩).mono ?_
    rintro e w' ⟨rfl, rfl⟩
    exact ⟨by simp [ofN, hr], rfl⟩
  | true =>
    obtain ⟨k, rfl, hk⟩ := inR_nat hr
    refine (l_waiting W w n s h.lin.lin k hk).mono ?_
    rintro e w' ⟨rfl, rfl⟩
    exact ⟨by simp [ofN, hr], rfl⟩

theorem t_now : Calls Try.prog 15 #[.pointer (some ⟨W.heap.size, 0, none⟩), .int .i64 i] w fun e w' => e = .returned (.int .u64 (ofN n s i LC.clock 0)) ∧ w = w' := by
  have h := h.out
  cases hr : inR n i with
  | false =>
    obtain ⟨_, ho⟩ := h.lin.lin.no h.n1 h.n8 i (inR_not hr)
    refine (now_no w _ _ 2 ⟨.inr rfl, ho⟩).mono ?_
    rintro e w' ⟨rfl, rfl⟩
    exact ⟨by simp [ofN, hr], rfl⟩
  | true =>
    obtain ⟨k, rfl, hk⟩ := inR_nat hr
    refine (l_now W w n s h.lin.lin k hk).mono ?_
    rintro e w' ⟨rfl, rfl⟩
    exact ⟨by simp [ofN, hr], rfl⟩

theorem u_has : Calls Try.prog 22 #[.pointer (some ⟨rb, 0, none⟩), .int .i64 i] w fun e w' => e = .returned (.bool (inR n i)) ∧ w = w' := by
  obtain ⟨ab, wa, wc, hR⟩ := h.out.ref
  exact r_has w rb ab n n hR.l i
end
end Go.Proofs.Ytmnomjeiijpinaa

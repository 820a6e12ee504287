/-
  A scheduler's Yield, whatever the core; a scheduler of a law's own and what each call does to it. No conditions.
-/
import Derived.Test.YtehjekcfhmmggaaCreF
namespace Go.Proofs.Ytehjekcfhmmggaa
open Go.RowKit

def yieldV (n : Nat) (s : CS) (i : Int) : Int × Int := if inR n i = false then (0, 2) else if s.bs i.toNat = true then (s.rv i.toNat, 0) else (0, 14)
def yieldN (n : Nat) (s : CS) (i : Int) : CS := if inR n i = false then s else if s.bs i.toNat = true then (match findO s.L (s.rv i.toNat) with | some x => yieldS s x | none => s) else s

theorem yieldN_ok {per n : Nat} {s : CS} (ok : OKs per n s) (i : Int) : OKs per n (yieldN n s i) := by
  unfold yieldN
  split
  · exact ok
  · split
    · cases hf : findO s.L (s.rv i.toNat) with
      | none => exact ok
      | some x => exact ok.yield (findO_mem hf).1
    · exact ok

/-- Yield, whatever the core. -/
theorem yield_t (S : Nat → Prop) (w : World) (cb per n : Nat) (s : CS) (h : CR S w cb per n s) (ok : OKs per n s) (hS : ∀ k, w.heap.size ≤ k → S k) (i : Int) :
    Calls Try.prog 13 #[.pointer (some ⟨cb, 0, none⟩), .int .i64 i] w fun e w' => e = .returned (.tuple #[.int .i64 (yieldV n s i).1, .int .i64 (yieldV n s i).2]) ∧ Hid (CR S w' cb per n (yieldN n s i)) ∧ Hid (Fr S w w') := by
  cases h3 : inR n i with
  | false =>
    have e1 : yieldV n s i = (0, 2) := by unfold yieldV; rw [if_pos h3]
    have e2 : yieldN n s i = s := by unfold yieldN; rw [if_pos h3]
    rw [e1, e2]
    refine ((yield_no S w cb per n s h ok i).1 h3).mono ?_
    rintro e w' ⟨rfl, rfl⟩
    exact ⟨rfl, h, Fr.refl _ _⟩
  | true =>
    obtain ⟨k, rfl, hk⟩ := inR_nat h3
    cases hb : s.bs k with
    | false =>
      have hnb : ¬ s.bs (k : Int).toNat = true := by rw [show (k : Int).toNat = k from rfl, hb]; decide
      have e1 : yieldV n s (k : Int) = (0, 14) := by unfold yieldV; rw [if_neg (by rw [h3]; decide), if_neg hnb]
      have e2 : yieldN n s (k : Int) = s := by unfold yieldN; rw [if_neg (by rw [h3]; decide), if_neg hnb]
      rw [e1, e2]
      refine ((yield_no S w cb per n s h ok (k : Int)).2 k rfl hk hb).mono ?_
      rintro e w' ⟨rfl, rfl⟩
      exact ⟨rfl, h, Fr.refl _ _⟩
    | true =>
      have hyb : s.bs (k : Int).toNat = true := hb
      have e1 : yieldV n s (k : Int) = (s.rv k, 0) := by unfold yieldV; rw [if_neg (by rw [h3]; decide), if_pos hyb]; rfl
      rw [e1]
      refine (yield_yes S w cb per n s h ok hS k hk hb).mono ?_
      rintro e w' ⟨x, hx, hst, hcore, hid, rfl, h1, h2⟩
      have e2 : yieldN n s (k : Int) = yieldS s x := by unfold yieldN; rw [if_neg (by rw [h3]; decide), if_pos hyb, show (k : Int).toNat = k from rfl, ← hid, ok.find hx]
      rw [e2]
      exact ⟨by rw [hid], h1, h2⟩

/-- A scheduler that lies in new blocks. -/
structure GS (W : World) (cb per n : Nat) (s : CS) (w : World) : Prop where
  cr : CR (fun k => W.heap.size ≤ k) w cb per n s
  fr : Fr (fun k => W.heap.size ≤ k) W w
  ok : OKs per n s

section
variable {W : World} {cb per n : Nat} {s : CS} {w : World} (h : Hid (GS W cb per n s w))
include h

theorem gs_still {w' : World} (hf : Fr (fun _ => False) w w') : Hid (GS W cb per n s w') :=
  ⟨h.out.cr.kept hf (fun _ _ _ h => h), h.out.fr.then hf (fun _ _ h => h.elim), h.out.ok⟩
theorem gs_by {w' : World} {s' : CS} (h1 : Hid (CR (fun k => W.heap.size ≤ k) w' cb per n s')) (h2 : Hid (Fr (fun k => W.heap.size ≤ k) w w')) (h3 : OKs per n s') : Hid (GS W cb per n s' w') :=
  ⟨h1.out, h.out.fr.trans h2.out, h3⟩
theorem gs_new : ∀ k, w.heap.size ≤ k → W.heap.size ≤ k := fun _ hk => Nat.le_trans h.out.fr.size hk

theorem g_add (id wt core : Int) (hw : (Lit.int .i64 id).wf = true) : Calls Try.prog 9 #[.pointer (some ⟨cb, 0, none⟩), .int .i64 id, .int .i64 wt, .int .i64 core] w fun e w' => e = .returned (.int .i64 (addV n s id wt core)) ∧ Hid (GS W cb per n (addN n s id wt core) w') :=
  (add_t _ w cb per n s h.out.cr h.out.ok (gs_new h) id hw wt core).mono fun _ _ ⟨a, b, c⟩ => ⟨a, gs_by h b c (addN_ok h.out.ok hw)⟩
theorem g_remove (id : Int) (hw : (Lit.int .i64 id).wf = true) : Calls Try.prog 15 #[.pointer (some ⟨cb, 0, none⟩), .int .i64 id] w fun e w' => e = .returned (.int .i64 (removeV s id)) ∧ Hid (GS W cb per n (removeN s id) w') :=
  (remove_t _ w cb per n s h.out.cr h.out.ok (gs_new h) id hw).mono fun _ _ ⟨a, b, c⟩ => ⟨a, gs_by h b c (removeN_ok h.out.ok id)⟩
theorem g_wake (id : Int) (hw : (Lit.int .i64 id).wf = true) : Calls Try.prog 16 #[.pointer (some ⟨cb, 0, none⟩), .int .i64 id] w fun e w' => e = .returned (.int .i64 (wakeV s id)) ∧ Hid (GS W cb per n (wakeN s id) w') :=
  (wake_t _ w cb per n s h.out.cr h.out.ok (gs_new h) id hw).mono fun _ _ ⟨a, b, c⟩ => ⟨a, gs_by h b c (wakeN_ok h.out.ok id)⟩
theorem g_block (id : Int) (hw : (Lit.int .i64 id).wf = true) : Calls Try.prog 17 #[.pointer (some ⟨cb, 0, none⟩), .int .i64 id] w fun e w' => e = .returned (.int .i64 (blockV s id)) ∧ Hid (GS W cb per n (blockN s id) w') :=
  (block_t _ w cb per n s h.out.cr h.out.ok (gs_new h) id hw).mono fun _ _ ⟨a, b, c⟩ => ⟨a, gs_by h b c (blockN_ok h.out.ok id)⟩
theorem g_pick (i : Int) : Calls Try.prog 12 #[.pointer (some ⟨cb, 0, none⟩), .int .i64 i] w fun e w' => e = .returned (.tuple #[.int .i64 (pickV n s i).1, .bool (pickV n s i).2.1, .int .i64 (pickV n s i).2.2]) ∧ Hid (GS W cb per n (pickN n s i) w') :=
  (pick_t _ w cb per n s h.out.cr h.out.ok (gs_new h) i).mono fun _ _ ⟨a, b, c⟩ => ⟨a, gs_by h b c (pickN_ok h.out.ok i)⟩
theorem g_yield (i : Int) : Calls Try.prog 13 #[.pointer (some ⟨cb, 0, none⟩), .int .i64 i] w fun e w' => e = .returned (.tuple #[.int .i64 (yieldV n s i).1, .int .i64 (yieldV n s i).2]) ∧ Hid (GS W cb per n (yieldN n s i) w') :=
  (yield_t _ w cb per n s h.out.cr h.out.ok (gs_new h) i).mono fun _ _ ⟨a, b, c⟩ => ⟨a, gs_by h b c (yieldN_ok h.out.ok i)⟩
theorem g_refill : Calls Try.prog 10 #[.pointer (some ⟨cb, 0, none⟩)] w fun e w' => e = .returned (.int .i64 0) ∧ Hid (GS W cb per n (refillS per s) w') :=
  (refill_c _ w cb per n s h.out.cr h.out.ok).mono fun _ _ ⟨a, b, c⟩ => ⟨a, gs_by h b c h.out.ok.refill⟩
theorem g_look (id : Int) (hw : (Lit.int .i64 id).wf = true) : Calls Try.prog 11 #[.pointer (some ⟨cb, 0, none⟩), .int .i64 id] w fun e w' => e = .returned (lookV s id) ∧ Hid (GS W cb per n s w') ∧ Hid (Fr (fun _ => False) w w') :=
  (look_c _ w cb per n s h.out.cr h.out.ok id hw).mono fun _ _ ⟨a, b⟩ => ⟨a, gs_still h b.out, b⟩
theorem g_queue (i : Int) : Calls Try.prog 20 #[.pointer (some ⟨cb, 0, none⟩), .int .i64 i] w fun e w' => ∃ ro cap, e = .returned (.slice ro (queueL n s i).length cap) ∧ Hid (w'.ownsRow w.heap.size 3 1 (.slice ro (queueL n s i).length cap) (queueL n s i).length (ints (queueL n s i))) ∧ Hid (GS W cb per n s w') ∧ Hid (Fr (fun _ => False) w w') :=
  (queue_c _ w cb per n s h.out.cr h.out.ok i).mono fun _ _ ⟨ro, cap, a, b, c⟩ => ⟨ro, cap, a, b, gs_still h c.out, c⟩
theorem g_runs (i : Int) : Calls Try.prog 14 #[.pointer (some ⟨cb, 0, none⟩), .int .i64 i] w fun e w' => e = .returned (.tuple #[.int .i64 (runsV n s i), .bool (runsB n s i)]) ∧ Hid (GS W cb per n s w') ∧ Hid (Fr (fun _ => False) w w') :=
  (runs_c _ w cb per n s h.out.cr h.out.ok i).mono fun _ _ ⟨a, m, b⟩ => ⟨a, gs_still h (by rw [b]; exact (Fr.refl _ _).drewM m), hid (by rw [b]; exact (Fr.refl _ _).drewM m)⟩
end

def emptyC : CS := ⟨[], fun _ => [], fun _ => 0, fun _ => false, fun _ => 0, 0⟩

theorem g_new (W : World) (n per : Nat) (n1 : 1 ≤ n) (n8 : n ≤ 8) (p1 : 1 ≤ per) (p2 : per ≤ 1048576) :
    Calls Try.prog 8 #[.int .i64 n, .int .i64 per] W fun e w' => e = .returned (.tuple #[.pointer (some ⟨W.heap.size + 1 + 1, 0, none⟩), .int .i64 0]) ∧ Hid (GS W (W.heap.size + 1 + 1) per n emptyC w') :=
  (new_ok (fun k => W.heap.size ≤ k) W n per n1 n8 p1 p2 (fun _ h => h)).mono fun _ _ ⟨a, b, c⟩ => ⟨a, b.out, c.out.mono (fun _ _ h => h.elim), OKs.new n1 n8 p1 p2⟩
end Go.Proofs.Ytehjekcfhmmggaa

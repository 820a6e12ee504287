/-
  The scheduler and the reference side by side, and what each call does to the one and leaves of the other. No conditions.
-/
import Derived.Test.YtehjekcfhmmggaaRefD
import Derived.Test.YtehjekcfhmmggaaActs
namespace Go.Proofs.Ytehjekcfhmmggaa
open Go.RowKit

def actCells (x : Act5) : Array Value := #[.int .i64 x.kind, .int .i64 x.id, .int .i64 x.weight, .int .i64 x.core, .int .i64 x.n]

/-- Both, and the call's act in a block of its own. -/
structure Two (W : World) (cb rb kb per n : Nat) (cs : Array Value) (w : World) (s t : CS) : Prop where
  reg : ∃ S T : Nat → Prop, CR S w cb per n s ∧ RR T w rb per n t ∧ (∀ k, S k → W.heap.size ≤ k ∧ k < w.heap.size ∧ ¬ T k ∧ k ≠ kb) ∧ ∀ k, T k → W.heap.size ≤ k ∧ k < w.heap.size ∧ k ≠ kb
  loc : w.heap[kb]? = some (.cells cs 34 (0, 0))
  kbW : W.heap.size ≤ kb
  fr : Fr (fun k => W.heap.size ≤ k) W w
  okc : OKs per n s
  okr : OKs per n t

section
variable {W : World} {cb rb kb per n : Nat} {cs : Array Value} {w w' : World} {s t : CS}

theorem Two.still (h : Two W cb rb kb per n cs w s t) (hf : Fr (fun _ => False) w w') : Two W cb rb kb per n cs w' s t := by
  obtain ⟨S, T, hC, hR, hS, hT⟩ := h.reg
  exact ⟨⟨S, T, hC.kept hf (fun _ _ _ h => h), hR.kept hf (fun _ _ _ h => h), fun k a => ⟨(hS k a).1, Nat.lt_of_lt_of_le (hS k a).2.1 hf.size, (hS k a).2.2⟩, fun k a => ⟨(hT k a).1, Nat.lt_of_lt_of_le (hT k a).2.1 hf.size, (hT k a).2.2⟩⟩,
    by rw [hf.block kb (heap_lt h.loc) (fun h => h)]; exact h.loc, h.kbW, h.fr.then hf (fun _ _ h => h.elim), h.okc, h.okr⟩

/-- A call of the scheduler's. -/
theorem Two.onC (h : Two W cb rb kb per n cs w s t) {f : Nat} {args : Array Value} {r : Value} {s' : CS} (hl : OKs per n s')
    (hc : ∀ S, CR S w cb per n s → (∀ k, w.heap.size ≤ k → S k) → Calls Try.prog f args w fun e w' => e = .returned r ∧ Hid (CR S w' cb per n s') ∧ Hid (Fr S w w')) :
    Calls Try.prog f args w fun e w' => e = .returned r ∧ Hid (Two W cb rb kb per n cs w' s' t) := by
  obtain ⟨S, T, hC, hR, hS, hT⟩ := h.reg
  have hkb := heap_lt h.loc
  refine (hc (fun k => S k ∨ w.heap.size ≤ k) (hC.mono (fun _ _ a => .inl a)) (fun _ a => .inr a)).mono ?_
  rintro e w' ⟨he, h1, hf⟩
  have h1 := h1.out
  have hf := hf.out
  refine ⟨he, ⟨⟨fun k => (S k ∨ w.heap.size ≤ k) ∧ k < w'.heap.size, T, h1.mono (fun k hk a => ⟨a, hk⟩), hR.kept hf (fun k hk a b => ?_), ?_, fun k a => ⟨(hT k a).1, Nat.lt_of_lt_of_le (hT k a).2.1 hf.size, (hT k a).2.2⟩⟩, ?_, h.kbW, ?_, hl, h.okr⟩⟩
  · rcases b with b | b
    · exact (hS k b).2.2.1 a
    · omega
  · rintro k ⟨a | a, b⟩
    · exact ⟨(hS k a).1, b, (hS k a).2.2⟩
    · refine ⟨Nat.le_trans h.fr.size a, b, fun c => ?_, by omega⟩
      have := (hT k c).2.1
      omega
  · rw [hf.block kb hkb (fun b => ?_)]
    · exact h.loc
    · rcases b with b | b
      · exact (hS kb b).2.2.2 rfl
      · omega
  · refine h.fr.then hf (fun k hk b => ?_)
    rcases b with b | b
    · exact (hS k b).1
    · exact Nat.le_trans h.fr.size b

/-- A call of the reference's. -/
theorem Two.onR (h : Two W cb rb kb per n cs w s t) {f : Nat} {args : Array Value} {r : Value} {t' : CS} (hl : OKs per n t')
    (hc : ∀ T, RR T w rb per n t → (∀ k, w.heap.size ≤ k → T k) → Calls Try.prog f args w fun e w' => e = .returned r ∧ Hid (RR T w' rb per n t') ∧ Hid (Fr T w w')) :
    Calls Try.prog f args w fun e w' => e = .returned r ∧ Hid (Two W cb rb kb per n cs w' s t') := by
  obtain ⟨S, T, hC, hR, hS, hT⟩ := h.reg
  have hkb := heap_lt h.loc
  refine (hc (fun k => T k ∨ w.heap.size ≤ k) (hR.mono (fun _ _ a => .inl a)) (fun _ a => .inr a)).mono ?_
  rintro e w' ⟨he, h1, hf⟩
  have h1 := h1.out
  have hf := hf.out
  refine ⟨he, ⟨⟨S, fun k => (T k ∨ w.heap.size ≤ k) ∧ k < w'.heap.size, hC.kept hf (fun k hk a b => ?_), h1.mono (fun k hk a => ⟨a, hk⟩), fun k a => ⟨(hS k a).1, Nat.lt_of_lt_of_le (hS k a).2.1 hf.size, fun b => ?_, (hS k a).2.2.2⟩, ?_⟩, ?_, h.kbW, ?_, h.okc, hl⟩⟩
  · rcases b with b | b
    · exact (hS k a).2.2.1 b
    · omega
  · rcases b.1 with b | b
    · exact (hS k a).2.2.1 b
    · have := (hS k a).2.1
      omega
  · rintro k ⟨a | a, b⟩
    · exact ⟨(hT k a).1, b, (hT k a).2.2⟩
    · exact ⟨Nat.le_trans h.fr.size a, b, by omega⟩
  · rw [hf.block kb hkb (fun b => ?_)]
    · exact h.loc
    · rcases b with b | b
      · exact (hT kb b).2.2 rfl
      · omega
  · refine h.fr.then hf (fun k hk b => ?_)
    rcases b with b | b
    · exact (hT k b).1
    · exact Nat.le_trans h.fr.size b
end

/-- Between two rounds: no act is laid. -/
structure Pair (W : World) (cb rb per n : Nat) (w : World) (s : CS) : Prop where
  reg : ∃ S T : Nat → Prop, CR S w cb per n s ∧ RR T w rb per n s ∧ (∀ k, S k → W.heap.size ≤ k ∧ k < w.heap.size ∧ ¬ T k) ∧ ∀ k, T k → W.heap.size ≤ k ∧ k < w.heap.size
  fr : Fr (fun k => W.heap.size ≤ k) W w
  ok : OKs per n s

theorem Pair.still {W : World} {cb rb per n : Nat} {w w' : World} {s : CS} (h : Pair W cb rb per n w s) (hf : Fr (fun _ => False) w w') : Pair W cb rb per n w' s := by
  obtain ⟨S, T, hC, hR, hS, hT⟩ := h.reg
  exact ⟨⟨S, T, hC.kept hf (fun _ _ _ h => h), hR.kept hf (fun _ _ _ h => h), fun k a => ⟨(hS k a).1, Nat.lt_of_lt_of_le (hS k a).2.1 hf.size, (hS k a).2.2⟩, fun k a => ⟨(hT k a).1, Nat.lt_of_lt_of_le (hT k a).2 hf.size⟩⟩, h.fr.then hf (fun _ _ h => h.elim), h.ok⟩

theorem Pair.start {W : World} {cb rb per n : Nat} {w : World} {s : CS} (h : Pair W cb rb per n w s) (cs : Array Value) : Two W cb rb w.heap.size per n cs (w.alloc (.cells cs 34)) s s := by
  obtain ⟨⟨S, T, hC, hR, hS, hT⟩, hF, h1⟩ := h
  have hf : Fr (fun _ => False) w (w.alloc (.cells cs 34)) := (Fr.refl _ w).alloc _
  exact ⟨⟨S, T, hC.kept hf (fun _ _ _ h => h), hR.kept hf (fun _ _ _ h => h), fun k a => ⟨(hS k a).1, Nat.lt_of_lt_of_le (hS k a).2.1 hf.size, (hS k a).2.2, Nat.ne_of_lt (hS k a).2.1⟩, fun k a => ⟨(hT k a).1, Nat.lt_of_lt_of_le (hT k a).2 hf.size, Nat.ne_of_lt (hT k a).2⟩⟩,
    heap_alloc_new w _, hF.size, hF.then hf (fun _ _ h => h.elim), h1, h1⟩

theorem Two.round {W : World} {cb rb kb per n : Nat} {cs : Array Value} {w : World} {s : CS} (h : Two W cb rb kb per n cs w s s) : Pair W cb rb per n w s := by
  obtain ⟨S, T, hC, hR, hS, hT⟩ := h.reg
  exact ⟨⟨S, T, hC, hR, fun k a => ⟨(hS k a).1, (hS k a).2.1, (hS k a).2.2.1⟩, fun k a => ⟨(hT k a).1, (hT k a).2.1⟩⟩, h.fr, h.okc⟩

theorem Pair.new {W w w' : World} {cb rb per n : Nat} {s : CS} (ok : OKs per n s) (hC : CR (fun k => W.heap.size ≤ k) w cb per n s) (hF : Fr (fun _ => False) W w) (hR : RR (fun k => w.heap.size ≤ k) w' rb per n s) (hF2 : Fr (fun _ => False) w w') :
    Pair W cb rb per n w' s := by
  refine ⟨⟨fun k => W.heap.size ≤ k ∧ k < w.heap.size, fun k => w.heap.size ≤ k ∧ k < w'.heap.size, (hC.mono (fun k hk a => ⟨a, hk⟩)).kept hF2 (fun _ _ _ h => h), hR.mono (fun k hk a => ⟨a, hk⟩), fun k a => ⟨a.1, Nat.lt_of_lt_of_le a.2 hF2.size, fun b => by omega⟩, fun k a => ⟨Nat.le_trans hF.size a.1, a.2⟩⟩, (hF.mono (fun _ _ h => h.elim)).then hF2 (fun _ _ h => h.elim), ok⟩

theorem Two.locs {W : World} {cb rb kb per n : Nat} {x : Act5} {w : World} {s t : CS} (h : Two W cb rb kb per n (actCells x) w s t) :
    w.cell? ⟨kb, 0, none⟩ = some (.int .i64 x.kind) ∧ w.cell? ⟨kb, 1, none⟩ = some (.int .i64 x.id) ∧ w.cell? ⟨kb, 2, none⟩ = some (.int .i64 x.weight) ∧ w.cell? ⟨kb, 3, none⟩ = some (.int .i64 x.core) ∧ w.cell? ⟨kb, 4, none⟩ = some (.int .i64 x.n) :=
  ⟨(cell_at h.loc).trans rfl, (cell_at h.loc).trans rfl, (cell_at h.loc).trans rfl, (cell_at h.loc).trans rfl, (cell_at h.loc).trans rfl⟩

section
variable (W : World) (cb rb kb per n : Nat) (cs : Array Value) (w : World) (s t : CS) (h : Hid (Two W cb rb kb per n cs w s t))
include h

theorem t_add (id wt core : Int) (hw : (Lit.int .i64 id).wf = true) : Calls Try.prog 9 #[.pointer (some ⟨cb, 0, none⟩), .int .i64 id, .int .i64 wt, .int .i64 core] w fun e w' => e = .returned (.int .i64 (addV n s id wt core)) ∧ Hid (Two W cb rb kb per n cs w' (addN n s id wt core) t) :=
  h.out.onC (addN_ok h.out.okc hw) (fun S hC hS => add_t S w cb per n s hC h.out.okc hS id hw wt core)
theorem u_add (id wt core : Int) (hw : (Lit.int .i64 id).wf = true) : Calls Try.prog 37 #[.pointer (some ⟨rb, 0, none⟩), .int .i64 id, .int .i64 wt, .int .i64 core] w fun e w' => e = .returned (.int .i64 (addV n t id wt core)) ∧ Hid (Two W cb rb kb per n cs w' s (addN n t id wt core)) :=
  h.out.onR (addN_ok h.out.okr hw) (fun S hC hS => radd_t S w rb per n t hC h.out.okr hS id wt core)
theorem t_remove (id : Int) (hw : (Lit.int .i64 id).wf = true) : Calls Try.prog 15 #[.pointer (some ⟨cb, 0, none⟩), .int .i64 id] w fun e w' => e = .returned (.int .i64 (removeV s id)) ∧ Hid (Two W cb rb kb per n cs w' (removeN s id) t) :=
  h.out.onC (removeN_ok h.out.okc id) (fun S hC hS => remove_t S w cb per n s hC h.out.okc hS id hw)
theorem u_remove (id : Int) : Calls Try.prog 38 #[.pointer (some ⟨rb, 0, none⟩), .int .i64 id] w fun e w' => e = .returned (.int .i64 (removeV t id)) ∧ Hid (Two W cb rb kb per n cs w' s (removeN t id)) :=
  h.out.onR (removeN_ok h.out.okr id) (fun S hC hS => rremove_t S w rb per n t hC h.out.okr hS id)
theorem t_wake (id : Int) (hw : (Lit.int .i64 id).wf = true) : Calls Try.prog 16 #[.pointer (some ⟨cb, 0, none⟩), .int .i64 id] w fun e w' => e = .returned (.int .i64 (wakeV s id)) ∧ Hid (Two W cb rb kb per n cs w' (wakeN s id) t) :=
  h.out.onC (wakeN_ok h.out.okc id) (fun S hC hS => wake_t S w cb per n s hC h.out.okc hS id hw)
theorem u_wake (id : Int) : Calls Try.prog 39 #[.pointer (some ⟨rb, 0, none⟩), .int .i64 id] w fun e w' => e = .returned (.int .i64 (wakeV t id)) ∧ Hid (Two W cb rb kb per n cs w' s (wakeN t id)) :=
  h.out.onR (wakeN_ok h.out.okr id) (fun S hC hS => rwake_t S w rb per n t hC h.out.okr hS id)
theorem t_block (id : Int) (hw : (Lit.int .i64 id).wf = true) : Calls Try.prog 17 #[.pointer (some ⟨cb, 0, none⟩), .int .i64 id] w fun e w' => e = .returned (.int .i64 (blockV s id)) ∧ Hid (Two W cb rb kb per n cs w' (blockN s id) t) :=
  h.out.onC (blockN_ok h.out.okc id) (fun S hC hS => block_t S w cb per n s hC h.out.okc hS id hw)
theorem u_block (id : Int) : Calls Try.prog 40 #[.pointer (some ⟨rb, 0, none⟩), .int .i64 id] w fun e w' => e = .returned (.int .i64 (blockV t id)) ∧ Hid (Two W cb rb kb per n cs w' s (blockN t id)) :=
  h.out.onR (blockN_ok h.out.okr id) (fun S hC hS => rblock_t S w rb per n t hC h.out.okr hS id)
theorem t_pick (i : Int) : Calls Try.prog 12 #[.pointer (some ⟨cb, 0, none⟩), .int .i64 i] w fun e w' => e = .returned (.tuple #[.int .i64 (pickV n s i).1, .bool (pickV n s i).2.1, .int .i64 (pickV n s i).2.2]) ∧ Hid (Two W cb rb kb per n cs w' (pickN n s i) t) :=
  h.out.onC (pickN_ok h.out.okc i) (fun S hC hS => pick_t S w cb per n s hC h.out.okc hS i)
theorem u_pick (i : Int) : Calls Try.prog 41 #[.pointer (some ⟨rb, 0, none⟩), .int .i64 i] w fun e w' => e = .returned (.tuple #[.int .i64 (pickV n t i).1, .bool (pickV n t i).2.1, .int .i64 (pickV n t i).2.2]) ∧ Hid (Two W cb rb kb per n cs w' s (pickN n t i)) :=
  h.out.onR (pickN_ok h.out.okr i) (fun S hC hS => rpick_t S w rb per n t hC h.out.okr hS i)
theorem t_charge (i m : Int) : Calls Try.prog 18 #[.pointer (some ⟨cb, 0, none⟩), .int .i64 i, .int .i64 m] w fun e w' => e = .returned (.int .i64 (chargeV n s i m)) ∧ Hid (Two W cb rb kb per n cs w' (chargeN per n s i m) t) :=
  h.out.onC (chargeN_ok h.out.okc i m) (fun S hC _ => charge_t S w cb per n s hC h.out.okc i m)
theorem u_charge (i m : Int) : Calls Try.prog 42 #[.pointer (some ⟨rb, 0, none⟩), .int .i64 i, .int .i64 m] w fun e w' => e = .returned (.int .i64 (chargeV n t i m)) ∧ Hid (Two W cb rb kb per n cs w' s (chargeN per n t i m)) :=
  h.out.onR (chargeN_ok h.out.okr i m) (fun S hC _ => rcharge_t S w rb per n t hC h.out.okr i m)
theorem t_yield (i : Int) : Calls Try.prog 13 #[.pointer (some ⟨cb, 0, none⟩), .int .i64 i] w fun e w' => e = .returned (.tuple #[.int .i64 (yieldV n s i).1, .int .i64 (yieldV n s i).2]) ∧ Hid (Two W cb rb kb per n cs w' (yieldN n s i) t) :=
  h.out.onC (yieldN_ok h.out.okc i) (fun S hC hS => yield_t S w cb per n s hC h.out.okc hS i)
theorem u_yield (i : Int) : Calls Try.prog 43 #[.pointer (some ⟨rb, 0, none⟩), .int .i64 i] w fun e w' => e = .returned (.tuple #[.int .i64 (yieldV n t i).1, .int .i64 (yieldV n t i).2]) ∧ Hid (Two W cb rb kb per n cs w' s (yieldN n t i)) :=
  h.out.onR (yieldN_ok h.out.okr i) (fun S hC hS => ryield_t S w rb per n t hC h.out.okr hS i)
theorem t_refill : Calls Try.prog 10 #[.pointer (some ⟨cb, 0, none⟩)] w fun e w' => e = .returned (.int .i64 0) ∧ Hid (Two W cb rb kb per n cs w' (refillS per s) t) :=
  h.out.onC h.out.okc.refill (fun S hC _ => refill_c S w cb per n s hC h.out.okc)
theorem u_refill : Calls Try.prog 44 #[.pointer (some ⟨rb, 0, none⟩)] w fun e w' => e = .returned (.tuple #[]) ∧ Hid (Two W cb rb kb per n cs w' s (refillS per t)) :=
  h.out.onR h.out.okr.refill (fun S hC _ => rrefill_c S w rb per n t hC h.out.okr)
end
end Go.Proofs.Ytehjekcfhmmggaa

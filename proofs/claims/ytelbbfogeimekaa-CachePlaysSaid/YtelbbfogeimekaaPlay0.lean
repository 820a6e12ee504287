/-
  The cache and the reference's cache side by side, and what each call does to the one and leaves of the other. No conditions.
-/
import Derived.Test.YtelbbfogeimekaaCref6
import Derived.Test.YtelbbfogeimekaaCacNA
import Derived.Test.YtelbbfogeimekaaCacPA
import Derived.Test.YtelbbfogeimekaaActs
namespace Go.Proofs.Ytelbbfogeimekaa
open Go.RowKit

/-- Both, and the call's act in a block of its own. -/
structure Two (W : World) (cb rb kb room : Nat) (cs : Array Value) (w : World) (L M : List (Ent Int Int)) : Prop where
  reg : ∃ S T : Nat → Prop, CACHEA S w cb room L ∧ REF T w rb room M ∧ (∀ k, S k → W.heap.size ≤ k ∧ k < w.heap.size ∧ ¬ T k ∧ k ≠ kb) ∧ ∀ k, T k → W.heap.size ≤ k ∧ k < w.heap.size ∧ k ≠ kb
  loc : w.heap[kb]? = some (.cells cs 24 (0, 0))
  kbW : W.heap.size ≤ kb
  fr : Fr (fun k => W.heap.size ≤ k) W w
  r1 : 1 ≤ room
  r2 : room ≤ 1024
  sl : L.length ≤ room
  tl : M.length ≤ room

theorem put_le {K V : Type} [DecidableEq K] {room : Nat} {L : List (Ent K V)} (g : Int) (k : K) (v : V) (h : L.length ≤ room) : (putE room L g k v).length ≤ room := by
  unfold putE
  split
  · simpa [setE] using h
  · split
    · simp [addE]; omega
    · simp [addE]; omega
theorem drop_le {K V : Type} [DecidableEq K] {room : Nat} {L : List (Ent K V)} (g : Int) (k : K) (h : L.length ≤ room) : (dropE L g k).length ≤ room := by
  unfold dropE
  split
  · rename_i hh; rw [cut_length hh]; omega
  · exact h
theorem dropG_le {K V : Type} {room : Nat} {L : List (Ent K V)} (g : Int) (h : L.length ≤ room) : (dropG L g).length ≤ room :=
  Nat.le_trans (List.length_filter_le _ _) h

section
variable {W : World} {cb rb kb room : Nat} {cs : Array Value} {w w' : World} {L M : List (Ent Int Int)}

theorem Two.still (h : Two W cb rb kb room cs w L M) (hf : Fr (fun _ => False) w w') : Two W cb rb kb room cs w' L M := by
  obtain ⟨S, T, hC, hR, hS, hT⟩ := h.reg
  exact ⟨⟨S, T, hC.kept hf (fun _ _ _ h => h), hR.kept hf (fun _ _ _ h => h), fun k a => ⟨(hS k a).1, Nat.lt_of_lt_of_le (hS k a).2.1 hf.size, (hS k a).2.2⟩, fun k a => ⟨(hT k a).1, Nat.lt_of_lt_of_le (hT k a).2.1 hf.size, (hT k a).2.2⟩⟩,
    by rw [hf.block kb (heap_lt h.loc) (fun h => h)]; exact h.loc, h.kbW, h.fr.then hf (fun _ _ h => h.elim), h.r1, h.r2, h.sl, h.tl⟩

/-- A call of the cache's. -/
theorem Two.onC (h : Two W cb rb kb room cs w L M) {f : Nat} {args : Array Value} {r : Value} {L' : List (Ent Int Int)} (hl : L'.length ≤ room)
    (hc : ∀ S, CACHEA S w cb room L → (∀ k, w.heap.size ≤ k → S k) → Calls Try.prog f args w fun e w' => e = .returned r ∧ Hid (CACHEA S w' cb room L') ∧ Hid (Fr S w w')) :
    Calls Try.prog f args w fun e w' => e = .returned r ∧ Hid (Two W cb rb kb room cs w' L' M) := by
  obtain ⟨S, T, hC, hR, hS, hT⟩ := h.reg
  have hkb := heap_lt h.loc
  refine (hc (fun k => S k ∨ w.heap.size ≤ k) (hC.mono (fun _ _ a => .inl a)) (fun _ a => .inr a)).mono ?_
  rintro e w' ⟨he, h1, hf⟩
  have h1 := h1.out
  have hf := hf.out
  refine ⟨he, ⟨⟨fun k => (S k ∨ w.heap.size ≤ k) ∧ k < w'.heap.size, T, h1.mono (fun k hk a => ⟨a, hk⟩), hR.kept hf (fun k hk a b => ?_), ?_, fun k a => ⟨(hT k a).1, Nat.lt_of_lt_of_le (hT k a).2.1 hf.size, (hT k a).2.2⟩⟩, ?_, h.kbW, ?_, h.r1, h.r2, hl, h.tl⟩⟩
  · rcases b with b | b
    · exact (hS k b).2.2.1 a
    · omega
  · rintro k ⟨a | a, b⟩
    · exact ⟨(hS k a).1, b, (hS k a).2.2⟩
    · refine ⟨Nat.le_trans h.fr.size a, b, fun c => ?_, by omega⟩
      have := (hT k c).2.1
      omega
  · rw [hf.block kb hkb (fun b => ?_)]
    · exact h.loc
    · rcases b with b | b
      · exact (hS kb b).2.2.2 rfl
      · omega
  · refine h.fr.then hf (fun k hk b => ?_)
    rcases b with b | b
    · exact (hS k b).1
    · exact Nat.le_trans h.fr.size b

/-- A call of the reference's. -/
theorem Two.onR (h : Two W cb rb kb room cs w L M) {f : Nat} {args : Array Value} {r : Value} {M' : List (Ent Int Int)} (hl : M'.length ≤ room)
    (hc : ∀ T, REF T w rb room M → (∀ k, w.heap.size ≤ k → T k) → Calls Try.prog f args w fun e w' => e = .returned r ∧ Hid (REF T w' rb room M') ∧ Hid (Fr T w w')) :
    Calls Try.prog f args w fun e w' => e = .returned r ∧ Hid (Two W cb rb kb room cs w' L M') := by
  obtain ⟨S, T, hC, hR, hS, hT⟩ := h.reg
  have hkb := heap_lt h.loc
  refine (hc (fun k => T k ∨ w.heap.size ≤ k) (hR.mono (fun _ _ a => .inl a)) (fun _ a => .inr a)).mono ?_
  rintro e w' ⟨he, h1, hf⟩
  have h1 := h1.out
  have hf := hf.out
  refine ⟨he, ⟨⟨S, fun k => (T k ∨ w.heap.size ≤ k) ∧ k < w'.heap.size, hC.kept hf (fun k hk a b => ?_), h1.mono (fun k hk a => ⟨a, hk⟩), fun k a => ⟨(hS k a).1, Nat.lt_of_lt_of_le (hS k a).2.1 hf.size, fun b => ?_, (hS k a).2.2.2⟩, ?_⟩, ?_, h.kbW, ?_, h.r1, h.r2, h.sl, hl⟩⟩
  · rcases b with b | b
    · exact (hS k a).2.2.1 b
    · omega
  · rcases b.1 with b | b
    · exact (hS k a).2.2.1 b
    · have := (hS k a).2.1
      omega
  · rintro k ⟨a | a, b⟩
    · exact ⟨(hT k a).1, b, (hT k a).2.2⟩
    · exact ⟨Nat.le_trans h.fr.size a, b, by omega⟩
  · rw [hf.block kb hkb (fun b => ?_)]
    · exact h.loc
    · rcases b with b | b
      · exact (hT kb b).2.2 rfl
      · omega
  · refine h.fr.then hf (fun k hk b => ?_)
    rcases b with b | b
    · exact (hT k b).1
    · exact Nat.le_trans h.fr.size b
end

/-- Between two rounds: no act is laid. -/
def Pair (W : World) (cb rb room : Nat) (w : World) (L : List (Ent Int Int)) : Prop :=
  (∃ S T : Nat → Prop, CACHEA S w cb room L ∧ REF T w rb room L ∧ (∀ k, S k → W.heap.size ≤ k ∧ k < w.heap.size ∧ ¬ T k) ∧ ∀ k, T k → W.heap.size ≤ k ∧ k < w.heap.size) ∧ Fr (fun k => W.heap.size ≤ k) W w ∧ 1 ≤ room ∧ room ≤ 1024 ∧ L.length ≤ room

theorem Pair.start {W : World} {cb rb room : Nat} {w : World} {L : List (Ent Int Int)} (h : Pair W cb rb room w L) (cs : Array Value) : Two W cb rb w.heap.size room cs (w.alloc (.cells cs 24)) L L := by
  obtain ⟨⟨S, T, hC, hR, hS, hT⟩, hF, h1, h2, h3⟩ := h
  have hf : Fr (fun _ => False) w (w.alloc (.cells cs 24)) := (Fr.refl _ w).alloc _
  exact ⟨⟨S, T, hC.kept hf (fun _ _ _ h => h), hR.kept hf (fun _ _ _ h => h), fun k a => ⟨(hS k a).1, Nat.lt_of_lt_of_le (hS k a).2.1 hf.size, (hS k a).2.2, Nat.ne_of_lt (hS k a).2.1⟩, fun k a => ⟨(hT k a).1, Nat.lt_of_lt_of_le (hT k a).2 hf.size, Nat.ne_of_lt (hT k a).2⟩⟩,
    heap_alloc_new w _, hF.size, hF.then hf (fun _ _ h => h.elim), h1, h2, h3, h3⟩

theorem Two.round {W : World} {cb rb kb room : Nat} {cs : Array Value} {w : World} {L : List (Ent Int Int)} (h : Two W cb rb kb room cs w L L) : Pair W cb rb room w L := by
  obtain ⟨S, T, hC, hR, hS, hT⟩ := h.reg
  exact ⟨⟨S, T, hC, hR, fun k a => ⟨(hS k a).1, (hS k a).2.1, (hS k a).2.2.1⟩, fun k a => ⟨(hT k a).1, (hT k a).2.1⟩⟩, h.fr, h.r1, h.r2, h.sl⟩

theorem Pair.new {W w w' : World} {room : Nat} (h1 : 1 ≤ room) (h2 : room ≤ 1024) (hC : CACHEA (fun k => W.heap.size ≤ k) w (W.heap.size + 1) room []) (hF : Fr (fun _ => False) W w) (hR : REF (fun k => w.heap.size ≤ k) w' w.heap.size room []) (hF2 : Fr (fun _ => False) w w') :
    Pair W (W.heap.size + 1) w.heap.size room w' [] := by
  refine ⟨⟨fun k => W.heap.size ≤ k ∧ k < w.heap.size, fun k => w.heap.size ≤ k ∧ k < w'.heap.size, (hC.mono (fun k hk a => ⟨a, hk⟩)).kept hF2 (fun _ _ _ h => h), hR.mono (fun k hk a => ⟨a, hk⟩), fun k a => ⟨a.1, Nat.lt_of_lt_of_le a.2 hF2.size, fun b => by omega⟩, fun k a => ⟨Nat.le_trans hF.size a.1, a.2⟩⟩, (hF.mono (fun _ _ h => h.elim)).then hF2 (fun _ _ h => h.elim), h1, h2, Nat.zero_le _⟩

section
variable (W : World) (cb rb kb room : Nat) (cs : Array Value) (w : World) (L M : List (Ent Int Int)) (h : Hid (Two W cb rb kb room cs w L M)) (g k : Int)
include h

theorem t_put (v : Int) (hg : (Lit.int .i64 g).wf = true) (hk : (Lit.int .u64 k).wf = true) : Calls Try.prog 8 #[.pointer (some ⟨cb, 0, none⟩), .int .i64 g, .int .u64 k, .int .i64 v] w fun e w' => e = .returned (.int .i64 0) ∧ Hid (Two W cb rb kb room cs w' (putE room L g k v) M) :=
  h.out.onC (put_le g k v h.out.sl) (fun S hC hS => putA S w cb room L g k v hg hk hS hC h.out.sl)
theorem u_put (v : Int) : Calls Try.prog 15 #[.pointer (some ⟨rb, 0, none⟩), .int .i64 g, .int .u64 k, .int .i64 v] w fun e w' => e = .returned (.tuple #[]) ∧ Hid (Two W cb rb kb room cs w' L (putE room M g k v)) :=
  h.out.onR (put_le g k v h.out.tl) (fun S hC hS => put_ref S w rb room M hC g k v hS h.out.r1 h.out.r2 h.out.tl)
theorem t_drop (hg : (Lit.int .i64 g).wf = true) (hk : (Lit.int .u64 k).wf = true) : Calls Try.prog 9 #[.pointer (some ⟨cb, 0, none⟩), .int .i64 g, .int .u64 k] w fun e w' => e = .returned (.bool (hasE L g k)) ∧ Hid (Two W cb rb kb room cs w' (dropE L g k) M) :=
  h.out.onC (drop_le g k h.out.sl) (fun S hC _ => dropA S w cb room L g k hg hk hC)
theorem u_drop : Calls Try.prog 16 #[.pointer (some ⟨rb, 0, none⟩), .int .i64 g, .int .u64 k] w fun e w' => e = .returned (.bool (hasE M g k)) ∧ Hid (Two W cb rb kb room cs w' L (dropE M g k)) :=
  h.out.onR (drop_le g k h.out.tl) (fun S hC hS => drop_ref S w rb room M hC g k hS (Nat.le_trans h.out.tl (Nat.le_trans h.out.r2 (by decide))))
theorem t_dropg (hg : (Lit.int .i64 g).wf = true) : Calls Try.prog 10 #[.pointer (some ⟨cb, 0, none⟩), .int .i64 g] w fun e w' => e = .returned (.int .i64 ((L.length - (dropG L g).length : Nat) : Int)) ∧ Hid (Two W cb rb kb room cs w' (dropG L g) M) :=
  h.out.onC (dropG_le g h.out.sl) (fun S hC _ => dropGA S w cb room L g hg hC (Nat.le_trans h.out.sl (Nat.le_trans h.out.r2 (by decide))))
theorem u_dropg : Calls Try.prog 17 #[.pointer (some ⟨rb, 0, none⟩), .int .i64 g] w fun e w' => e = .returned (.int .i64 ((M.length - (dropG M g).length : Nat) : Int)) ∧ Hid (Two W cb rb kb room cs w' L (dropG M g)) :=
  h.out.onR (dropG_le g h.out.tl) (fun S hC hS => dropG_ref S w rb room M hC g hS (Nat.le_trans h.out.tl (Nat.le_trans h.out.r2 (by decide))))
theorem t_get (hg : (Lit.int .i64 g).wf = true) (hk : (Lit.int .u64 k).wf = true) : Calls Try.prog 7 #[.pointer (some ⟨cb, 0, none⟩), .int .i64 g, .int .u64 k] w fun e w' => e = .returned (.tuple #[.int .i64 ((getE L g k).getD 0), .bool (hasE L g k)]) ∧ Hid (Two W cb rb kb room cs w' L M) := by
  obtain ⟨S, T, hC, _⟩ := h.out.reg
  refine (getA S w cb room L hC g k hg hk).out.mono ?_
  rintro e w' ⟨he, hf⟩
  refine ⟨?_, h.out.still hf.out⟩
  rw [he]
  cases getE L g k <;> rfl
theorem u_get : Calls Try.prog 18 #[.pointer (some ⟨rb, 0, none⟩), .int .i64 g, .int .u64 k] w fun e w' => e = .returned (.tuple #[.int .i64 ((getE M g k).getD 0), .bool (hasE M g k)]) ∧ w = w' := by
  obtain ⟨S, T, _, hR, _⟩ := h.out.reg
  exact get_ref T w rb room M hR g k
theorem t_len : Calls Try.prog 11 #[.pointer (some ⟨cb, 0, none⟩)] w fun e w' => e = .returned (.int .i64 L.length) ∧ w = w' := by
  obtain ⟨S, T, hC, _⟩ := h.out.reg
  exact (lenA S w cb room L hC).out
theorem u_loc : ∃ so sc, w.cell? ⟨rb, 1, none⟩ = some (.slice so M.length sc) := by
  obtain ⟨S, T, _, ⟨so, sc, hR⟩, _⟩ := h.out.reg
  exact ⟨so, sc, hR.locs.2.1⟩
end
end Go.Proofs.Ytelbbfogeimekaa

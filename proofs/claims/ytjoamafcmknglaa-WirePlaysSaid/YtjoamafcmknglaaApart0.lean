/-
  Two wires side by side, one of which hears nothing of one group: what each call does to the one and leaves of the other. No conditions.
-/
import Derived.Test.YtjoamafcmknglaaOpen
namespace Go.Proofs.Ytjoamafcmknglaa
open Go.RowKit Go.Conc

def gg (i : Nat) : Int := if i % 2 = 0 then 1 else 2

/-- Two wires of four ports, and blocks K that are neither's. -/
def PAIR (W w : World) (lw lo : Nat) (Q Q' : QS) (K : Nat → Prop) : Prop :=
  ∃ A B : Nat → Prop, WIRE A w lw 4 gg Q ∧ WIRE B w lo 4 gg Q' ∧ (∀ k, A k → ¬ B k) ∧ (∀ k, A k → W.heap.size ≤ k) ∧ (∀ k, B k → W.heap.size ≤ k) ∧ Fr (fun k => W.heap.size ≤ k) W w ∧
    ∀ k, K k → k < w.heap.size ∧ ¬ A k ∧ ¬ B k

/-- The blocks K are as they were. -/
def KEEP (K : Nat → Prop) (w w' : World) : Prop := ∀ k, K k → w'.heap[k]? = w.heap[k]?
theorem KEEP.cell {K : Nat → Prop} {w w' : World} (h : KEEP K w w') {p : Addr} (hp : K p.block) : w'.cell? p = w.cell? p := World.cell?_of_block (h p.block hp)
theorem KEEP.src {K : Nat → Prop} {w w' : World} {bo : Option Addr} {xs : List UInt8} (h : KEEP K w w') (hs : Src w bo xs) (hg : ∀ g, blk bo = some g → K g) : Src w' bo xs :=
  ⟨hs.nil, fun ad had j u hu => by
    have hb : (ad.add j).block = ad.block := by unfold Addr.add; split <;> rfl
    exact (h.cell (by rw [hb]; exact hg _ (by rw [had]; rfl))).trans (hs.cells ad had j u hu)⟩

theorem Src.kept {w w' : World} {bo : Option Addr} {xs : List UInt8} {T : Nat → Prop} (h : Src w bo xs) (hf : Fr T w w') (hT : ∀ ad, bo = some ad → ¬ T ad.block) : Src w' bo xs :=
  ⟨h.nil, fun ad had j u hu => by
    have hc := h.cells ad had j u hu
    have hb : (ad.add j).block = ad.block := by unfold Addr.add; split <;> rfl
    exact (hf.cell (block_lt_of_cell hc) (by rw [hb]; exact hT ad had)).trans hc⟩
theorem Src.old {W w : World} {bo : Option Addr} {xs : List UInt8} (h : Src W bo xs) (hf : Fr (fun k => W.heap.size ≤ k) W w) : Src w bo xs :=
  ⟨h.nil, fun ad had j u hu => by
    have hc := h.cells ad had j u hu
    exact (hf.cell (block_lt_of_cell hc) (Nat.not_le_of_lt (block_lt_of_cell hc))).trans hc⟩
theorem src_of_owns {w : World} {base l cap : Nat} {ro : Option Addr} {xs : List UInt8} (h : w.ownsRow base 5 1 (.slice ro l cap) l (bv xs)) : Src w ro xs := by
  have hlen : xs.length = l := by have := h.1; unfold bv at this; rw [List.length_map] at this; omega
  have hh := owns_len h
  refine ⟨fun e => ?_, fun ad had j u hu => ?_⟩
  · have := hh.2.2.2 e
    exact List.eq_nil_of_length_eq_zero (by omega)
  · rw [had] at h
    have hc := h.cells (g := ad.block) (by rw [ownBlock_slice]; rfl) j u hu
    have had' : ad = ⟨ad.block, 0, none⟩ := by
      rcases h.2 with ⟨hv, _⟩ | ⟨g, cap, cur, hv, _⟩
      · cases hv
      · simp only [Value.slice.injEq, Option.some.injEq] at hv
        rw [hv.1]
    rw [had']
    exact hc

section
variable {W w w' : World} {lw lo : Nat} {Q Q' : QS} {K : Nat → Prop}

theorem WIRE.lt {S : Nat → Prop} {n : Nat} {G : Nat → Int} (h : WIRE S w lw n G Q) : lw < w.heap.size ∧ S lw := by
  obtain ⟨gb, gc, pb, pc, ch, q, h, hQ⟩ := h
  exact ⟨heap_lt h.l, h.mine.1⟩
/-- A wire is kept by whatever leaves its blocks that are there. -/
theorem WIRE.keptAt {S T : Nat → Prop} {n : Nat} {G : Nat → Int} (h : WIRE S w lw n G Q) (hf : Fr T w w') (hT : ∀ k, k < w.heap.size → S k → ¬ T k) : WIRE S w' lw n G Q := by
  obtain ⟨gb, gc, pb, pc, ch, q, h, hQ⟩ := h
  exact ⟨gb, gc, pb, pc, ch, q, h.of_heap (fun k hk hs => hf.block k hk (hT k hk hs)), hQ⟩

theorem PAIR.still (h : PAIR W w lw lo Q Q' K) (hf : Fr (fun _ => False) w w') : PAIR W w' lw lo Q Q' K ∧ KEEP K w w' := by
  obtain ⟨A, B, h1, h2, h3, h4, h5, h6, h7⟩ := h
  exact ⟨⟨A, B, h1.kept hf (fun _ _ h => h), h2.kept hf (fun _ _ h => h), h3, h4, h5, h6.then hf (fun _ _ h => h.elim), fun k hk => ⟨Nat.lt_of_lt_of_le (h7 k hk).1 hf.size, (h7 k hk).2⟩⟩, fun k hk => hf.block k (h7 k hk).1 (fun h => h)⟩

theorem PAIR.swap (h : PAIR W w lw lo Q Q' K) : PAIR W w lo lw Q' Q K := by
  obtain ⟨A, B, h1, h2, h3, h4, h5, h6, h7⟩ := h
  exact ⟨B, A, h2, h1, fun k b a => h3 k a b, h5, h4, h6, fun k hk => ⟨(h7 k hk).1, (h7 k hk).2.2, (h7 k hk).2.1⟩⟩

theorem PAIR.less (h : PAIR W w lw lo Q Q' K) {K' : Nat → Prop} (hK : ∀ k, K' k → K k) : PAIR W w lw lo Q Q' K' := by
  obtain ⟨A, B, h1, h2, h3, h4, h5, h6, h7⟩ := h
  exact ⟨A, B, h1, h2, h3, h4, h5, h6, fun k hk => h7 k (hK k hk)⟩

/-- A new block is neither's. -/
theorem PAIR.alloc (h : PAIR W w lw lo Q Q' K) (o : Obj) : PAIR W (w.alloc o) lw lo Q Q' (fun k => K k ∨ k = w.heap.size) ∧ KEEP K w (w.alloc o) := by
  have hs := (h.still ((Fr.refl _ w).alloc o)).2
  obtain ⟨A, B, h1, h2, h3, h4, h5, h6, h7⟩ := h
  have hf : Fr (fun _ => False) w (w.alloc o) := (Fr.refl _ w).alloc o
  refine ⟨⟨fun k => A k ∧ k < w.heap.size, fun k => B k ∧ k < w.heap.size, (h1.mono (fun k hk a => ⟨a, hk⟩)).kept hf (fun _ _ h => h), (h2.mono (fun k hk a => ⟨a, hk⟩)).kept hf (fun _ _ h => h), fun k a b => h3 k a.1 b.1, fun k a => h4 k a.1, fun k b => h5 k b.1, h6.then hf (fun _ _ h => h.elim), fun k hk => ?_⟩, hs⟩
  rw [World.size_alloc]
  rcases hk with hk | rfl
  · exact ⟨Nat.lt_succ_of_lt (h7 k hk).1, fun a => (h7 k hk).2.1 a.1, fun b => (h7 k hk).2.2 b.1⟩
  · exact ⟨Nat.lt_succ_self _, fun a => Nat.lt_irrefl _ a.2, fun b => Nat.lt_irrefl _ b.2⟩

/-- What a step of the first wire wants, and gives. -/
theorem PAIR.left (h : PAIR W w lw lo Q Q' K) : ∃ A : Nat → Prop, WIRE A w lw 4 gg Q ∧ (∀ k, w.heap.size ≤ k → A k) ∧ (∀ k, A k → W.heap.size ≤ k) ∧
    ∀ w' Q1, Fr A w w' → KEEP K w w' ∧ (WIRE A w' lw 4 gg Q1 → PAIR W w' lw lo Q1 Q' K) ∧
      ∀ r, WIRE (fun k => A k ∧ blk r ≠ some k) w' lw 4 gg Q1 → (∀ g, blk r = some g → A g ∧ g < w'.heap.size) → PAIR W w' lw lo Q1 Q' (fun k => K k ∨ blk r = some k) := by
  obtain ⟨A, B, h1, h2, h3, h4, h5, h6, h7⟩ := h
  have hW := h6.size
  refine ⟨fun k => A k ∧ (k < w.heap.size) ∨ w.heap.size ≤ k, h1.mono (fun k hk a => .inl ⟨a, hk⟩), fun k hk => .inr hk, fun k hk => ?_, fun w' Q1 hf => ?_⟩
  · rcases hk with ⟨a, _⟩ | hk
    · exact h4 k a
    · exact Nat.le_trans hW hk
  · have hB : WIRE (fun k => B k ∧ k < w.heap.size) w' lo 4 gg Q' := (h2.mono (fun k hk b => ⟨b, hk⟩)).keptAt hf (fun k hk b a => by
      rcases a with ⟨a, _⟩ | a
      · exact h3 k a b.1
      · omega)
    have hfr : Fr (fun k => W.heap.size ≤ k) W w' := h6.then hf (fun k hk a => by
      rcases a with ⟨a, _⟩ | a
      · exact h4 k a
      · omega)
    have hK : ∀ k, K k → ¬ (A k ∧ (k < w.heap.size) ∨ w.heap.size ≤ k) := fun k hk => by
      rintro (⟨a, _⟩ | a)
      · exact (h7 k hk).2.1 a
      · have := (h7 k hk).1; omega
    have hAB : ∀ k, A k ∧ (k < w.heap.size) ∨ w.heap.size ≤ k → ¬ (B k ∧ k < w.heap.size) := by
      rintro k (⟨a, _⟩ | a) b
      · exact h3 k a b.1
      · have := b.2; omega
    have hAW : ∀ k, A k ∧ (k < w.heap.size) ∨ w.heap.size ≤ k → W.heap.size ≤ k := by
      rintro k (⟨a, _⟩ | a)
      · exact h4 k a
      · omega
    refine ⟨fun k hk => hf.block k (h7 k hk).1 (hK k hk), fun hA => ⟨_, _, hA, hB, hAB, hAW, fun k b => h5 k b.1, hfr, fun k hk => ⟨Nat.lt_of_lt_of_le (h7 k hk).1 hf.size, hK k hk, fun b => (h7 k hk).2.2 b.1⟩⟩,
      fun r hA hr => ⟨_, _, hA, hB, fun k a => hAB k a.1, fun k a => hAW k a.1, fun k b => h5 k b.1, hfr, fun k hk => ?_⟩⟩
    rcases hk with hk | hk
    · exact ⟨Nat.lt_of_lt_of_le (h7 k hk).1 hf.size, fun a => hK k hk a.1, fun b => (h7 k hk).2.2 b.1⟩
    · exact ⟨(hr k hk).2, fun a => a.2 hk, hAB k (hr k hk).1⟩
end

/-- What is received: from whom, the bytes, whether. -/
def rcvF (Q : QS) (i : Nat) : Int := match Q i with | [] => 0 | m :: _ => m.1
def rcvB (Q : QS) (i : Nat) : List UInt8 := match Q i with | [] => [] | m :: _ => m.2
def rcvO (Q : QS) (i : Nat) : Bool := match Q i with | [] => false | _ :: _ => true
def rcvQ (Q : QS) (i : Nat) : QS := match Q i with | [] => Q | _ :: l => updA Q i l

section
variable (W w : World) (lw lo : Nat) (Q Q' : QS) (K : Nat → Prop) (h : Hid (PAIR W w lw lo Q Q' K))
include h

theorem p_send (bo : Option Addr) (bl bc : Nat) (b : List UInt8) (hb : Hid (Bts W bo bl bc b)) (f t : Int) (x y : Int) (hx : Hid ((x, y) = (sendR 4 gg Q f t b).1)) :
    Calls Try.prog 8 #[.pointer (some ⟨lw, 0, none⟩), .int .i64 f, .int .i64 t, .slice bo bl bc] w fun e w' => e = .returned (.tuple #[.int .i64 x, .int .i64 y]) ∧ Hid (PAIR W w' lw lo (sendR 4 gg Q f t b).2 Q' K) ∧ Hid (KEEP K w w') := by
  have hfr : Fr (fun k => W.heap.size ≤ k) W w := by obtain ⟨A, B, h1, h2, h3, h4, h5, h6, _⟩ := h.out; exact h6
  obtain ⟨A, h1, h2, h3, h4⟩ := h.out.left
  obtain ⟨b1, b2, b3, b4, b5⟩ := hb.out
  have hI : Inp A w bo bl bc b := ⟨b3.old hfr, b4, b5, fun ad e hne ha => by
    cases b with
    | nil => exact hne rfl
    | cons z l =>
      have hc := b3.cells ad e 0 (.int .u8 z.toNat) rfl
      have hlt := block_lt_of_cell hc
      have hblk : (ad.add 0).block = ad.block := by unfold Addr.add; split <;> rfl
      have := h3 _ ha
      omega⟩
  refine (send_any A w lw 4 gg Q h1 h2 bo bl bc b hI (by omega) f t).mono ?_
  rintro e w' ⟨rfl, q1, q2⟩
  refine ⟨?_, (h4 w' _ q2.out).2.1 q1.out, (h4 w' Q q2.out).1⟩
  unfold tup
  rw [← hx.out]

theorem p_recv (i : Nat) (hi : i < 4) (src : Int) (xs : List UInt8) (ok : Bool) (h1 : Hid (src = rcvF Q i)) (h2 : Hid (xs = rcvB Q i)) (h3 : Hid (ok = rcvO Q i)) :
    Calls Try.prog 9 #[.pointer (some ⟨lw, 0, none⟩), .int .i64 i] w fun e w' => ∃ r cap, e = .returned (.tuple #[.agg #[.int .i64 src, .slice r xs.length cap], .bool ok]) ∧ Hid (PAIR W w' lw lo (rcvQ Q i) Q' (fun k => K k ∨ blk r = some k)) ∧ Hid (Src w' r xs) ∧ Hid (KEEP K w w') := by
  have h1 := h1.out
  have h2 := h2.out
  have h3 := h3.out
  obtain ⟨A, q1, q2, q3, q4⟩ := h.out.left
  cases hQ : Q i with
  | nil =>
    simp only [rcvF, rcvB, rcvO, hQ] at h1 h2 h3
    subst h1 h2 h3
    refine (receive_none A w lw 4 gg Q q1 i hi hQ).mono ?_
    rintro e w' ⟨rfl, hf⟩
    refine ⟨none, 0, rfl, ?_, ⟨fun _ => rfl, fun ad e => by cases e⟩, (q4 w' Q (hf.out.mono (fun k _ hk => q2 k hk))).1⟩
    have hP := (q4 w' Q (hf.out.mono (fun k _ hk => q2 k hk))).2.1 (q1.keptAt hf.out (fun k hk _ h' => by omega))
    simp only [rcvQ, hQ]
    exact hP.less (fun k hk => by rcases hk with hk | hk; exact hk; cases hk)
  | cons m l =>
    obtain ⟨s, b⟩ := m
    simp only [rcvF, rcvB, rcvO, hQ] at h1 h2 h3
    subst h1 h2 h3
    refine (receive_some A w lw 4 gg Q q1 q2 i hi src xs l hQ).mono ?_
    rintro e w' ⟨r, cap, rfl, hown, hlen, hg, hW, hf⟩
    simp only [rcvQ, hQ]
    exact ⟨r, cap, rfl, (q4 w' _ hf.out).2.2 r hW.out (fun g hg' => ⟨hg.out g hg', owns_lt hown.out g hg'⟩), src_of_owns hown.out, (q4 w' Q hf.out).1⟩

theorem p_wait (i : Nat) (hi : i < 4) : Hid (Calls Try.prog 10 #[.pointer (some ⟨lw, 0, none⟩), .int .i64 i] w fun e w' => e = .returned (.int .i64 (Q i).length) ∧ w = w') := by
  obtain ⟨A, q1, _⟩ := h.out.left
  exact waiting_in A w lw 4 gg Q q1 i hi
end

/-- Behind both receives: the first one's message in its box, both slices' bytes. -/
structure After (W : World) (lw lo : Nat) (Q Q' : QS) (xb : Nat) (src : Int) (r : Option Addr) (l cap : Nat) (r2 : Option Addr) (xs : List UInt8) (w : World) : Prop where
  pair : PAIR W w lw lo Q Q' (fun _ => False)
  x0 : w.cell? ⟨xb, 0, none⟩ = some (.int .i64 src)
  x1 : w.cell? ⟨xb, 1, none⟩ = some (.slice r l cap)
  one : Src w r xs
  two : Src w r2 xs

theorem p_recv2 (W w : World) (lw lo : Nat) (Q Q' : QS) (K : Nat → Prop) (r : Option Addr) (l cap : Nat) (h : Hid (PAIR W w lw lo Q Q' (fun k => K k ∨ blk r = some k))) (xs : List UInt8) (hs : Hid (Src w r xs))
    (i : Nat) (hi : i < 4) (src : Int) (ok : Bool) (h1 : Hid (src = rcvF Q' i)) (h2 : Hid (xs = rcvB Q' i)) (h3 : Hid (ok = rcvO Q' i)) :
    Calls Try.prog 9 #[.pointer (some ⟨lo, 0, none⟩), .int .i64 i] (w.alloc (.cells #[.int .i64 src, .slice r l cap] 34)) fun e w' => ∃ r2 cap2, e = .returned (.tuple #[.agg #[.int .i64 src, .slice r2 xs.length cap2], .bool ok]) ∧ Hid (After W lw lo Q (rcvQ Q' i) w.heap.size src r l cap r2 xs w') := by
  have hn := heap_alloc_new w (.cells #[.int .i64 src, .slice r l cap] 34)
  refine (p_recv W _ lo lw Q' Q _ (hid (h.out.alloc _).1.swap) i hi src xs ok h1 h2 h3).mono ?_
  rintro e w' ⟨r2, cap2, rfl, hP, hS, hK⟩
  refine ⟨r2, cap2, rfl, hP.out.swap.less (fun _ h => h.elim), ?_, ?_, hK.out.src ((h.out.alloc _).2.src hs.out (fun g e => .inr e)) (fun g e => .inl (.inr e)), hS.out⟩
  · exact (hK.out.cell (p := ⟨w.heap.size, 0, none⟩) (.inr rfl)).trans ((cell_at hn).trans rfl)
  · exact (hK.out.cell (p := ⟨w.heap.size, 1, none⟩) (.inr rfl)).trans ((cell_at hn).trans rfl)

theorem Src.alloc {w : World} {r : Option Addr} {xs : List UInt8} (h : Src w r xs) (o : Obj) : Src (w.alloc o) r xs :=
  ⟨h.nil, fun ad had j u hu => by
    have hc := h.cells ad had j u hu
    rw [World.cell?_of_block (Below.heap_alloc _ _ _ (block_lt_of_cell hc))]
    exact hc⟩
end Go.Proofs.Ytjoamafcmknglaa

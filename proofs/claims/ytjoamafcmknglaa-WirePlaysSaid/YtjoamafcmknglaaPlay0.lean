/-
  The wire and the reference's wire side by side, and what each call does to the one and leaves of the other. No conditions.
-/
import Derived.Test.YtjoamafcmknglaaApart0
import Derived.Test.YtjoamafcmknglaaActs
import Derived.Test.YtjoamafcmknglaaWref4
import Derived.Test.YtjoamafcmknglaaWref5
namespace Go.Proofs.Ytjoamafcmknglaa
open Go.RowKit Go.Conc

/-- The wire, the reference's wire, and blocks K that are neither's. -/
def DUO (W w : World) (lw rb n : Nat) (G : Nat → Int) (Q : QS) (G' : Nat → Int) (Q' : QS) (K : Nat → Prop) : Prop :=
  ∃ A B : Nat → Prop, WIRE A w lw n G Q ∧ VP B w rb n G' Q' ∧ (∀ k, A k → ¬ B k) ∧ (∀ k, A k → W.heap.size ≤ k) ∧ (∀ k, B k → W.heap.size ≤ k) ∧ Fr (fun k => W.heap.size ≤ k) W w ∧
    ∀ k, K k → k < w.heap.size ∧ ¬ A k ∧ ¬ B k

/-- Bytes that a call is handed: in K, or as they came in. -/
structure Hand (K : Nat → Prop) (W w : World) (bo : Option Addr) (bl bc : Nat) (b : List UInt8) : Prop where
  src : Src w bo b
  len : b.length = bl
  nil : bo = none → bc = 0
  far : ∀ ad, bo = some ad → b ≠ [] → K ad.block ∨ ad.block < W.heap.size

/-- m bytes that may be written, at the head of a row. -/
def Row8 (w : World) (io : Option Addr) (m : Nat) : Prop :=
  ∀ j, j < m → ∃ g x, io = some ⟨g, 0, none⟩ ∧ w.cell? ⟨g, j, none⟩ = some (.int .u8 x) ∧ w.frozen? ⟨g, j, none⟩ = false

section
variable {W w w' : World} {lw rb n : Nat} {G G' : Nat → Int} {Q Q' : QS} {K : Nat → Prop} {io : Option Addr} {m : Nat}

theorem KEEP.row8 (h : KEEP K w w') (hr : Row8 w io m) (hg : ∀ g, blk io = some g → K g) : Row8 w' io m := by
  intro j hj
  obtain ⟨g, x, e, hc, hz⟩ := hr j hj
  have hb := h g (hg g (by rw [e]; rfl))
  exact ⟨g, x, e, (World.cell?_of_block (a := ⟨g, j, none⟩) hb).trans hc, by unfold World.frozen? at hz ⊢; rw [hb]; exact hz⟩

theorem row8_of_owns {base l cap : Nat} {ro : Option Addr} {xs : List UInt8} (hown : w.ownsRow base 5 1 (.slice ro l cap) l (bv xs)) : Row8 w ro l := by
  intro j hj
  have hlen : xs.length = l := by have := hown.1; unfold bv at this; rw [List.length_map] at this; omega
  rcases hown.2 with ⟨hv, h0⟩ | ⟨g, cap', cur, hv, _, hc, _, _, h3, h4⟩
  · omega
  · simp only [Value.slice.injEq] at hv
    obtain ⟨hv1, _, _⟩ := hv
    have hz := thawed (o := j) hc
    have hjx : j < xs.length := by omega
    have hcell := hown.cells (g := g) (by rw [ownBlock_slice, hv1]; rfl) j (.int .u8 (xs[j].toNat)) (by unfold bv; rw [List.getElem?_map, List.getElem?_eq_getElem hjx]; rfl)
    simp only [Addr.add_lit, Nat.zero_add] at hcell
    exact ⟨g, _, hv1, hcell, hz⟩

theorem Row8.turn (h : Row8 w io m) (g j : Nat) (x : Int) : Row8 (w.setCell ⟨g, j, none⟩ (.int .u8 x)) io m := by
  intro j' hj'
  obtain ⟨g', x', e', hc, hz⟩ := h j' hj'
  by_cases hgg : g = g'
  · subst hgg
    by_cases hjj : j = j'
    · subst hjj
      exact ⟨g, x, e', World.cell?_setCell_same' w _ _ (by rw [hc]; rfl), by rw [World.frozen?_setCell]; exact hz⟩
    · exact ⟨g, x', e', by rw [World.cell?_setCell_other w ⟨g, j, none⟩ ⟨g, j', none⟩ _ (fun h => hjj (Addr.mk.inj h).2.1)]; exact hc, by rw [World.frozen?_setCell]; exact hz⟩
  · exact ⟨g', x', e', by rw [World.cell?_setCell_other w ⟨g, j, none⟩ ⟨g', j', none⟩ _ (fun h => hgg (Addr.mk.inj h).1)]; exact hc, by rw [World.frozen?_setCell]; exact hz⟩

theorem DUO.fr (h : DUO W w lw rb n G Q G' Q' K) : Fr (fun k => W.heap.size ≤ k) W w := by
  obtain ⟨A, B, h1, h2, h3, h4, h5, h6, _⟩ := h
  exact h6

theorem DUO.lt (h : DUO W w lw rb n G Q G' Q' K) : ∀ k, K k → k < w.heap.size := by
  obtain ⟨A, B, h1, h2, h3, h4, h5, h6, h7⟩ := h
  exact fun k hk => (h7 k hk).1

theorem DUO.still (h : DUO W w lw rb n G Q G' Q' K) (hf : Fr (fun _ => False) w w') : DUO W w' lw rb n G Q G' Q' K ∧ KEEP K w w' := by
  obtain ⟨A, B, h1, h2, h3, h4, h5, h6, h7⟩ := h
  exact ⟨⟨A, B, h1.kept hf (fun _ _ h => h), h2.kept hf (fun _ _ _ h => h), h3, h4, h5, h6.then hf (fun _ _ h => h.elim), fun k hk => ⟨Nat.lt_of_lt_of_le (h7 k hk).1 hf.size, (h7 k hk).2⟩⟩, fun k hk => hf.block k (h7 k hk).1 (fun h => h)⟩

theorem DUO.less (h : DUO W w lw rb n G Q G' Q' K) {K' : Nat → Prop} (hK : ∀ k, K' k → K k) : DUO W w lw rb n G Q G' Q' K' := by
  obtain ⟨A, B, h1, h2, h3, h4, h5, h6, h7⟩ := h
  exact ⟨A, B, h1, h2, h3, h4, h5, h6, fun k hk => h7 k (hK k hk)⟩

/-- What was made beside both. -/
theorem DUO.more (h : DUO W w lw rb n G Q G' Q' K) (hf : Fr (fun _ => False) w w') : DUO W w' lw rb n G Q G' Q' (fun k => K k ∨ (w.heap.size ≤ k ∧ k < w'.heap.size)) ∧ KEEP K w w' := by
  have hs := (h.still hf).2
  obtain ⟨A, B, h1, h2, h3, h4, h5, h6, h7⟩ := h
  refine ⟨⟨fun k => A k ∧ k < w.heap.size, fun k => B k ∧ k < w.heap.size, (h1.mono (fun k hk a => ⟨a, hk⟩)).kept hf (fun _ _ h => h), (h2.mono (fun k hk a => ⟨a, hk⟩)).kept hf (fun _ _ _ h => h), fun k a b => h3 k a.1 b.1, fun k a => h4 k a.1, fun k b => h5 k b.1, h6.then hf (fun _ _ h => h.elim), fun k hk => ?_⟩, hs⟩
  rcases hk with hk | hk
  · exact ⟨Nat.lt_of_lt_of_le (h7 k hk).1 hf.size, fun a => (h7 k hk).2.1 a.1, fun b => (h7 k hk).2.2 b.1⟩
  · exact ⟨hk.2, fun a => by have := a.2; omega, fun b => by have := b.2; omega⟩

/-- A store into one of K. -/
theorem DUO.turn (h : DUO W w lw rb n G Q G' Q' K) (g : Nat) (hg : K g) (hW : W.heap.size ≤ g) (j : Nat) (v : Value) : DUO W (w.setCell ⟨g, j, none⟩ v) lw rb n G Q G' Q' K := by
  obtain ⟨A, B, h1, h2, h3, h4, h5, h6, h7⟩ := h
  have hf : Fr (fun k => k = g) w (w.setCell ⟨g, j, none⟩ v) := (Fr.refl (fun k => k = g) w).setCell (p := ⟨g, j, none⟩) (fun _ => rfl) _
  exact ⟨A, B, h1.kept hf (fun k a e => (h7 g hg).2.1 (e ▸ a)), h2.kept hf (fun k _ a e => (h7 g hg).2.2 (e ▸ a)), h3, h4, h5, h6.then hf (fun _ _ e => by rw [e]; exact hW), fun k hk => ⟨Nat.lt_of_lt_of_le (h7 k hk).1 hf.size, (h7 k hk).2⟩⟩

/-- What a step of the wire wants, and gives. -/
theorem DUO.left (h : DUO W w lw rb n G Q G' Q' K) : ∃ A : Nat → Prop, WIRE A w lw n G Q ∧ (∀ k, w.heap.size ≤ k → A k) ∧ (∀ k, A k → W.heap.size ≤ k) ∧ (∀ k, K k → ¬ A k) ∧
    ∀ w' G1 Q1, Fr A w w' → KEEP K w w' ∧ (WIRE A w' lw n G1 Q1 → DUO W w' lw rb n G1 Q1 G' Q' K) ∧
      ∀ r, WIRE (fun k => A k ∧ blk r ≠ some k) w' lw n G1 Q1 → (∀ g, blk r = some g → A g ∧ g < w'.heap.size) → DUO W w' lw rb n G1 Q1 G' Q' (fun k => K k ∨ blk r = some k) := by
  obtain ⟨A, B, h1, h2, h3, h4, h5, h6, h7⟩ := h
  have hW := h6.size
  have hK : ∀ k, K k → ¬ (A k ∧ (k < w.heap.size) ∨ w.heap.size ≤ k) := fun k hk => by
    rintro (⟨a, _⟩ | a)
    · exact (h7 k hk).2.1 a
    · have := (h7 k hk).1; omega
  refine ⟨fun k => A k ∧ (k < w.heap.size) ∨ w.heap.size ≤ k, h1.mono (fun k hk a => .inl ⟨a, hk⟩), fun k hk => .inr hk, fun k hk => ?_, hK, fun w' G1 Q1 hf => ?_⟩
  · rcases hk with ⟨a, _⟩ | hk
    · exact h4 k a
    · exact Nat.le_trans hW hk
  · have hB : VP (fun k => B k ∧ k < w.heap.size) w' rb n G' Q' := (h2.mono (fun k hk b => ⟨b, hk⟩)).kept hf (fun k hk b a => by
      rcases a with ⟨a, _⟩ | a
      · exact h3 k a b.1
      · omega)
    have hfr : Fr (fun k => W.heap.size ≤ k) W w' := h6.then hf (fun k hk a => by
      rcases a with ⟨a, _⟩ | a
      · exact h4 k a
      · omega)
    have hAB : ∀ k, A k ∧ (k < w.heap.size) ∨ w.heap.size ≤ k → ¬ (B k ∧ k < w.heap.size) := by
      rintro k (⟨a, _⟩ | a) b
      · exact h3 k a b.1
      · have := b.2; omega
    have hAW : ∀ k, A k ∧ (k < w.heap.size) ∨ w.heap.size ≤ k → W.heap.size ≤ k := by
      rintro k (⟨a, _⟩ | a)
      · exact h4 k a
      · omega
    refine ⟨fun k hk => hf.block k (h7 k hk).1 (hK k hk), fun hA => ⟨_, _, hA, hB, hAB, hAW, fun k b => h5 k b.1, hfr, fun k hk => ⟨Nat.lt_of_lt_of_le (h7 k hk).1 hf.size, hK k hk, fun b => (h7 k hk).2.2 b.1⟩⟩,
      fun r hA hr => ⟨_, _, hA, hB, fun k a => hAB k a.1, fun k a => hAW k a.1, fun k b => h5 k b.1, hfr, fun k hk => ?_⟩⟩
    rcases hk with hk | hk
    · exact ⟨Nat.lt_of_lt_of_le (h7 k hk).1 hf.size, fun a => hK k hk a.1, fun b => (h7 k hk).2.2 b.1⟩
    · exact ⟨(hr k hk).2, fun a => a.2 hk, hAB k (hr k hk).1⟩

/-- What a step of the reference wants, and gives. -/
theorem DUO.right (h : DUO W w lw rb n G Q G' Q' K) : ∃ B : Nat → Prop, VP B w rb n G' Q' ∧ (∀ k, w.heap.size ≤ k → B k) ∧ (∀ k, B k → W.heap.size ≤ k) ∧ (∀ k, K k → ¬ B k) ∧
    ∀ w' G1 Q1, Fr B w w' → KEEP K w w' ∧ (VP B w' rb n G1 Q1 → DUO W w' lw rb n G Q G1 Q1 K) := by
  obtain ⟨A, B, h1, h2, h3, h4, h5, h6, h7⟩ := h
  have hW := h6.size
  have hK : ∀ k, K k → ¬ (B k ∧ (k < w.heap.size) ∨ w.heap.size ≤ k) := fun k hk => by
    rintro (⟨a, _⟩ | a)
    · exact (h7 k hk).2.2 a
    · have := (h7 k hk).1; omega
  refine ⟨fun k => B k ∧ (k < w.heap.size) ∨ w.heap.size ≤ k, h2.mono (fun k hk a => .inl ⟨a, hk⟩), fun k hk => .inr hk, fun k hk => ?_, hK, fun w' G1 Q1 hf => ?_⟩
  · rcases hk with ⟨a, _⟩ | hk
    · exact h5 k a
    · exact Nat.le_trans hW hk
  · have hA : WIRE (fun k => A k ∧ k < w.heap.size) w' lw n G Q := (h1.mono (fun k hk b => ⟨b, hk⟩)).keptAt hf (fun k hk a b => by
      rcases b with ⟨b, _⟩ | b
      · exact h3 k a.1 b
      · omega)
    have hfr : Fr (fun k => W.heap.size ≤ k) W w' := h6.then hf (fun k hk a => by
      rcases a with ⟨a, _⟩ | a
      · exact h5 k a
      · omega)
    refine ⟨fun k hk => hf.block k (h7 k hk).1 (hK k hk), fun hB => ⟨_, _, hA, hB, ?_, fun k a => h4 k a.1, ?_, hfr, fun k hk => ⟨Nat.lt_of_lt_of_le (h7 k hk).1 hf.size, fun a => (h7 k hk).2.1 a.1, hK k hk⟩⟩⟩
    · rintro k a (⟨b, _⟩ | b)
      · exact h3 k a.1 b
      · have := a.2; omega
    · rintro k (⟨b, _⟩ | b)
      · exact h5 k b
      · omega
end

/-- What is received, in range or not. -/
def rF (n : Nat) (Q : QS) (i : Int) : Int := if inR n i = true then rcvF Q i.toNat else 0
def rB (n : Nat) (Q : QS) (i : Int) : List UInt8 := if inR n i = true then rcvB Q i.toNat else []
def rO (n : Nat) (Q : QS) (i : Int) : Bool := if inR n i = true then rcvO Q i.toNat else false
def rQ (n : Nat) (Q : QS) (i : Int) : QS := if inR n i = true then rcvQ Q i.toNat else Q
def rL (n : Nat) (Q : QS) (i : Int) : Nat := if inR n i = true then (Q i.toNat).length else 0
def jX (n : Nat) (i : Int) : Int := if inR n i = true then 0 else 2
def jG (n : Nat) (G : Nat → Int) (i : Int) (x : Int) : Nat → Int := if inR n i = true then updA G i.toNat x else G

section
variable (W w : World) (lw rb n : Nat) (G : Nat → Int) (Q : QS) (G' : Nat → Int) (Q' : QS) (K : Nat → Prop) (h : Hid (DUO W w lw rb n G Q G' Q' K)) (hn : n ≤ 32)

section
variable (bo : Option Addr) (bl bc : Nat) (b : List UInt8) (hb : Hid (Hand K W w bo bl bc b))
include h hn hb

theorem d_send (f t : Int) (x y : Int) (hx : Hid ((x, y) = (sendR n G Q f t b).1)) :
    Calls Try.prog 8 #[.pointer (some ⟨lw, 0, none⟩), .int .i64 f, .int .i64 t, .slice bo bl bc] w fun e w' => e = .returned (.tuple #[.int .i64 x, .int .i64 y]) ∧ Hid (DUO W w' lw rb n G (sendR n G Q f t b).2 G' Q' K) ∧ Hid (KEEP K w w') := by
  obtain ⟨A, h1, h2, h3, hK, h4⟩ := h.out.left
  have hb := hb.out
  have hI : Inp A w bo bl bc b := ⟨hb.src, hb.len, hb.nil, fun ad e hne ha => by
    rcases hb.far ad e hne with hk | hk
    · exact hK _ hk ha
    · have := h3 _ ha; omega⟩
  refine (send_any A w lw n G Q h1 h2 bo bl bc b hI hn f t).mono ?_
  rintro e w' ⟨rfl, q1, q2⟩
  refine ⟨?_, (h4 w' _ _ q2.out).2.1 q1.out, (h4 w' G Q q2.out).1⟩
  unfold tup
  rw [← hx.out]

theorem u_send (f t : Int) (x y : Int) (hx : Hid ((x, y) = (sendR n G' Q' f t b).1)) :
    Calls Try.prog 15 #[.pointer (some ⟨rb, 0, none⟩), .int .i64 f, .int .i64 t, .slice bo bl bc] w fun e w' => e = .returned (.tuple #[.int .i64 x, .int .i64 y]) ∧ Hid (DUO W w' lw rb n G Q G' (sendR n G' Q' f t b).2 K) ∧ Hid (KEEP K w w') := by
  obtain ⟨A, h1, h2, h3, hK, h4⟩ := h.out.right
  have hb := hb.out
  have hI : Inp A w bo bl bc b := ⟨hb.src, hb.len, hb.nil, fun ad e hne ha => by
    rcases hb.far ad e hne with hk | hk
    · exact hK _ hk ha
    · have := h3 _ ha; omega⟩
  refine (v_send A w rb n G' Q' h1 h2 bo bl bc b hI hn f t).mono ?_
  rintro e w' ⟨rfl, q1, q2⟩
  refine ⟨?_, (h4 w' _ _ q2.out).2 q1.out, (h4 w' G Q q2.out).1⟩
  unfold tup
  rw [← hx.out]

omit hn in
theorem d_inject (i : Int) (x : Int) (hx : Hid (x = (injR n Q i b).1)) :
    Calls Try.prog 11 #[.pointer (some ⟨lw, 0, none⟩), .int .i64 i, .slice bo bl bc] w fun e w' => e = .returned (.int .i64 x) ∧ Hid (DUO W w' lw rb n G (injR n Q i b).2 G' Q' K) ∧ Hid (KEEP K w w') := by
  obtain ⟨A, h1, h2, h3, hK, h4⟩ := h.out.left
  have hb := hb.out
  have hI : Inp A w bo bl bc b := ⟨hb.src, hb.len, hb.nil, fun ad e hne ha => by
    rcases hb.far ad e hne with hk | hk
    · exact hK _ hk ha
    · have := h3 _ ha; omega⟩
  refine (inject_any A w lw n G Q h1 h2 bo bl bc b hI i).mono ?_
  rintro e w' ⟨rfl, q1, q2⟩
  exact ⟨by rw [hx.out], (h4 w' _ _ q2.out).2.1 q1.out, (h4 w' G Q q2.out).1⟩

omit hn in
theorem u_inject (i : Int) (x : Int) (hx : Hid (x = (injR n Q' i b).1)) :
    Calls Try.prog 16 #[.pointer (some ⟨rb, 0, none⟩), .int .i64 i, .slice bo bl bc] w fun e w' => e = .returned (.int .i64 x) ∧ Hid (DUO W w' lw rb n G Q G' (injR n Q' i b).2 K) ∧ Hid (KEEP K w w') := by
  obtain ⟨A, h1, h2, h3, hK, h4⟩ := h.out.right
  have hb := hb.out
  refine (v_inject A w rb n G' Q' h1 h2 bo bl bc b hb.src hb.len i).mono ?_
  rintro e w' ⟨rfl, q1, q2⟩
  exact ⟨by rw [hx.out], (h4 w' _ _ q2.out).2 q1.out, (h4 w' G Q q2.out).1⟩
end

section
include h
theorem d_join (i z : Int) (x : Int) (hx : Hid (x = jX n i)) :
    Calls Try.prog 12 #[.pointer (some ⟨lw, 0, none⟩), .int .i64 i, .int .i64 z] w fun e w' => e = .returned (.int .i64 x) ∧ Hid (DUO W w' lw rb n (jG n G i z) Q G' Q' K) ∧ Hid (KEEP K w w') := by
  have hx := hx.out
  subst hx
  obtain ⟨A, h1, h2, h3, hK, h4⟩ := h.out.left
  cases hr : inR n i with
  | false =>
    refine (join_out A w lw n G Q h1 i (inR_not hr) (.int .i64 z)).mono ?_
    rintro e w' ⟨rfl, rfl⟩
    simp only [jX, jG, hr, Bool.false_eq_true, ↓reduceIte]
    exact ⟨trivial, h, fun _ _ => rfl⟩
  | true =>
    obtain ⟨k, rfl, hk⟩ := inR_nat hr
    refine (join_in A w lw n G Q h1 k hk z).mono ?_
    rintro e w' ⟨rfl, q1, q2⟩
    simp only [jX, jG, hr, ↓reduceIte, Int.toNat_natCast]
    exact ⟨trivial, (h4 w' _ _ q2.out).2.1 q1.out, (h4 w' G Q q2.out).1⟩

theorem u_join (i z : Int) (x : Int) (hx : Hid (x = jX n i)) :
    Calls Try.prog 18 #[.pointer (some ⟨rb, 0, none⟩), .int .i64 i, .int .i64 z] w fun e w' => e = .returned (.int .i64 x) ∧ Hid (DUO W w' lw rb n G Q (jG n G' i z) Q' K) ∧ Hid (KEEP K w w') := by
  have hx := hx.out
  subst hx
  obtain ⟨A, h1, h2, h3, hK, h4⟩ := h.out.right
  refine (v_join A w rb n G' Q' h1 i z).mono ?_
  rintro e w' ⟨rfl, q1, q2⟩
  exact ⟨rfl, (h4 w' _ _ q2.out).2 q1.out, (h4 w' G Q q2.out).1⟩

theorem d_wait (i : Int) (L : Nat) (hL : Hid (L = rL n Q i)) : Hid (Calls Try.prog 10 #[.pointer (some ⟨lw, 0, none⟩), .int .i64 i] w fun e w' => e = .returned (.int .i64 L) ∧ w = w') := by
  have hL := hL.out
  subst hL
  obtain ⟨A, h1, _⟩ := h.out.left
  unfold rL
  cases hr : inR n i with
  | false =>
    simp only [Bool.false_eq_true, ↓reduceIte]
    exact waiting_out A w lw n G Q h1 i (inR_not hr)
  | true =>
    obtain ⟨k, rfl, hk⟩ := inR_nat hr
    simp only [↓reduceIte, Int.toNat_natCast]
    exact waiting_in A w lw n G Q h1 k hk

theorem u_has (i : Int) : Hid (Calls Try.prog 19 #[.pointer (some ⟨rb, 0, none⟩), .int .i64 i] w fun e w' => e = .returned (.bool (inR n i)) ∧ w = w') := by
  obtain ⟨A, h1, _⟩ := h.out.right
  exact v_has' A w rb n G' Q' h1 i

theorem d_recv (i : Int) (src : Int) (xs : List UInt8) (ok : Bool) (h1 : Hid (src = rF n Q i)) (h2 : Hid (xs = rB n Q i)) (h3 : Hid (ok = rO n Q i)) :
    Calls Try.prog 9 #[.pointer (some ⟨lw, 0, none⟩), .int .i64 i] w fun e w' => ∃ r cap, e = .returned (.tuple #[.agg #[.int .i64 src, .slice r xs.length cap], .bool ok]) ∧ Hid (DUO W w' lw rb n G (rQ n Q i) G' Q' (fun k => K k ∨ blk r = some k)) ∧ Hid (Src w' r xs) ∧ Hid (Row8 w' r xs.length) ∧ Hid (KEEP K w w') ∧
      Hid (∀ g, blk r = some g → ¬ K g ∧ W.heap.size ≤ g) ∧ xs.length ≤ 2048 := by
  have h1 := h1.out
  have h2 := h2.out
  have h3 := h3.out
  have hnone : ∀ w' : World, Fr (fun k => w.heap.size ≤ k) w w' → src = 0 → xs = [] → ok = false → rQ n Q i = Q →
      ∃ r cap, Ending.returned (.tuple #[.agg #[.int .i64 0, .slice none 0 0], .bool false]) = Ending.returned (.tuple #[.agg #[.int .i64 src, .slice r xs.length cap], .bool ok]) ∧ Hid (DUO W w' lw rb n G (rQ n Q i) G' Q' (fun k => K k ∨ blk r = some k)) ∧ Hid (Src w' r xs) ∧ Hid (Row8 w' r xs.length) ∧ Hid (KEEP K w w') ∧
      Hid (∀ g, blk r = some g → ¬ K g ∧ W.heap.size ≤ g) ∧ xs.length ≤ 2048 := by
    intro w' hf e1 e2 e3 e4
    subst e1 e2 e3
    obtain ⟨A, q1, q2, q3, qK, q4⟩ := h.out.left
    have hf' := hf.mono (T := A) (fun k _ hk => q2 k hk)
    have hP := (q4 w' G Q hf').2.1 (q1.keptAt hf (fun k hk _ h' => by omega))
    rw [e4]
    exact ⟨none, 0, rfl, hP.less (fun k hk => by rcases hk with hk | hk; exact hk; cases hk), ⟨fun _ => rfl, fun ad e => by cases e⟩, fun j hj => absurd hj (Nat.not_lt_zero j), (q4 w' G Q hf').1, fun g e => (by cases e), Nat.zero_le _⟩
  obtain ⟨A, q1, q2, q3, qK, q4⟩ := h.out.left
  cases hr : inR n i with
  | false =>
    simp only [rF, rB, rO, hr, Bool.false_eq_true, ↓reduceIte] at h1 h2 h3
    refine (receive_out A w lw n G Q q1 i (inR_not hr)).mono ?_
    rintro e w' ⟨rfl, hf⟩
    exact hnone w' (hf.out.mono (fun _ _ h => h.elim)) h1 h2 h3 (by simp [rQ, hr])
  | true =>
    obtain ⟨k, rfl, hk⟩ := inR_nat hr
    simp only [rF, rB, rO, hr, ↓reduceIte, Int.toNat_natCast] at h1 h2 h3
    cases hQ : Q k with
    | nil =>
      simp only [rcvF, rcvB, rcvO, hQ] at h1 h2 h3
      refine (receive_none A w lw n G Q q1 k hk hQ).mono ?_
      rintro e w' ⟨rfl, hf⟩
      exact hnone w' hf.out h1 h2 h3 (by simp [rQ, hr, rcvQ, hQ])
    | cons m l =>
      obtain ⟨s, b⟩ := m
      simp only [rcvF, rcvB, rcvO, hQ] at h1 h2 h3
      subst h1 h2 h3
      refine (receive_some A w lw n G Q q1 q2 k hk src xs l hQ).mono ?_
      rintro e w' ⟨r, cap, rfl, hown, hlen, hg, hW, hf⟩
      simp only [rQ, hr, ↓reduceIte, Int.toNat_natCast, rcvQ, hQ]
      exact ⟨r, cap, rfl, (q4 w' _ _ hf.out).2.2 r hW.out (fun g hg' => ⟨hg.out g hg', owns_lt hown.out g hg'⟩), src_of_owns hown.out, row8_of_owns hown.out, (q4 w' G Q hf.out).1, fun g e => ⟨fun hk => qK g hk (hg.out g e), q3 g (hg.out g e)⟩, hlen⟩

theorem u_recv (i : Int) (src : Int) (xs : List UInt8) (ok : Bool) (h1 : Hid (src = rF n Q' i)) (h2 : Hid (xs = rB n Q' i)) (h3 : Hid (ok = rO n Q' i)) (d : ByteArray) (hd : Hid (d = ⟨xs.toArray⟩)) :
    Calls Try.prog 17 #[.pointer (some ⟨rb, 0, none⟩), .int .i64 i] w fun e w' => e = .returned (.tuple #[.agg #[.int .i64 src, .string d], .bool ok]) ∧ Hid (DUO W w' lw rb n G Q G' (rQ n Q' i) K) ∧ Hid (KEEP K w w') := by
  have h1 := h1.out
  have h2 := h2.out
  have h3 := h3.out
  have hd := hd.out
  obtain ⟨A, q1, q2, q3, qK, q4⟩ := h.out.right
  cases hr : inR n i with
  | false =>
    simp only [rF, rB, rO, hr, Bool.false_eq_true, ↓reduceIte] at h1 h2 h3
    subst h1 h2 h3 hd
    refine (v_recv_out A w rb n G' Q' q1 i hr).mono ?_
    rintro e w' ⟨rfl, hP, hf⟩
    have hf' := hf.out.mono (T := A) (fun _ _ h => h.elim)
    exact ⟨rfl, by rw [show rQ n Q' i = Q' from by simp [rQ, hr]]; exact (q4 w' _ _ hf').2 hP.out, (q4 w' G Q hf').1⟩
  | true =>
    obtain ⟨k, rfl, hk⟩ := inR_nat hr
    simp only [rF, rB, rO, hr, ↓reduceIte, Int.toNat_natCast] at h1 h2 h3
    cases hQ : Q' k with
    | nil =>
      simp only [rcvF, rcvB, rcvO, hQ] at h1 h2 h3
      subst h1 h2 h3 hd
      refine (v_recv_none A w rb n G' Q' q1 k hk hQ).mono ?_
      rintro e w' ⟨rfl, hP, hf⟩
      have hf' := hf.out.mono (T := A) (fun _ _ h => h.elim)
      exact ⟨rfl, by rw [show rQ n Q' k = Q' from by simp [rQ, hr, rcvQ, hQ]]; exact (q4 w' _ _ hf').2 hP.out, (q4 w' G Q hf').1⟩
    | cons m l =>
      obtain ⟨s, b⟩ := m
      simp only [rcvF, rcvB, rcvO, hQ] at h1 h2 h3
      subst h1 h2 h3
      refine (v_recv_some A w rb n G' Q' q1 k hk src xs l hQ d hd).mono ?_
      rintro e w' ⟨rfl, hP, hf⟩
      exact ⟨rfl, by rw [show rQ n Q' k = updA Q' k l from by simp [rQ, hr, rcvQ, hQ]]; exact (q4 w' _ _ hf.out).2 hP.out, (q4 w' G Q hf.out).1⟩
end
end
end Go.Proofs.Ytjoamafcmknglaa

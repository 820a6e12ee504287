/-
  The console and the reference's console side by side, and what each call does to the one and leaves of the other. No conditions.
-/
import Derived.Test.YtmlmmcfalglbhaaRef
import Derived.Test.YtmlmmcfalglbhaaActs
namespace Go.Proofs.Ytmlmmcfalglbhaa
open Go.RowKit

/-- The console's own blocks: new ones, but not the reference's, nor the act's, nor the slice's that is handed over. -/
def Own (W : World) (rb lb : Nat) (io : Option Addr) (k : Nat) : Prop := W.heap.size ≤ k ∧ k ≠ rb ∧ k ≠ lb ∧ blk io ≠ some k

/-- m bytes that may be written, at the head of a row. -/
def Row8 (w : World) (io : Option Addr) (m : Nat) : Prop :=
  ∀ j, j < m → ∃ g x, io = some ⟨g, 0, none⟩ ∧ w.cell? ⟨g, j, none⟩ = some (.int .u8 x) ∧ w.frozen? ⟨g, j, none⟩ = false

/-- The console, the reference's console, the act in a block of its own, the bytes that came in, and the slice that is handed over. -/
structure Tri (W : World) (cb rb lb : Nat) (cs : Array Value) (bo : Option Addr) (X : List UInt8) (io : Option Addr) (m : Nat) (w : World) (s t : Con) : Prop where
  con : CON w cb (Own W rb lb io) s
  ref : RefAt w rb t
  loc : w.heap[lb]? = some (.cells cs 37 (0, 0))
  src : Src W bo X
  inn : Row8 w io m
  fr : Fr (fun k => W.heap.size ≤ k) W w
  rbW : W.heap.size ≤ rb
  lbW : W.heap.size ≤ lb
  ne : rb ≠ lb
  ioW : ∀ g, blk io = some g → W.heap.size ≤ g ∧ g ≠ rb ∧ g ≠ lb ∧ g < w.heap.size
  sOk : s.written = s.out.length
  tOk : t.written = t.out.length

section
variable {W : World} {cb rb lb : Nat} {cs : Array Value} {bo : Option Addr} {X : List UInt8} {io : Option Addr} {m : Nat} {w w' : World} {s t : Con}

theorem RefAt.lt (h : RefAt w rb t) : rb < w.heap.size := by
  obtain ⟨_, _, _, _, h⟩ := h
  exact heap_lt h
theorem RefAt.kept (h : RefAt w rb t) {T : Nat → Prop} (hf : Fr T w w') (hT : ¬ T rb) : RefAt w' rb t := by
  have hlt := h.lt
  obtain ⟨bw, bt, e1, e2, h⟩ := h
  exact ⟨bw, bt, e1, e2, by rw [hf.block rb hlt hT]; exact h⟩
theorem Row8.kept (h : Row8 w io m) {T : Nat → Prop} (hf : Fr T w w') (hT : ∀ g, blk io = some g → ¬ T g) : Row8 w' io m := by
  intro j hj
  obtain ⟨g, x, e, hc, hz⟩ := h j hj
  have hb := hf.block g (block_lt_of_cell hc) (hT g (by rw [e]; rfl))
  exact ⟨g, x, e, (World.cell?_of_block (a := ⟨g, j, none⟩) hb).trans hc, by unfold World.frozen? at hz ⊢; rw [hb]; exact hz⟩

/-- What touches none of it. -/
theorem Tri.still (h : Tri W cb rb lb cs bo X io m w s t) (hf : Fr (fun _ => False) w w') : Tri W cb rb lb cs bo X io m w' s t :=
  ⟨h.con.kept hf (fun _ _ _ h => h), h.ref.kept hf (fun h => h), by rw [hf.block lb (heap_lt h.loc) (fun h => h)]; exact h.loc, h.src, h.inn.kept hf (fun _ _ h => h),
    h.fr.then hf (fun _ _ h => h.elim), h.rbW, h.lbW, h.ne, fun g hg => ⟨(h.ioW g hg).1, (h.ioW g hg).2.1, (h.ioW g hg).2.2.1, Nat.lt_of_lt_of_le (h.ioW g hg).2.2.2 hf.size⟩, h.sOk, h.tOk⟩

/-- A step of the console's. -/
theorem Tri.byC (h : Tri W cb rb lb cs bo X io m w s t) {s' : Con} (h1 : CON w' cb (Own W rb lb io) s') (hf : Fr (Own W rb lb io) w w') (h3 : s'.written = s'.out.length) : Tri W cb rb lb cs bo X io m w' s' t :=
  ⟨h1, h.ref.kept hf (fun h => h.2.1 rfl), by rw [hf.block lb (heap_lt h.loc) (fun h => h.2.2.1 rfl)]; exact h.loc, h.src, h.inn.kept hf (fun g e h => h.2.2.2 e),
    h.fr.then hf (fun _ _ h => h.1), h.rbW, h.lbW, h.ne, fun g hg => ⟨(h.ioW g hg).1, (h.ioW g hg).2.1, (h.ioW g hg).2.2.1, Nat.lt_of_lt_of_le (h.ioW g hg).2.2.2 hf.size⟩, h3, h.tOk⟩

/-- A step of the reference's. -/
theorem Tri.byR (h : Tri W cb rb lb cs bo X io m w s t) {t' : Con} (h1 : RefAt w' rb t') (hf : Fr (fun k => k = rb) w w') (h3 : t'.written = t'.out.length) : Tri W cb rb lb cs bo X io m w' s t' :=
  ⟨h.con.kept hf (fun k _ h e => h.2.1 e), h1, by rw [hf.block lb (heap_lt h.loc) (fun e => h.ne e.symm)]; exact h.loc, h.src, h.inn.kept hf (fun g e h' => (h.ioW g e).2.1 h'),
    h.fr.then hf (fun _ _ e => by rw [e]; exact h.rbW), h.rbW, h.lbW, h.ne, fun g hg => ⟨(h.ioW g hg).1, (h.ioW g hg).2.1, (h.ioW g hg).2.2.1, Nat.lt_of_lt_of_le (h.ioW g hg).2.2.2 hf.size⟩, h.sOk, h3⟩

theorem Tri.new (h : Tri W cb rb lb cs bo X io m w s t) (k : Nat) (hk : w.heap.size ≤ k) : Own W rb lb io k := by
  have h1 := h.ref.lt
  have h2 := heap_lt h.loc
  refine ⟨Nat.le_trans h.fr.size hk, by omega, by omega, fun e => ?_⟩
  have := (h.ioW k e).2.2.2
  omega

theorem CON.to {S T : Nat → Prop} (h : CON w cb S s) (hT : ∀ k, k < w.heap.size → S k → T k) : CON w cb T s := by
  obtain ⟨wa, wc, oa, oc, hA, h1, hw, ho, l⟩ := h
  exact ⟨wa, wc, oa, oc, hA, hT _ (heap_lt hA.cells) h1, fun g hg => hT g (owns_lt hA.wrow g hg) (hw g hg), fun g hg => hT g (owns_lt hA.orow g hg) (ho g hg), l⟩

theorem row8_of_owns {base l cap : Nat} {ro : Option Addr} {xs : List UInt8} (hown : w.ownsRow base 5 1 (.slice ro l cap) l (bv xs)) : Row8 w ro l := by
  intro j hj
  have hlen : xs.length = l := by have := hown.1; unfold bv at this; rw [List.length_map] at this; omega
  rcases hown.2 with ⟨hv, h0⟩ | ⟨g, cap', cur, hv, _, hc, _, _, h3, h4⟩
  · omega
  · simp only [Value.slice.injEq] at hv
    obtain ⟨hv1, _, _⟩ := hv
    have hz := thawed (o := j) hc
    have hjx : j < xs.length := by omega
    have hcell := hown.cells (g := g) (by rw [ownBlock_slice, hv1]; rfl) j (.int .u8 (xs[j].toNat)) (by unfold bv; rw [List.getElem?_map, List.getElem?_eq_getElem hjx]; rfl)
    simp only [Addr.add_lit, Nat.zero_add] at hcell
    exact ⟨g, _, hv1, hcell, hz⟩

/-- The slice that is handed over is laid. -/
theorem Tri.lay (h : Tri W cb rb lb cs bo X none 0 w s t) {ao : Option Addr} {cap : Nat} {w1 : World} (hown : w1.ownsRow w.heap.size 5 1 (.slice ao (0 + m) cap) (0 + m) ([] ++ bv X))
    (hgr : (w.alloc (.cells #[] 5)).grownBy w1 (some w.heap.size)) : Tri W cb rb lb cs bo X ao m w1 s t ∧ Src w1 ao X ∧ m ≤ cap ∧ cap ≤ 9223372036854775807 := by
  rw [Nat.zero_add, List.nil_append] at hown
  have hf : Fr (fun _ => False) w w1 := ((Fr.refl _ w).alloc _).grown hgr (fun k e hk => by simp at e; omega)
  have hg := got_of_owns (S := fun k => w.heap.size ≤ k) hown (fun _ h => h)
  have hT := h.still hf
  have hrb := h.ref.lt
  have hlb := heap_lt h.loc
  refine ⟨⟨(h.con.to (T := Own W rb lb ao) (fun k hk a => ⟨a.1, a.2.1, a.2.2.1, fun e => ?_⟩)).kept hf (fun _ _ _ h => h), hT.ref, hT.loc, hT.src, ?_, hT.fr, h.rbW, h.lbW, h.ne, fun g e => ?_, h.sOk, h.tOk⟩, hg.1, hg.2.2.1, hg.2.2.2.1⟩
  · have := (hg.2.2.2.2 k e).1
    omega
  · exact row8_of_owns hown
  · have := hg.2.2.2.2 g e
    exact ⟨Nat.le_trans h.fr.size this.1, by omega, by omega, this.2⟩

/-- .. and let go. -/
theorem Tri.leave (h : Tri W cb rb lb cs bo X io m w s t) : Tri W cb rb lb cs bo X none 0 w s t :=
  ⟨h.con.to (fun k _ a => ⟨a.1, a.2.1, a.2.2.1, fun e => by cases e⟩), h.ref, h.loc, h.src, fun j hj => absurd hj (Nat.not_lt_zero j), h.fr, h.rbW, h.lbW, h.ne, fun g e => (by cases e), h.sOk, h.tOk⟩

/-- A store into the slice that is handed over. -/
theorem Tri.turn (h : Tri W cb rb lb cs bo X io m w s t) (g j : Nat) (x : Int) (e : io = some ⟨g, 0, none⟩) : Tri W cb rb lb cs bo X io m (w.setCell ⟨g, j, none⟩ (.int .u8 x)) s t := by
  have hI := h.ioW g (by rw [e]; rfl)
  have hf : Fr (fun k => k = g) w (w.setCell ⟨g, j, none⟩ (.int .u8 x)) := (Fr.refl (fun k => k = g) w).setCell (p := ⟨g, j, none⟩) (fun _ => rfl) _
  refine ⟨h.con.kept hf (fun k _ a b => a.2.2.2 (by rw [e, b]; rfl)), h.ref.kept hf (fun b => hI.2.1 b.symm), by rw [hf.block lb (heap_lt h.loc) (fun b => hI.2.2.1 b.symm)]; exact h.loc, h.src, ?_, h.fr.then hf (fun _ _ b => by rw [b]; exact hI.1), h.rbW, h.lbW, h.ne,
    fun g' hg => ⟨(h.ioW g' hg).1, (h.ioW g' hg).2.1, (h.ioW g' hg).2.2.1, Nat.lt_of_lt_of_le (h.ioW g' hg).2.2.2 hf.size⟩, h.sOk, h.tOk⟩
  intro j' hj'
  obtain ⟨g', x', e', hc, hz⟩ := h.inn j' hj'
  obtain rfl : g = g' := by rw [e] at e'; simpa using e'
  by_cases hjj : j = j'
  · subst hjj
    exact ⟨g, x, e, World.cell?_setCell_same' w _ _ (by rw [hc]; rfl), by rw [World.frozen?_setCell]; exact hz⟩
  · exact ⟨g, x', e, by rw [World.cell?_setCell_other w ⟨g, j, none⟩ ⟨g, j', none⟩ _ (fun h => hjj (Addr.mk.inj h).2.1)]; exact hc, by rw [World.frozen?_setCell]; exact hz⟩

theorem Tri.locs {x0 x1 x2 : Int} {bl bc : Nat} (h : Tri W cb rb lb #[.int .i64 x0, .int .i64 x1, .int .i64 x2, .slice bo bl bc] bo X io m w s t) :
    w.cell? ⟨lb, 0, none⟩ = some (.int .i64 x0) ∧ w.cell? ⟨lb, 1, none⟩ = some (.int .i64 x1) ∧ w.cell? ⟨lb, 2, none⟩ = some (.int .i64 x2) ∧ w.cell? ⟨lb, 3, none⟩ = some (.slice bo bl bc) :=
  ⟨(cell_at h.loc).trans rfl, (cell_at h.loc).trans rfl, (cell_at h.loc).trans rfl, (cell_at h.loc).trans rfl⟩
end

theorem Con.input_ok {s : Con} (h : s.written = s.out.length) (b : List UInt8) : (s.input b).written = (s.input b).out.length := h
theorem Con.rest_ok {s : Con} (h : s.written = s.out.length) (n : Int) : (s.rest n).written = (s.rest n).out.length := h
theorem Con.write_ok {s : Con} (h : s.written = s.out.length) (h1 : s.out.length ≤ 1048576) (b : List UInt8) : (s.write b).written = (s.write b).out.length := by
  have hp : s.put b ≤ b.length ∧ s.put b ≤ 1048576 - s.out.length := by unfold Con.put; omega
  show wrap64 (s.written + (s.put b : Nat)) = ((s.out ++ b.take (s.put b)).length : Int)
  rw [h, List.length_append, List.length_take, Nat.min_eq_left hp.1, IntWalk.wrap64_in _ (by omega)]
  omega

section
variable (W : World) (cb rb lb : Nat) (cs : Array Value) (bo : Option Addr) (X : List UInt8) (io : Option Addr) (m : Nat) (w : World) (s t : Con) (h : Hid (Tri W cb rb lb cs bo X io m w s t))
include h

theorem t_input (ic : Nat) (hs : Hid (Src w io X)) (hm : X.length = m) (h2 : m ≤ ic) (h3 : ic ≤ 9223372036854775807) (T : Nat) (hT : Hid (T = s.taken X)) :
    Calls Try.prog 8 #[.pointer (some ⟨cb, 0, none⟩), .slice io m ic] w fun e w' => e = .returned (.tuple #[.int .i64 T, .int .i64 0]) ∧ Hid (Tri W cb rb lb cs bo X io m w' (s.input X) t) := by
  refine (c_input w cb (Own W rb lb io) s h.out.con h.out.new io m ic X hs.out hm h2 h3).mono ?_
  rintro e w' ⟨rfl, h1, hf⟩
  exact ⟨by rw [hT.out], h.out.byC h1.out hf.out (Con.input_ok h.out.sOk X)⟩

theorem u_input (bl bc : Nat) (hm : X.length = bl) (h2 : bl ≤ bc) (h3 : bc ≤ 9223372036854775807) (T : Nat) (hT : Hid (T = t.taken X)) (ht : Hid (t.waits.length ≤ 4096)) :
    Calls Try.prog 13 #[.pointer (some ⟨rb, 0, none⟩), .slice bo bl bc] w fun e w' => e = .returned (.int .i64 T) ∧ Hid (Tri W cb rb lb cs bo X io m w' s (t.input X)) := by
  refine (rinput_any w rb t h.out.ref bo bl bc X (h.out.src.old h.out.fr) hm ht.out h2 h3).mono ?_
  rintro e w' ⟨rfl, h1, hf⟩
  exact ⟨by rw [hT.out], h.out.byR h1.out hf.out (Con.input_ok h.out.tOk X)⟩

theorem t_write (ic : Nat) (hs : Hid (Src w io X)) (hm : X.length = m) (h2 : m ≤ ic) (h3 : ic ≤ 9223372036854775807) (T : Nat) (hT : Hid (T = s.put X)) :
    Calls Try.prog 11 #[.pointer (some ⟨cb, 0, none⟩), .slice io m ic] w fun e w' => e = .returned (.tuple #[.int .i64 T, .int .i64 0]) ∧ Hid (Tri W cb rb lb cs bo X io m w' (s.write X) t) := by
  refine (c_write w cb (Own W rb lb io) s h.out.con h.out.new io m ic X hs.out hm h2 h3).mono ?_
  rintro e w' ⟨rfl, h1, hf⟩
  exact ⟨by rw [hT.out], h.out.byC h1.out hf.out (Con.write_ok h.out.sOk h.out.con.len.2 X)⟩

theorem u_write (bl bc : Nat) (hm : X.length = bl) (h2 : bl ≤ bc) (h3 : bc ≤ 9223372036854775807) (T : Nat) (hT : Hid (T = t.put X)) (ht : Hid (t.out.length ≤ 1048576)) :
    Calls Try.prog 15 #[.pointer (some ⟨rb, 0, none⟩), .slice bo bl bc] w fun e w' => e = .returned (.int .i64 T) ∧ Hid (Tri W cb rb lb cs bo X io m w' s (t.write X)) := by
  refine (rwrite_any w rb t h.out.ref bo bl bc X (h.out.src.old h.out.fr) hm ht.out h2 h3).mono ?_
  rintro e w' ⟨rfl, h1, hf⟩
  exact ⟨by rw [hT.out], h.out.byR h1.out hf.out (Con.write_ok h.out.tOk ht.out X)⟩

/-- A slice of bytes that lies outside the reference's block, and the string of it. -/
def Piece (w : World) (rb : Nat) (v : Value) (d : ByteArray) : Prop := ∃ ro l cap, v = .slice ro l cap ∧ Src w ro d.data.toList ∧ d.size = l ∧ ∀ g, blk ro = some g → g ≠ rb

omit h in
theorem Piece.conv {w : World} {rb : Nat} {v : Value} {d : ByteArray} (h : Piece w rb v d) : (convert 29 9 v).run Try.prog w = .ok (.string d) w := by
  obtain ⟨ro, l, cap, rfl, hs, hl, _⟩ := h
  have := run_conv w ro d.data.toList hs l cap (by rw [← hl]; simp)
  simpa using this
omit h in
theorem Piece.kept {w w' : World} {rb : Nat} {v : Value} {d : ByteArray} (h : Piece w rb v d) (hf : Fr (fun k => k = rb) w w') : Piece w' rb v d := by
  obtain ⟨ro, l, cap, rfl, hs, hl, hg⟩ := h
  exact ⟨ro, l, cap, rfl, hs.kept hf (fun ad e h' => hg ad.block (by rw [e]; rfl) h'), hl, hg⟩

theorem t_read (n : Int) (d : ByteArray) (hd : Hid (d = ⟨(s.waits.take (s.reads n)).toArray⟩)) :
    Calls Try.prog 9 #[.pointer (some ⟨cb, 0, none⟩), .int .i64 n] w fun e w' => ∃ ro l cap, e = .returned (.slice ro l cap) ∧ Hid (Piece w' rb (.slice ro l cap) d) ∧ Hid (Tri W cb rb lb cs bo X io m w' (s.rest n) t) := by
  have hc := h.out.con
  have hS := h.out.new
  obtain ⟨wa, wc, oa, oc, hA, h1, hw, ho, l1, l2⟩ := hc
  by_cases hn : n < 1
  · have c0 := cell_at (o := 0) hA.cells
    simp at c0
    refine (read_no w cb n c0 hn).mono ?_
    rintro e w' ⟨rfl, rfl⟩
    have e0 : s.reads n = 0 := by simp [Con.reads, hn]
    have er : s.rest n = s := by simp [Con.rest, e0, hn]
    rw [er]
    have hd' := hd.out
    rw [e0] at hd'
    subst hd'
    exact ⟨none, 0, 0, rfl, ⟨none, 0, 0, rfl, ⟨fun _ => by simp, fun ad had => by cases had⟩, by rfl, fun g hg => by cases hg⟩, h.out⟩
  · refine (read_yes w cb wa wc oa oc s hA n hn l1).mono ?_
    rintro e w' ⟨rfl, hown, hC, hf⟩
    have hg := got_of_owns (S := Own W rb lb io) hown hS
    refine ⟨_, _, _, rfl, ⟨_, _, _, rfl, ?_, ?_, fun g e => (hg.2.2.2.2 g e).1.2.1⟩, ?_⟩
    · rw [hd.out]; exact hg.1
    · rw [hd.out]; show (s.waits.take (s.reads n)).toArray.size = _; rw [List.size_toArray]; exact hg.2.1
    · refine h.out.byC ⟨wa, wc, oa, oc, hC, h1, hw, ho, ?_, l2⟩ (hf.mono ?_) (Con.rest_ok h.out.sOk n)
      · simp [Con.rest]; omega
      · rintro k _ (rfl | h)
        · exact h1
        · exact hw k h

theorem t_counts (L : Nat) (hL : Hid ((L : Int) = s.written)) :
    Calls Try.prog 10 #[.pointer (some ⟨cb, 0, none⟩)] w fun e w' => e = .returned (.agg #[.int .i64 s.came, .int .i64 s.dropped, .int .i64 s.read, .int .i64 L]) ∧ Hid (Tri W cb rb lb cs bo X io m w' s t) ∧ Hid (Fr (fun _ => False) w w') := by
  refine (c_counts w cb _ s h.out.con).mono ?_
  rintro e w' ⟨rfl, _, hf⟩
  exact ⟨by rw [hL.out]; rfl, h.out.still hf.out, hf⟩

theorem u_take (n : Int) (d : ByteArray) (hd : Hid (d = ⟨(t.waits.take (t.reads n)).toArray⟩)) :
    Calls Try.prog 14 #[.pointer (some ⟨rb, 0, none⟩), .int .i64 n] w fun e w' => e = .returned (.string d) ∧ Hid (Tri W cb rb lb cs bo X io m w' s (t.rest n)) ∧ Hid (Fr (fun k => k = rb) w w') := by
  refine (rtake_any w rb t h.out.ref n).mono ?_
  rintro e w' ⟨d', rfl, hd', h1, hf⟩
  have : d' = d := by
    rw [hd.out]
    cases d'
    have := hd'.out
    simp at this ⊢
    rw [← this]
  subst this
  exact ⟨rfl, h.out.byR h1.out hf.out (Con.rest_ok h.out.tOk n), hf⟩
end

/-- At the end: the console, the reference's, and a slice that the console gave. -/
structure Fin (W : World) (rb : Nat) (io : Option Addr) (m : Nat) (w : World) (s : Con) : Prop where
  con : CON w W.heap.size (fun k => W.heap.size ≤ k ∧ k ≠ rb ∧ blk io ≠ some k) s
  ref : RefAt w rb s
  fr : Fr (fun k => W.heap.size ≤ k) W w
  inn : Row8 w io m
  ioW : ∀ g, blk io = some g → W.heap.size ≤ g ∧ g ≠ rb

theorem v_written (W : World) (rb : Nat) (w : World) (s : Con) (h : Hid (Fin W rb none 0 w s)) (d : ByteArray) (hd : Hid (d.data.toList = s.out)) :
    Calls Try.prog 12 #[.pointer (some ⟨W.heap.size, 0, none⟩)] w fun e w' => ∃ ro cap, e = .returned (.slice ro d.size cap) ∧ Hid (Piece w' rb (.slice ro d.size cap) d) ∧ Hid (Fin W rb ro d.size w' s) ∧ Hid (Fr (fun _ => False) w w') := by
  have hsz := size_of_list hd.out
  have h := h.out
  refine (c_written w W.heap.size _ s h.con).mono ?_
  rintro e w' ⟨ro, cap, rfl, hown, _, hf⟩
  have hg := got_of_owns (S := fun k => w.heap.size ≤ k) hown.out (fun _ h => h)
  have hrb := h.ref.lt
  have hfr := h.fr.size
  have hio : ∀ g, blk ro = some g → w.heap.size ≤ g := fun g e => (hg.2.2.2.2 g e).1
  rw [hsz]
  have hC : CON w' W.heap.size (fun k => W.heap.size ≤ k ∧ k ≠ rb ∧ blk ro ≠ some k) s :=
    (h.con.to (fun k hk a => ⟨a.1, a.2.1, fun e => by have := hio k e; omega⟩)).kept hf.out (fun _ _ _ h => h)
  have hP : Piece w' rb (.slice ro s.out.length cap) d := ⟨ro, _, cap, rfl, by rw [hd.out]; exact hg.1, hsz, fun g e => by have := hio g e; omega⟩
  exact ⟨ro, cap, rfl, hP, ⟨hC, h.ref.kept hf.out (fun h => h), h.fr.then hf.out (fun _ _ h => h.elim), row8_of_owns hown.out, fun g e => by have := hio g e; omega⟩, hf⟩

theorem Fin.turn {W : World} {rb : Nat} {io : Option Addr} {m : Nat} {w : World} {s : Con} (h : Fin W rb io m w s) (g j : Nat) (x : Int) (e : io = some ⟨g, 0, none⟩) : Fin W rb io m (w.setCell ⟨g, j, none⟩ (.int .u8 x)) s := by
  have hI := h.ioW g (by rw [e]; rfl)
  have hf : Fr (fun k => k = g) w (w.setCell ⟨g, j, none⟩ (.int .u8 x)) := (Fr.refl (fun k => k = g) w).setCell (p := ⟨g, j, none⟩) (fun _ => rfl) _
  refine ⟨h.con.kept hf (fun k _ a b => a.2.2 (by rw [e, b]; rfl)), h.ref.kept hf (fun b => hI.2 b.symm), h.fr.then hf (fun _ _ b => by rw [b]; exact hI.1), ?_, h.ioW⟩
  intro j' hj'
  obtain ⟨g', x', e', hc, hz⟩ := h.inn j' hj'
  obtain rfl : g = g' := by rw [e] at e'; simpa using e'
  by_cases hjj : j = j'
  · subst hjj
    exact ⟨g, x, e, World.cell?_setCell_same' w _ _ (by rw [hc]; rfl), by rw [World.frozen?_setCell]; exact hz⟩
  · exact ⟨g, x', e, by rw [World.cell?_setCell_other w ⟨g, j, none⟩ ⟨g, j', none⟩ _ (fun h => hjj (Addr.mk.inj h).2.1)]; exact hc, by rw [World.frozen?_setCell]; exact hz⟩

theorem Fin.leave {W : World} {rb : Nat} {io : Option Addr} {m : Nat} {w : World} {s : Con} (h : Fin W rb io m w s) : Fin W rb none 0 w s :=
  ⟨h.con.to (fun k _ a => ⟨a.1, a.2.1, fun e => by cases e⟩), h.ref, h.fr, fun j hj => absurd hj (Nat.not_lt_zero j), fun g e => by cases e⟩

theorem Fin.drew {W : World} {rb : Nat} {io : Option Addr} {m : Nat} {w : World} {s : Con} (h : Fin W rb io m w s) : Fin W rb io m w.drew s :=
  ⟨h.con.kept (Fr.drew (Fr.refl (fun _ => False) w)) (fun _ _ _ h => h), h.ref, h.fr.drew, h.inn, h.ioW⟩
end Go.Proofs.Ytmlmmcfalglbhaa

/-
  The two wires within an act: each call, with the act's block and the bytes that are handed over kept. No conditions.
-/
import Derived.Test.YtjoamafcmknglaaPlay0
namespace Go.Proofs.Ytjoamafcmknglaa
open Go.RowKit Go.Conc

def actCell (x : ActM) : Array Value := #[.int .i64 x.kind, .int .i64 x.src, .int .i64 x.dst, .slice x.bo x.bl x.bc]

/-- Within an act: the two wires, the act's block lb, the slice io that is handed over. -/
structure ActS (W : World) (lw rb lb n : Nat) (x : ActM) (io : Option Addr) (w : World) (G : Nat → Int) (Q : QS) (G' : Nat → Int) (Q' : QS) : Prop where
  duo : DUO W w lw rb n G Q G' Q' (fun k => k = lb ∨ blk io = some k)
  loc : w.heap[lb]? = some (.cells (actCell x) 30 (0, 0))
  inn : Row8 w io x.bl
  ioW : ∀ g, blk io = some g → g ≠ lb ∧ W.heap.size ≤ g

section
variable {W : World} {lw rb lb n : Nat} {x : ActM} {io : Option Addr} {w w' : World} {G G' : Nat → Int} {Q Q' : QS}

theorem ActS.locs (h : ActS W lw rb lb n x io w G Q G' Q') :
    w.cell? ⟨lb, 0, none⟩ = some (.int .i64 x.kind) ∧ w.cell? ⟨lb, 1, none⟩ = some (.int .i64 x.src) ∧ w.cell? ⟨lb, 2, none⟩ = some (.int .i64 x.dst) ∧ w.cell? ⟨lb, 3, none⟩ = some (.slice x.bo x.bl x.bc) :=
  ⟨(cell_at h.loc).trans rfl, (cell_at h.loc).trans rfl, (cell_at h.loc).trans rfl, (cell_at h.loc).trans rfl⟩

theorem ActS.next (h : ActS W lw rb lb n x io w G Q G' Q') {G1 G1' : Nat → Int} {Q1 Q1' : QS} (hd : DUO W w' lw rb n G1 Q1 G1' Q1' (fun k => k = lb ∨ blk io = some k)) (hk : KEEP (fun k => k = lb ∨ blk io = some k) w w') : ActS W lw rb lb n x io w' G1 Q1 G1' Q1' :=
  ⟨hd, (hk lb (.inl rfl)).trans h.loc, hk.row8 h.inn (fun _ e => .inr e), h.ioW⟩

theorem ActS.still (h : ActS W lw rb lb n x io w G Q G' Q') (hf : Fr (fun _ => False) w w') : ActS W lw rb lb n x io w' G Q G' Q' :=
  h.next (h.duo.still hf).1 (h.duo.still hf).2

theorem ActS.turn (h : ActS W lw rb lb n x io w G Q G' Q') (g j : Nat) (z : Int) (e : io = some ⟨g, 0, none⟩) : ActS W lw rb lb n x io (w.setCell ⟨g, j, none⟩ (.int .u8 z)) G Q G' Q' :=
  ⟨h.duo.turn g (.inr (by rw [e]; rfl)) (h.ioW g (by rw [e]; rfl)).2 j _, by rw [heap_set_ne (fun e' => (h.ioW g (by rw [e]; rfl)).1 e'.symm)]; exact h.loc, h.inn.turn g j z, h.ioW⟩

/-- The act is laid, and the copy of its bytes. -/
theorem ActS.start {ao : Option Addr} {ic : Nat} {w1 : World} (h : DUO W w lw rb n G Q G' Q' (fun _ => False)) 
    (hown : w1.ownsRow (w.heap.size + 1) 5 1 (.slice ao (0 + x.bl) ic) (0 + x.bl) ([] ++ bv x.b)) (hgr : ((w.alloc (.cells (actCell x) 30)).alloc (.cells #[] 5)).grownBy w1 (some (w.heap.size + 1))) :
    ActS W lw rb w.heap.size n x ao w1 G Q G' Q' ∧ Src w1 ao x.b ∧ (ao = none → ic = 0) ∧ x.bl ≤ ic ∧ ic ≤ 9223372036854775807 := by
  rw [Nat.zero_add, List.nil_append] at hown
  have hl := owns_len hown
  unfold maxLen at hl
  have hf : Fr (fun _ => False) w w1 := (((Fr.refl _ w).alloc _).alloc _).grown hgr (fun k e hk => by simp at e; omega)
  have hW := h.fr.size
  have hlb : w1.heap[w.heap.size]? = some (.cells (actCell x) 30 (0, 0)) := by
    rw [hgr.block _ (by simp; omega) (by simp)]
    exact (heap2 w _ _).1
  refine ⟨⟨(h.more hf).1.less (fun k hk => ?_), hlb, row8_of_owns hown, fun g e => ?_⟩, src_of_owns hown, hl.2.2.2, hl.2.1, by omega⟩
  · rcases hk with rfl | hk
    · exact .inr ⟨Nat.le_refl _, heap_lt hlb⟩
    · exact .inr ⟨by have := (owns_ge hown k hk).1; omega, owns_lt hown k hk⟩
  · have := (owns_ge hown g e).1
    exact ⟨by omega, by omega⟩
end

section
variable (W : World) (lw rb lb n : Nat) (x : ActM) (io : Option Addr) (w : World) (G : Nat → Int) (Q : QS) (G' : Nat → Int) (Q' : QS) (h : Hid (ActS W lw rb lb n x io w G Q G' Q')) (hn : n ≤ 32) (hb : Hid (Btr W x.bo x.bl x.bc x.b))
include h

theorem handO (hb : Btr W x.bo x.bl x.bc x.b) : Hid (Hand (fun k => k = lb ∨ blk io = some k) W w x.bo x.bl x.bc x.b) := by
  obtain ⟨⟨b1, b2, b3, b4, b5⟩, _⟩ := hb
  refine ⟨b3.old h.out.duo.fr, b4, b5, fun ad e hne => .inr ?_⟩
  cases hxb : x.b with
  | nil => exact absurd hxb hne
  | cons z l =>
    have hc := b3.cells ad e 0 (.int .u8 z.toNat) (by rw [hxb]; rfl)
    have hlt := block_lt_of_cell hc
    have hblk : (ad.add 0).block = ad.block := by unfold Addr.add; split <;> rfl
    omega

omit h in
theorem handN (ic : Nat) (hb : Btr W x.bo x.bl x.bc x.b) (hs : Src w io x.b) (hc : io = none → ic = 0) : Hid (Hand (fun k => k = lb ∨ blk io = some k) W w io x.bl ic x.b) :=
  ⟨hs, hb.1.2.2.2.1, hc, fun ad e _ => .inl (.inr (by rw [e]; rfl))⟩

include hb
section
include hn
theorem a_send (ic : Nat) (hs : Hid (Src w io x.b ∧ (io = none → ic = 0))) (X Y : Int) (hx : Hid ((X, Y) = (sendR n G Q x.src x.dst x.b).1)) :
    Calls Try.prog 8 #[.pointer (some ⟨lw, 0, none⟩), .int .i64 x.src, .int .i64 x.dst, .slice io x.bl ic] w fun e w' => e = .returned (.tuple #[.int .i64 X, .int .i64 Y]) ∧ Hid (ActS W lw rb lb n x io w' G (sendR n G Q x.src x.dst x.b).2 G' Q') := by
  refine (d_send W w lw rb n G Q G' Q' _ (hid h.out.duo) hn io x.bl ic x.b (handN W lb x io w ic hb.out hs.out.1 hs.out.2) x.src x.dst X Y hx).mono ?_
  rintro e w' ⟨rfl, h1, h2⟩
  exact ⟨rfl, h.out.next h1.out h2.out⟩
theorem b_send (X Y : Int) (hx : Hid ((X, Y) = (sendR n G' Q' x.src x.dst x.b).1)) :
    Calls Try.prog 15 #[.pointer (some ⟨rb, 0, none⟩), .int .i64 x.src, .int .i64 x.dst, .slice x.bo x.bl x.bc] w fun e w' => e = .returned (.tuple #[.int .i64 X, .int .i64 Y]) ∧ Hid (ActS W lw rb lb n x io w' G Q G' (sendR n G' Q' x.src x.dst x.b).2) := by
  refine (u_send W w lw rb n G Q G' Q' _ (hid h.out.duo) hn x.bo x.bl x.bc x.b (handO W lw rb lb n x io w G Q G' Q' h hb.out) x.src x.dst X Y hx).mono ?_
  rintro e w' ⟨rfl, h1, h2⟩
  exact ⟨rfl, h.out.next h1.out h2.out⟩
end
theorem a_inject (ic : Nat) (hs : Hid (Src w io x.b ∧ (io = none → ic = 0))) (X : Int) (hx : Hid (X = (injR n Q x.dst x.b).1)) :
    Calls Try.prog 11 #[.pointer (some ⟨lw, 0, none⟩), .int .i64 x.dst, .slice io x.bl ic] w fun e w' => e = .returned (.int .i64 X) ∧ Hid (ActS W lw rb lb n x io w' G (injR n Q x.dst x.b).2 G' Q') := by
  refine (d_inject W w lw rb n G Q G' Q' _ (hid h.out.duo) io x.bl ic x.b (handN W lb x io w ic hb.out hs.out.1 hs.out.2) x.dst X hx).mono ?_
  rintro e w' ⟨rfl, h1, h2⟩
  exact ⟨rfl, h.out.next h1.out h2.out⟩
theorem b_inject (X : Int) (hx : Hid (X = (injR n Q' x.dst x.b).1)) :
    Calls Try.prog 16 #[.pointer (some ⟨rb, 0, none⟩), .int .i64 x.dst, .slice x.bo x.bl x.bc] w fun e w' => e = .returned (.int .i64 X) ∧ Hid (ActS W lw rb lb n x io w' G Q G' (injR n Q' x.dst x.b).2) := by
  refine (u_inject W w lw rb n G Q G' Q' _ (hid h.out.duo) x.bo x.bl x.bc x.b (handO W lw rb lb n x io w G Q G' Q' h hb.out) x.dst X hx).mono ?_
  rintro e w' ⟨rfl, h1, h2⟩
  exact ⟨rfl, h.out.next h1.out h2.out⟩
omit hb
theorem a_join (X : Int) (hx : Hid (X = jX n x.dst)) :
    Calls Try.prog 12 #[.pointer (some ⟨lw, 0, none⟩), .int .i64 x.dst, .int .i64 x.src] w fun e w' => e = .returned (.int .i64 X) ∧ Hid (ActS W lw rb lb n x io w' (jG n G x.dst x.src) Q G' Q') := by
  refine (d_join W w lw rb n G Q G' Q' _ (hid h.out.duo) x.dst x.src X hx).mono ?_
  rintro e w' ⟨rfl, h1, h2⟩
  exact ⟨rfl, h.out.next h1.out h2.out⟩
theorem b_join (X : Int) (hx : Hid (X = jX n x.dst)) :
    Calls Try.prog 18 #[.pointer (some ⟨rb, 0, none⟩), .int .i64 x.dst, .int .i64 x.src] w fun e w' => e = .returned (.int .i64 X) ∧ Hid (ActS W lw rb lb n x io w' G Q (jG n G' x.dst x.src) Q') := by
  refine (u_join W w lw rb n G Q G' Q' _ (hid h.out.duo) x.dst x.src X hx).mono ?_
  rintro e w' ⟨rfl, h1, h2⟩
  exact ⟨rfl, h.out.next h1.out h2.out⟩

/-- A message was received: its bytes lie in r. -/
structure Rec (w' : World) (r : Option Addr) (xs : List UInt8) : Prop where
  act : ActS W lw rb lb n x io w' G Q G' Q'
  duo : DUO W w' lw rb n G Q G' Q' (fun k => (k = lb ∨ blk io = some k) ∨ blk r = some k)
  src : Src w' r xs
  row : Row8 w' r xs.length
  far : ∀ g, blk r = some g → ¬ (g = lb ∨ blk io = some g) ∧ W.heap.size ≤ g
  len : xs.length ≤ 2048

theorem a_recv (src : Int) (xs : List UInt8) (ok : Bool) (h1 : Hid (src = rF n Q x.dst)) (h2 : Hid (xs = rB n Q x.dst)) (h3 : Hid (ok = rO n Q x.dst)) :
    Calls Try.prog 9 #[.pointer (some ⟨lw, 0, none⟩), .int .i64 x.dst] w fun e w' => ∃ r cap, e = .returned (.tuple #[.agg #[.int .i64 src, .slice r xs.length cap], .bool ok]) ∧ Hid (Rec W lw rb lb n x io G (rQ n Q x.dst) G' Q' w' r xs) := by
  refine (d_recv W w lw rb n G Q G' Q' _ (hid h.out.duo) x.dst src xs ok h1 h2 h3).mono ?_
  rintro e w' ⟨r, cap, rfl, q1, q2, q3, q4, q5, q6⟩
  exact ⟨r, cap, rfl, h.out.next (q1.out.less (fun _ h => .inl h)) q4.out, q1.out, q2.out, q3.out, q5.out, q6⟩

end

/-- Behind both receives: the first message in its box xb. -/
structure Boxed (W : World) (lw rb lb n : Nat) (x : ActM) (io : Option Addr) (G : Nat → Int) (Q : QS) (G' : Nat → Int) (Q' : QS) (xb : Nat) (r : Option Addr) (m cap : Nat) (w' : World) : Prop where
  act : ActS W lw rb lb n x io w' G Q G' Q'
  duo : DUO W w' lw rb n G Q G' Q' (fun k => ((k = lb ∨ blk io = some k) ∨ blk r = some k) ∨ k = xb)
  x1 : w'.cell? ⟨xb, 1, none⟩ = some (.slice r m cap)
  row : Row8 w' r m
  far : ∀ g, blk r = some g → ¬ (g = lb ∨ blk io = some g) ∧ W.heap.size ≤ g ∧ g ≠ xb

theorem Boxed.turn {W : World} {lw rb lb n : Nat} {x : ActM} {io : Option Addr} {G : Nat → Int} {Q : QS} {G' : Nat → Int} {Q' : QS} {xb : Nat} {r : Option Addr} {m cap : Nat} {w : World} (h : Boxed W lw rb lb n x io G Q G' Q' xb r m cap w) (g j : Nat) (z : Int) (e : r = some ⟨g, 0, none⟩) :
    Boxed W lw rb lb n x io G Q G' Q' xb r m cap (w.setCell ⟨g, j, none⟩ (.int .u8 z)) := by
  obtain ⟨f1, f2, f3⟩ := h.far g (by rw [e]; rfl)
  have hd := h.duo.turn g (.inl (.inr (by rw [e]; rfl))) f2 j (.int .u8 z)
  refine ⟨h.act.next (hd.less (fun _ h => .inl (.inl h))) (fun k hk => heap_set_ne (fun e' => by subst e'; exact f1 hk) _), hd, ?_, h.row.turn g j z, h.far⟩
  rw [World.cell?_setCell_other w ⟨g, j, none⟩ ⟨xb, 1, none⟩ _ (fun e' => f3 (Addr.mk.inj e').1)]
  exact h.x1

theorem Boxed.still {W : World} {lw rb lb n : Nat} {x : ActM} {io : Option Addr} {G : Nat → Int} {Q : QS} {G' : Nat → Int} {Q' : QS} {xb : Nat} {r : Option Addr} {m cap : Nat} {w w' : World} (h : Boxed W lw rb lb n x io G Q G' Q' xb r m cap w) (hf : Fr (fun _ => False) w w') :
    Boxed W lw rb lb n x io G Q G' Q' xb r m cap w' := by
  have hk := (h.duo.still hf).2
  exact ⟨h.act.still hf, (h.duo.still hf).1, (hk.cell (p := ⟨xb, 1, none⟩) (.inr rfl)).trans h.x1, hk.row8 h.row (fun _ e => .inl (.inr e)), h.far⟩

theorem b_recv (W : World) (lw rb lb n : Nat) (x : ActM) (io : Option Addr) (G : Nat → Int) (Q : QS) (G' : Nat → Int) (Q' : QS) (w2 : World) (r : Option Addr) (xs : List UInt8) (cap : Nat) (hR : Hid (Rec W lw rb lb n x io G Q G' Q' w2 r xs)) (src : Int) (ok : Bool)
    (h1 : Hid (src = rF n Q' x.dst)) (h2 : Hid (xs = rB n Q' x.dst)) (h3 : Hid (ok = rO n Q' x.dst)) (d : ByteArray) (hd : Hid (d = ⟨xs.toArray⟩)) :
    Calls Try.prog 17 #[.pointer (some ⟨rb, 0, none⟩), .int .i64 x.dst] (w2.alloc (.cells #[.int .i64 src, .slice r xs.length cap] 34)) fun e w' => e = .returned (.tuple #[.agg #[.int .i64 src, .string d], .bool ok]) ∧
      Hid (Boxed W lw rb lb n x io G Q G' (rQ n Q' x.dst) w2.heap.size r xs.length cap w') ∧ Hid (Src w' r xs) ∧ Hid (w'.cell? ⟨w2.heap.size, 0, none⟩ = some (.int .i64 src)) := by
  have hf : Fr (fun _ => False) w2 (w2.alloc (.cells #[.int .i64 src, .slice r xs.length cap] 34)) := (Fr.refl _ w2).alloc _
  obtain ⟨hm1, hm2⟩ := hR.out.duo.more hf
  have hn := heap_alloc_new w2 (.cells #[.int .i64 src, .slice r xs.length cap] 34)
  have hlt := hR.out.duo.lt
  have hK : DUO W (w2.alloc (.cells #[.int .i64 src, .slice r xs.length cap] 34)) lw rb n G Q G' Q' (fun k => ((k = lb ∨ blk io = some k) ∨ blk r = some k) ∨ k = w2.heap.size) :=
    hm1.less (fun k hk => by
      rcases hk with hk | rfl
      · exact .inl hk
      · exact .inr ⟨Nat.le_refl _, by simp⟩)
  refine (u_recv W _ lw rb n G Q G' Q' _ (hid hK) x.dst src xs ok h1 h2 h3 d hd).mono ?_
  rintro e w' ⟨rfl, q1, q2⟩
  refine ⟨rfl, ⟨(hR.out.act.still hf).next (q1.out.less (fun _ h => .inl (.inl h))) (fun k hk => q2.out k (.inl (.inl hk))), q1.out, ?_, ?_, fun g e => ⟨(hR.out.far g e).1, (hR.out.far g e).2, fun e' => ?_⟩⟩, ?_, ?_⟩
  · exact (q2.out.cell (p := ⟨w2.heap.size, 1, none⟩) (.inr rfl)).trans ((cell_at hn).trans rfl)
  · exact q2.out.row8 (hm2.row8 hR.out.row (fun _ e => .inr e)) (fun _ e => .inl (.inr e))
  · have := hlt g (.inr e)
    omega
  · exact q2.out.src (hm2.src hR.out.src (fun _ e => .inr e)) (fun _ e => .inl (.inr e))
  · exact (q2.out.cell (p := ⟨w2.heap.size, 0, none⟩) (.inr rfl)).trans ((cell_at hn).trans rfl)
end Go.Proofs.Ytjoamafcmknglaa

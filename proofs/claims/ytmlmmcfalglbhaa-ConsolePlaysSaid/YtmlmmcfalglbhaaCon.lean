/-
  The console's functions, each walked once: what each does to a console in memory. No conditions.
-/
import Derived.Test.YtmlmmcfalglbhaaRows
import Derived.Test.YtmlmmcfalglbhaaBase
namespace Go.Proofs.Ytmlmmcfalglbhaa
open Go.RowKit

/-- Bytes as cells. -/
def bv (l : List UInt8) : List Value := l.map fun b => Value.int .u8 b.toNat

structure Con where
  waits : List UInt8
  out : List UInt8
  came : Int
  dropped : Int
  read : Int
  written : Int

structure ConAt (w : World) (cb : Nat) (wa : Option Addr) (wc : Nat) (oa : Option Addr) (oc : Nat) (s : Con) : Prop where
  cells : w.heap[cb]? = some (.cells #[.bool true, .slice wa s.waits.length wc, .slice oa s.out.length oc, .int .i64 s.came, .int .i64 s.dropped, .int .i64 s.read, .int .i64 s.written] 39 (0, 0))
  wrow : w.ownsRow 0 5 1 (.slice wa s.waits.length wc) s.waits.length (bv s.waits)
  orow : w.ownsRow 0 5 1 (.slice oa s.out.length oc) s.out.length (bv s.out)
  wne : blk wa ≠ some cb
  one : blk oa ≠ some cb
  apart : ∀ g, blk wa = some g → blk oa ≠ some g

theorem Try.info5 : (Try.prog.info? 5).map (fun i => (i.zero, i.size, i.bytes)) = some (some (.int .u8 0), 1, 1) := by kernel_rfl

set_option maxHeartbeats 400000 in
theorem new_any (w : World) : Calls Try.prog 7 #[] w fun e w' => e = .returned (.pointer (some ⟨w.heap.size, 0, none⟩)) ∧
    w' = w.alloc (.cells #[.bool true, .slice none 0 0, .slice none 0 0, .int .i64 0, .int .i64 0, .int .i64 0, .int .i64 0] 39) := by
  go_enter Try.func7, Try.ntmps7
  go_wp2
  go_ret
  exact ⟨rfl, rfl⟩

set_option maxHeartbeats 400000 in
theorem none_no (w : World) (cb : Nat) (c0 : w.cell? ⟨cb, 0, none⟩ = some (.bool true)) : Calls Try.prog 16 #[.pointer (some ⟨cb, 0, none⟩)] w fun e w' => e = .returned (.bool false) ∧ w = w' := by
  go_enter Try.func16, Try.ntmps16
  go_wp2
  go_ret
  exact ⟨rfl, rfl⟩

/-- What Input takes. -/
def Con.taken (s : Con) (b : List UInt8) : Nat := min b.length (4096 - s.waits.length)
def Con.input (s : Con) (b : List UInt8) : Con :=
  { s with waits := s.waits ++ b.take (s.taken b), came := wrap64 (s.came + s.taken b), dropped := wrap64 (s.dropped + (b.length - s.taken b)) }

/-- A slice of bytes that is only read. -/
structure Src (w : World) (bo : Option Addr) (xs : List UInt8) : Prop where
  nil : bo = none → xs = []
  cells : ∀ ad, bo = some ad → ∀ (j : Nat) u, (bv xs)[j]? = some u → w.cell? (ad.add j) = some u

theorem input_end (w w1 : World) (cb : Nat) (wa wa' : Option Addr) (wc wc' : Nat) (oa : Option Addr) (oc : Nat) (s : Con) (b : List UInt8) (h : ConAt w cb wa wc oa oc s) (n : Nat) (hn : n = s.taken b) (X3 X4 : Int)
    (e3 : X3 = wrap64 (s.came + s.taken b)) (e4 : X4 = wrap64 (s.dropped + (b.length - s.taken b)))
    (hown : w1.ownsRow 0 5 1 (.slice wa' (s.waits.length + n) wc') (s.waits.length + n) (bv s.waits ++ bv (b.take n))) (hgr : w.drew.grownBy w1 (blk wa)) (hat : ∀ g, blk wa' = some g → blk wa = some g ∨ g = w.heap.size) :
    ConAt (((w1.setCell ⟨cb, 1, none⟩ (.slice wa' (s.waits.length + n) wc')).setCell ⟨cb, 3, none⟩ (.int .i64 X3)).setCell ⟨cb, 4, none⟩ (.int .i64 X4)) cb wa' wc' oa oc (s.input b) ∧
      Fr (fun k => k = cb ∨ blk wa = some k) w (((w1.setCell ⟨cb, 1, none⟩ (.slice wa' (s.waits.length + n) wc')).setCell ⟨cb, 3, none⟩ (.int .i64 X3)).setCell ⟨cb, 4, none⟩ (.int .i64 X4)) ∧ ∀ g, blk wa' = some g → blk wa = some g ∨ w.heap.size ≤ g := by
  subst e3 e4
  have hcb := heap_lt h.cells
  have hc1 : w1.heap[cb]? = w.heap[cb]? := hgr.block cb hcb (fun e => h.wne e.symm)
  rw [h.cells] at hc1
  have hl : (s.input b).waits.length = s.waits.length + n := by
    subst hn
    simp [Con.input, Con.taken]
  have hne' : ∀ g, blk wa' = some g → g ≠ cb := fun g hg e => by
    subst e
    rcases hat _ hg with h1 | h1
    · exact h.wne h1
    · omega
  have hne0 : ∀ g, blk oa = some g → g ≠ cb := fun g hg e => h.one (e ▸ hg)
  refine ⟨⟨?_, ?_, ?_, ?_, ?_, ?_⟩, ?_, ?_⟩
  · have := heap_set (heap_set (heap_set hc1 (o := 1) (.slice wa' (s.waits.length + n) wc')) (o := 3) (.int .i64 (wrap64 (s.came + s.taken b)))) (o := 4) (.int .i64 (wrap64 (s.dropped + (b.length - s.taken b))))
    rw [this, hl]
    simp [Con.input]
  · rw [hl]
    have e : bv (s.input b).waits = bv s.waits ++ bv (b.take n) := by subst hn; simp [bv, Con.input]
    rw [e]
    refine owns_of_heap hown (fun g hg => ?_)
    have := hne' g (by rw [ownBlock_slice] at hg; exact hg)
    rw [heap_set_ne this, heap_set_ne this, heap_set_ne this]
  · refine owns_of_heap h.orow (fun g hg => ?_)
    rw [ownBlock_slice] at hg
    have h1 := hne0 g hg
    rw [heap_set_ne h1, heap_set_ne h1, heap_set_ne h1]
    exact hgr.block g (owns_lt h.orow g hg) (fun e => h.apart g e.symm hg)
  · exact fun e => hne' _ e rfl
  · exact h.one
  · intro g hg ho
    rcases hat g hg with h1 | h1
    · exact h.apart g h1 ho
    · have := owns_lt h.orow g ho; omega
  · exact (((((Fr.refl _ w).drew).grown hgr (fun k hk _ => .inr hk)).setCell (fun _ => .inl rfl) _).setCell (fun _ => .inl rfl) _).setCell (fun _ => .inl rfl) _
  · exact fun g hg => (hat g hg).imp id (fun e => Nat.le_of_eq e.symm)

set_option maxHeartbeats 800000 in
set_option maxRecDepth 100000 in
theorem input_any (w : World) (cb : Nat) (wa : Option Addr) (wc : Nat) (oa : Option Addr) (oc : Nat) (s : Con) (h : ConAt w cb wa wc oa oc s) (bo : Option Addr) (bc : Nat) (b : List UInt8) (hb : Src w bo b)
    (h1 : s.waits.length ≤ 4096) (h2 : b.length ≤ bc) (h3 : bc ≤ 9223372036854775807) :
    Calls Try.prog 8 #[.pointer (some ⟨cb, 0, none⟩), .slice bo b.length bc] w fun e w' => e = .returned (.tuple #[.int .i64 (s.taken b), .int .i64 0]) ∧ ∃ wa' wc', ConAt w' cb wa' wc' oa oc (s.input b) ∧
      Fr (fun k => k = cb ∨ blk wa = some k) w w' ∧ ∀ g, blk wa' = some g → blk wa = some g ∨ w.heap.size ≤ g := by
  obtain ⟨i0, hi, hz0, hz1, hz2⟩ := info_parts Try.info5
  have c0 := cell_at (o := 0) h.cells
  have c1 := cell_at (o := 1) h.cells
  have c3 := cell_at (o := 3) h.cells
  have c4 := cell_at (o := 4) h.cells
  simp at c0 c1 c3 c4
  have f1 := thawed (o := 1) h.cells
  have f3 := thawed (o := 3) h.cells
  have f4 := thawed (o := 4) h.cells
  have hn : s.taken b ≤ b.length ∧ s.taken b ≤ 4096 := by unfold Con.taken; omega
  obtain ⟨n, en⟩ : ∃ n, n = s.taken b := ⟨_, rfl⟩
  obtain ⟨l, el⟩ : ∃ l, l = s.waits.length := ⟨_, rfl⟩
  obtain ⟨m, em⟩ : ∃ m, m = b.length := ⟨_, rfl⟩
  rw [← en, ← em] at hn
  rw [← el] at c1
  rw [← em, ← en]
  have En := hid en
  have El := hid el
  have Em := hid em
  rw [← em] at h2
  rw [← el] at h1
  have hnc : n ≤ bc := by omega
  have wrow := hid h.wrow
  have hsrc : Hid (∀ ad, bo = some ad → ∀ (j : Nat) u, (bv (b.take n))[j]? = some u → w.cell? (ad.add j) = some u) := by
    intro ad had j u hu
    refine hb.cells ad had j u ?_
    unfold bv at hu ⊢
    rw [List.map_take, List.getElem?_take] at hu
    split at hu
    · exact hu
    · cases hu
  have hlen : Hid ((bv (b.take n)).length = n * 1) := by unfold Hid bv; rw [List.length_map, List.length_take, Nat.mul_one]; omega
  have hnil : Hid (bo = none → n = 0) := fun e => by have := hb.nil e; subst this; rw [en]; simp [Con.taken]
  have hone : Hid (∀ u ∈ bv (b.take n), u.oneCell' = true) := by
    intro u hu
    obtain ⟨x, _, rfl⟩ := List.mem_map.1 hu
    rfl
  have hcb := heap_lt h.cells
  have hne := hid h.wne
  have C := hid h.cells
  have H := hid h
  clear h hb
  rw [← el] at wrow
  clear en el em
  go_enter Try.func8, Try.ntmps8
  go_wp2_with (go_at_call 16; refine (none_no _ _ c0).mono ?_; rintro e w' ⟨rfl, rfl⟩)
  rw [show (4096 : Int) - ↑l = ↑n from by have := En.out; have := El.out; have := Em.out; unfold Con.taken at *; omega]
  rotate_left
  obtain rfl : m = n := by have := En.out; have := El.out; have := Em.out; unfold Con.taken at *; omega
  all_goals
    go_region_law (refine step_append_gen rfl (.tmp 22) (.tmp 25) 29 rfl 5 i0 (.int .u8 0) 1 1 Try.underlying29 hi hz0 hz1 hz2 rfl (by decide) 0 wa l wc (bv s.waits) (by simp [Act.eval]) wrow.out bo _ bc (bv (b.take _)) (by simp [Act.eval]) hlen.out hnil.out hsrc.out hone.out (by unfold maxLen; omega) (by omega) (Nat.zero_le _) ?_; intro wa' wc' w1 hown hgr hat; have k1 := (hgr.cell_far ⟨cb, 1, none⟩ hcb (fun e => hne.out e.symm)).trans c1; have k3 := (hgr.cell_far ⟨cb, 3, none⟩ hcb (fun e => hne.out e.symm)).trans c3; have k4 := (hgr.cell_far ⟨cb, 4, none⟩ hcb (fun e => hne.out e.symm)).trans c4; have g1 := (hgr.frozen_far ⟨cb, 1, none⟩ hcb (fun e => hne.out e.symm)).trans f1; have g3 := (hgr.frozen_far ⟨cb, 3, none⟩ hcb (fun e => hne.out e.symm)).trans f3; have g4 := (hgr.frozen_far ⟨cb, 4, none⟩ hcb (fun e => hne.out e.symm)).trans f4; have Hown := hid hown; have Hgr := hid hgr; have Hat := hid hat; clear hown hgr hat)
    go_wp2
    go_ret2
    refine ⟨rfl, wa', wc', ?_⟩
    obtain rfl := El.out
    exact input_end w w1 cb wa wa' wc wc' oa oc s b H.out _ En.out _ _ (by rw [← En.out]) (by rw [← En.out, ← Em.out] <;> (congr 1; omega)) Hown.out Hgr.out Hat.out

/-- What Write takes. -/
def Con.put (s : Con) (b : List UInt8) : Nat := min b.length (1048576 - s.out.length)
def Con.write (s : Con) (b : List UInt8) : Con :=
  { s with out := s.out ++ b.take (s.put b), written := wrap64 (s.written + s.put b) }

theorem write_end (w w1 : World) (cb : Nat) (oa oa' : Option Addr) (oc oc' : Nat) (wa : Option Addr) (wc : Nat) (s : Con) (b : List UInt8) (h : ConAt w cb wa wc oa oc s) (n : Nat) (hn : n = s.put b) (X3 : Int)
    (e3 : X3 = wrap64 (s.written + s.put b))
    (hown : w1.ownsRow 0 5 1 (.slice oa' (s.out.length + n) oc') (s.out.length + n) (bv s.out ++ bv (b.take n))) (hgr : w.drew.grownBy w1 (blk oa)) (hat : ∀ g, blk oa' = some g → blk oa = some g ∨ g = w.heap.size) :
    ConAt ((w1.setCell ⟨cb, 2, none⟩ (.slice oa' (s.out.length + n) oc')).setCell ⟨cb, 6, none⟩ (.int .i64 X3)) cb wa wc oa' oc' (s.write b) ∧
      Fr (fun k => k = cb ∨ blk oa = some k) w ((w1.setCell ⟨cb, 2, none⟩ (.slice oa' (s.out.length + n) oc')).setCell ⟨cb, 6, none⟩ (.int .i64 X3)) ∧ ∀ g, blk oa' = some g → blk oa = some g ∨ w.heap.size ≤ g := by
  subst e3
  have hcb := heap_lt h.cells
  have hc1 : w1.heap[cb]? = w.heap[cb]? := hgr.block cb hcb (fun e => h.one e.symm)
  rw [h.cells] at hc1
  have hl : (s.write b).out.length = s.out.length + n := by
    subst hn
    simp [Con.write, Con.put]
  have hne' : ∀ g, blk oa' = some g → g ≠ cb := fun g hg e => by
    subst e
    rcases hat _ hg with h1 | h1
    · exact h.one h1
    · omega
  have hne0 : ∀ g, blk wa = some g → g ≠ cb := fun g hg e => h.wne (e ▸ hg)
  refine ⟨⟨?_, ?_, ?_, ?_, ?_, ?_⟩, ?_, ?_⟩
  · have := heap_set (heap_set hc1 (o := 2) (.slice oa' (s.out.length + n) oc')) (o := 6) (.int .i64 (wrap64 (s.written + s.put b)))
    rw [this, hl]
    simp [Con.write]
  · refine owns_of_heap h.wrow (fun g hg => ?_)
    rw [ownBlock_slice] at hg
    have h1 := hne0 g hg
    rw [heap_set_ne h1, heap_set_ne h1]
    exact hgr.block g (owns_lt h.wrow g hg) (fun e => h.apart g hg e.symm)
  · rw [hl]
    have e : bv (s.write b).out = bv s.out ++ bv (b.take n) := by subst hn; simp [bv, Con.write]
    rw [e]
    refine owns_of_heap hown (fun g hg => ?_)
    have := hne' g (by rw [ownBlock_slice] at hg; exact hg)
    rw [heap_set_ne this, heap_set_ne this]
  · exact h.wne
  · exact fun e => hne' _ e rfl
  · intro g hg ho
    rcases hat g ho with h1 | h1
    · exact h.apart g hg h1
    · have := owns_lt h.wrow g hg; omega
  · exact ((((Fr.refl _ w).drew).grown hgr (fun k hk _ => .inr hk)).setCell (fun _ => .inl rfl) _).setCell (fun _ => .inl rfl) _
  · exact fun g hg => (hat g hg).imp id (fun e => Nat.le_of_eq e.symm)

set_option maxHeartbeats 800000 in
set_option maxRecDepth 100000 in
theorem write_any (w : World) (cb : Nat) (wa : Option Addr) (wc : Nat) (oa : Option Addr) (oc : Nat) (s : Con) (h : ConAt w cb wa wc oa oc s) (bo : Option Addr) (bc : Nat) (b : List UInt8) (hb : Src w bo b)
    (h1 : s.out.length ≤ 1048576) (h2 : b.length ≤ bc) (h3 : bc ≤ 9223372036854775807) :
    Calls Try.prog 11 #[.pointer (some ⟨cb, 0, none⟩), .slice bo b.length bc] w fun e w' => e = .returned (.tuple #[.int .i64 (s.put b), .int .i64 0]) ∧ ∃ oa' oc', ConAt w' cb wa wc oa' oc' (s.write b) ∧
      Fr (fun k => k = cb ∨ blk oa = some k) w w' ∧ ∀ g, blk oa' = some g → blk oa = some g ∨ w.heap.size ≤ g := by
  obtain ⟨i0, hi, hz0, hz1, hz2⟩ := info_parts Try.info5
  have c0 := cell_at (o := 0) h.cells
  have c1 := cell_at (o := 2) h.cells
  have c3 := cell_at (o := 6) h.cells
  simp at c0 c1 c3
  have f1 := thawed (o := 2) h.cells
  have f3 := thawed (o := 6) h.cells
  have hn : s.put b ≤ b.length ∧ s.put b ≤ 1048576 := by unfold Con.put; omega
  obtain ⟨n, en⟩ : ∃ n, n = s.put b := ⟨_, rfl⟩
  obtain ⟨l, el⟩ : ∃ l, l = s.out.length := ⟨_, rfl⟩
  obtain ⟨m, em⟩ : ∃ m, m = b.length := ⟨_, rfl⟩
  rw [← en, ← em] at hn
  rw [← el] at c1
  rw [← em, ← en]
  have En := hid en
  have El := hid el
  have Em := hid em
  rw [← em] at h2
  rw [← el] at h1
  have hnc : n ≤ bc := by omega
  have wrow := hid h.orow
  have hsrc : Hid (∀ ad, bo = some ad → ∀ (j : Nat) u, (bv (b.take n))[j]? = some u → w.cell? (ad.add j) = some u) := by
    intro ad had j u hu
    refine hb.cells ad had j u ?_
    unfold bv at hu ⊢
    rw [List.map_take, List.getElem?_take] at hu
    split at hu
    · exact hu
    · cases hu
  have hlen : Hid ((bv (b.take n)).length = n * 1) := by unfold Hid bv; rw [List.length_map, List.length_take, Nat.mul_one]; omega
  have hnil : Hid (bo = none → n = 0) := fun e => by have := hb.nil e; subst this; rw [en]; simp [Con.put]
  have hone : Hid (∀ u ∈ bv (b.take n), u.oneCell' = true) := by
    intro u hu
    obtain ⟨x, _, rfl⟩ := List.mem_map.1 hu
    rfl
  have hcb := heap_lt h.cells
  have hne := hid h.one
  have H := hid h
  clear h hb
  rw [← el] at wrow
  clear en el em
  go_enter Try.func11, Try.ntmps11
  go_wp2_with (go_at_call 16; refine (none_no _ _ c0).mono ?_; rintro e w' ⟨rfl, rfl⟩)
  rw [show (1048576 : Int) - ↑l = ↑n from by have := En.out; have := El.out; have := Em.out; unfold Con.put at *; omega]
  rotate_left
  obtain rfl : m = n := by have := En.out; have := El.out; have := Em.out; unfold Con.put at *; omega
  all_goals
    go_region_law (refine step_append_gen rfl (.tmp 22) (.tmp 25) 29 rfl 5 i0 (.int .u8 0) 1 1 Try.underlying29 hi hz0 hz1 hz2 rfl (by decide) 0 oa l oc (bv s.out) (by simp [Act.eval]) wrow.out bo _ bc (bv (b.take _)) (by simp [Act.eval]) hlen.out hnil.out hsrc.out hone.out (by unfold maxLen; omega) (by omega) (Nat.zero_le _) ?_; intro oa' oc' w1 hown hgr hat; have k1 := (hgr.cell_far ⟨cb, 2, none⟩ hcb (fun e => hne.out e.symm)).trans c1; have k3 := (hgr.cell_far ⟨cb, 6, none⟩ hcb (fun e => hne.out e.symm)).trans c3; have g1 := (hgr.frozen_far ⟨cb, 2, none⟩ hcb (fun e => hne.out e.symm)).trans f1; have g3 := (hgr.frozen_far ⟨cb, 6, none⟩ hcb (fun e => hne.out e.symm)).trans f3; have Hown := hid hown; have Hgr := hid hgr; have Hat := hid hat; clear hown hgr hat)
    go_wp2
    go_ret2
    refine ⟨rfl, oa', oc', ?_⟩
    obtain rfl := El.out
    exact write_end w w1 cb oa oa' oc oc' wa wc s b H.out _ En.out _ (by rw [← En.out]) Hown.out Hgr.out Hat.out
end Go.Proofs.Ytmlmmcfalglbhaa

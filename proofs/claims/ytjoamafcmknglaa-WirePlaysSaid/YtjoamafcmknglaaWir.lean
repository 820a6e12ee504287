/-
  A wire in memory, and its functions, each walked once. No conditions.
-/
import Derived.Test.YtjoamafcmknglaaRows
import Derived.Test.YtjoamafcmknglaaBase
import Derived.Test.YtjoamafcmknglaaChan
namespace Go.Proofs.Ytjoamafcmknglaa
open Go.RowKit Go.Conc

/-- Bytes as cells. -/
def bv (l : List UInt8) : List Value := l.map fun b => Value.int .u8 b.toNat

/-- A slice of bytes that is only read. -/
structure Src (w : World) (bo : Option Addr) (xs : List UInt8) : Prop where
  nil : bo = none → xs = []
  cells : ∀ ad, bo = some ad → ∀ (j : Nat) u, (bv xs)[j]? = some u → w.cell? (ad.add j) = some u

theorem bv_one (xs : List UInt8) : ∀ u ∈ bv xs, u.oneCell' = true := by
  intro u hu
  obtain ⟨x, _, rfl⟩ := List.mem_map.1 hu
  rfl

theorem Try.info5 : (Try.prog.info? 5).map (fun i => (i.zero, i.size, i.bytes)) = some (some (.int .u8 0), 1, 1) := by kernel_rfl
theorem Try.info3 : (Try.prog.info? 3).map (fun i => (i.zero, i.size, i.bytes)) = some (some (.int .i64 0), 1, 8) := by kernel_rfl

set_option maxHeartbeats 400000 in
theorem clone_any (w : World) (ao : Option Addr) (l c : Nat) (xs : List UInt8) (h : Src w ao xs) (hl : xs.length = l) (hc : l ≤ 140737488351232) (hn : ao = none → c = 0) :
    Calls Try.prog 25 #[.slice ao l c] w fun e w' => ∃ ro cap, e = .returned (.slice ro l cap) ∧ Hid (w'.ownsRow w.heap.size 5 1 (.slice ro l cap) l (bv xs)) ∧ Hid (Fr (fun _ => False) w w') := by
  obtain ⟨i0, hi, hz0, hz1, hz2⟩ := info_parts Try.info5
  cases ao with
  | none =>
    obtain rfl := h.nil rfl
    obtain rfl := hn rfl
    simp only [List.length_nil] at hl
    subst hl
    have he := fun (w : World) => Lib.run_eql_slice_nil (P := Try.prog) w 28 5 none 0 0 0 0 Try.underlying28
    go_enter Try.func25, Try.ntmps25
    go_wp2
    go_ret
    exact ⟨none, 0, rfl, World.ownsRow_nil _ _ _ _, Fr.refl _ _⟩
  | some ad =>
    have he := fun (w : World) => Lib.run_eql_slice_nil (P := Try.prog) w 28 5 (some ad) l c 0 0 Try.underlying28
    have hrow : Hid ((w.alloc (.cells #[] 5)).ownsRow w.heap.size 5 1 (.slice (some ⟨w.heap.size, 0, none⟩) 0 0) 0 []) := World.ownsRow_made w #[] 0 (Nat.le_refl _) (Nat.zero_le _) rfl
    have hsrc : Hid (∀ a, some ad = some a → ∀ j u, (bv xs)[j]? = some u → (w.alloc (.cells #[] 5)).cell? (a.add j) = some u) := by
      intro a ha j u hu
      have hc := h.cells a ha j u hu
      rw [World.cell?_of_block (Below.heap_alloc _ _ _ (block_lt_of_cell hc))]
      exact hc
    have hlen : Hid ((bv xs).length = l * 1) := by unfold Hid bv; rw [List.length_map, hl, Nat.mul_one]
    clear h hl
    go_enter Try.func25, Try.ntmps25
    go_wp2_with (at_builtin; refine wpList_append_gen rfl (.tmp 5) (.tmp 6) 28 rfl 5 i0 (.int .u8 0) 1 1 Try.underlying28 hi hz0 hz1 hz2 rfl (by decide) w.heap.size _ 0 0 [] (by simp [Act.eval]) hrow.out (some ad) l c (bv xs) (by simp [Act.eval]) hlen.out (fun e => by cases e) hsrc.out (bv_one _) (by unfold maxLen; omega) (by omega) (by simp) ?_; intro ro cap w' hown hgr hat; have Hown := hid hown; have Hgr := hid hgr; clear hown hgr hat)
    go_ret
    refine ⟨ro, cap, by simp, by unfold Hid; simpa using Hown.out, ?_⟩
    exact ((Fr.refl _ w).alloc _).grown Hgr.out (fun k e hk => by simp at e; omega)

/-- A message that waits. -/
structure Msg where
  src : Int
  ro : Option Addr
  cap : Nat
  bs : List UInt8
def Msg.val (m : Msg) : Value := .agg #[.int .i64 m.src, .slice m.ro m.bs.length m.cap]
def Msg.apart (m m' : Msg) : Prop := ∀ g, blk m.ro = some g → blk m'.ro ≠ some g
def Msg.told (m : Msg) : Int × List UInt8 := (m.src, m.bs)
def vals (l : List Msg) : Array Value := (l.map Msg.val).toArray

/-- A wire of n ports at block lb, all its blocks among S. -/
structure WAt (S : Nat → Prop) (w : World) (lb gb gc pb pc n : Nat) (G : Nat → Int) (ch : Nat → Nat) (q : Nat → List Msg) : Prop where
  l : w.heap[lb]? = some (.cells #[.slice (some ⟨gb, 0, none⟩) n gc, .slice (some ⟨pb, 0, none⟩) n pc] 42 (0, 0))
  grp : ∃ cur, w.heap[gb]? = some (.cells cur 3 (0, 0)) ∧ ∀ i, i < n → cur[i]? = some (.int .i64 (G i))
  prt : ∃ cur, w.heap[pb]? = some (.cells cur 66 (0, 0)) ∧ ∀ i, i < n → cur[i]? = some (.chan (some (ch i)))
  chan : ∀ i, i < n → ∃ s r, w.heap[ch i]? = some (.chan 16 (vals (q i)) false s r false)
  msgs : ∀ i, i < n → ∀ m ∈ q i, w.ownsRow 0 5 1 (.slice m.ro m.bs.length m.cap) m.bs.length (bv m.bs) ∧ m.bs.length ≤ 2048
  inj : ∀ i j, i < n → j < n → i ≠ j → ch i ≠ ch j
  pw : ∀ i, i < n → (q i).Pairwise Msg.apart
  cross : ∀ i j, i < n → j < n → i ≠ j → ∀ m ∈ q i, ∀ m' ∈ q j, Msg.apart m m'
  mine : S lb ∧ S gb ∧ S pb ∧ ∀ i, i < n → S (ch i) ∧ ∀ m ∈ q i, ∀ g, blk m.ro = some g → S g

def WIRE (S : Nat → Prop) (w : World) (lb n : Nat) (G : Nat → Int) (Q : Nat → List (Int × List UInt8)) : Prop :=
  ∃ gb gc pb pc ch q, WAt S w lb gb gc pb pc n G ch q ∧ ∀ i, i < n → Q i = (q i).map Msg.told

section
variable {S T : Nat → Prop} {w w' : World} {lb gb gc pb pc n : Nat} {G : Nat → Int} {ch : Nat → Nat} {q : Nat → List Msg} {Q : Nat → List (Int × List UInt8)}

/-- All the blocks of a wire are as they were. -/
theorem WAt.of_heap (h : WAt S w lb gb gc pb pc n G ch q) (hb : ∀ k, k < w.heap.size → S k → w'.heap[k]? = w.heap[k]?) : WAt S w' lb gb gc pb pc n G ch q := by
  obtain ⟨g1, h1, h2⟩ := h.grp
  obtain ⟨p1, h3, h4⟩ := h.prt
  refine ⟨?_, ⟨g1, ?_, h2⟩, ⟨p1, ?_, h4⟩, fun i hi => ?_, fun i hi m hm => ⟨?_, (h.msgs i hi m hm).2⟩, h.inj, h.pw, h.cross, h.mine⟩
  · rw [hb _ (heap_lt h.l) h.mine.1]; exact h.l
  · rw [hb _ (heap_lt h1) h.mine.2.1]; exact h1
  · rw [hb _ (heap_lt h3) h.mine.2.2.1]; exact h3
  · obtain ⟨s, r, hc⟩ := h.chan i hi
    exact ⟨s, r, by rw [hb _ (heap_lt hc) (h.mine.2.2.2 i hi).1]; exact hc⟩
  · refine owns_of_heap (h.msgs i hi m hm).1 (fun g hg => ?_)
    rw [ownBlock_slice] at hg
    exact hb g (owns_lt (h.msgs i hi m hm).1 g hg) ((h.mine.2.2.2 i hi).2 m hm g hg)

theorem WIRE.kept (h : WIRE S w lb n G Q) (hf : Fr T w w') (hT : ∀ k, S k → ¬ T k) : WIRE S w' lb n G Q := by
  obtain ⟨gb, gc, pb, pc, ch, q, h, hQ⟩ := h
  exact ⟨gb, gc, pb, pc, ch, q, h.of_heap (fun k hk hs => hf.block k hk (hT k hs)), hQ⟩

theorem WAt.mono (h : WAt S w lb gb gc pb pc n G ch q) (hT : ∀ k, k < w.heap.size → S k → T k) : WAt T w lb gb gc pb pc n G ch q := by
  obtain ⟨g1, h1, h2⟩ := h.grp
  obtain ⟨p1, h3, h4⟩ := h.prt
  refine ⟨h.l, h.grp, h.prt, h.chan, h.msgs, h.inj, h.pw, h.cross, hT _ (heap_lt h.l) h.mine.1, hT _ (heap_lt h1) h.mine.2.1, hT _ (heap_lt h3) h.mine.2.2.1, fun i hi => ⟨?_, fun m hm g hg => ?_⟩⟩
  · obtain ⟨s, r, hc⟩ := h.chan i hi
    exact hT _ (heap_lt hc) (h.mine.2.2.2 i hi).1
  · exact hT g (owns_lt (h.msgs i hi m hm).1 g hg) ((h.mine.2.2.2 i hi).2 m hm g hg)

theorem WIRE.mono (h : WIRE S w lb n G Q) (hT : ∀ k, k < w.heap.size → S k → T k) : WIRE T w lb n G Q := by
  obtain ⟨gb, gc, pb, pc, ch, q, h, hQ⟩ := h
  exact ⟨gb, gc, pb, pc, ch, q, h.mono hT, hQ⟩

theorem WAt.cellsP (h : WAt S w lb gb gc pb pc n G ch q) : w.cell? ⟨lb, 0, none⟩ = some (.slice (some ⟨gb, 0, none⟩) n gc) ∧ w.cell? ⟨lb, 1, none⟩ = some (.slice (some ⟨pb, 0, none⟩) n pc) ∧
    (∀ i, i < n → w.cell? ⟨gb, i, none⟩ = some (.int .i64 (G i))) ∧ (∀ i, i < n → w.cell? ⟨pb, i, none⟩ = some (.chan (some (ch i)))) := by
  obtain ⟨g1, h1, h2⟩ := h.grp
  obtain ⟨p1, h3, h4⟩ := h.prt
  exact ⟨(cell_at h.l).trans rfl, (cell_at h.l).trans rfl, fun i hi => (cell_at h1).trans (h2 i hi), fun i hi => (cell_at h3).trans (h4 i hi)⟩
end

set_option maxHeartbeats 400000 in
theorem wrong_ok (w : World) (lb : Nat) (pb : Addr) (n pc : Nat) (c0 : w.cell? ⟨lb, 1, none⟩ = some (.slice (some pb) n pc)) (i : Int) (h0 : 0 ≤ i) (hn : i < n) :
    Calls Try.prog 21 #[.pointer (some ⟨lb, 0, none⟩), .int .i64 i] w fun e w' => e = .returned (.int .i64 0) ∧ w = w' := by
  have he := fun (w : World) => Lib.run_eql_slice_nil (P := Try.prog) w 40 66 (some pb) n pc 0 0 Try.underlying40
  have h1 : ¬ i < 0 := by omega
  go_enter Try.func21, Try.ntmps21
  go_wp2
  go_ret
  exact ⟨rfl, rfl⟩

set_option maxHeartbeats 400000 in
theorem wrong_bad (w : World) (lb : Nat) (pb : Addr) (n pc : Nat) (c0 : w.cell? ⟨lb, 1, none⟩ = some (.slice (some pb) n pc)) (i : Int) (h : i < 0 ∨ (n : Int) ≤ i) :
    Calls Try.prog 21 #[.pointer (some ⟨lb, 0, none⟩), .int .i64 i] w fun e w' => e = .returned (.int .i64 2) ∧ w = w' := by
  have he := fun (w : World) => Lib.run_eql_slice_nil (P := Try.prog) w 40 66 (some pb) n pc 0 0 Try.underlying40
  rcases h with h | h
  · go_enter Try.func21, Try.ntmps21
    go_wp2
    go_ret
    exact ⟨rfl, rfl⟩
  · have h0 : ¬ i < 0 := by omega
    go_enter Try.func21, Try.ntmps21
    go_wp2
    go_ret
    exact ⟨rfl, rfl⟩

theorem vals_push (l : List Msg) (m : Msg) : (vals l).push m.val = vals (l ++ [m]) := by simp [vals]
theorem vals_size (l : List Msg) : (vals l).size = l.length := by simp [vals]
theorem vals_pop (m : Msg) (l : List Msg) : (vals (m :: l)).extract 1 (vals (m :: l)).size = vals l := by
  apply Array.ext'
  simp [vals, List.extract]
  rw [List.take_of_length_le (by simp)]
theorem setChan_ne (w : World) (c c' cap : Nat) (buf : Array Value) (closed : Bool) (s r : Nat) (tm : Bool) (h : c ≠ c') : (w.setChan c cap buf closed s r tm).heap[c']? = w.heap[c']? := by
  simp [World.setChan, Array.getElem?_setIfInBounds_ne h]

def updA {α : Type} (q : Nat → α) (i : Nat) (l : α) : Nat → α := fun j => if j = i then l else q j

/-- One port's channel turned. -/
theorem WAt.turn {S : Nat → Prop} {w : World} {lb gb gc pb pc n : Nat} {G : Nat → Int} {ch : Nat → Nat} {q : Nat → List Msg} (h : WAt S w lb gb gc pb pc n G ch q) {i : Nat} (hi : i < n) (l : List Msg) (s r : Nat)
    (hm : ∀ m ∈ l, (w.ownsRow 0 5 1 (.slice m.ro m.bs.length m.cap) m.bs.length (bv m.bs) ∧ m.bs.length ≤ 2048) ∧ ∀ g, blk m.ro = some g → S g)
    (hp : l.Pairwise Msg.apart) (hc : ∀ j, j < n → j ≠ i → ∀ m ∈ l, ∀ m' ∈ q j, Msg.apart m m' ∧ Msg.apart m' m) :
    WAt S (w.setChan (ch i) 16 (vals l) false s r false) lb gb gc pb pc n G ch (updA q i l) ∧ Fr S w (w.setChan (ch i) 16 (vals l) false s r false) := by
  obtain ⟨s0, r0, hci⟩ := h.chan i hi
  have hlt := heap_lt hci
  have far : ∀ (k : Nat) (c : Array Value) (e : TypeId) (fr : Nat × Nat), w.heap[k]? = some (Obj.cells c e fr) → (w.setChan (ch i) 16 (vals l) false s r false).heap[k]? = w.heap[k]? := by
    intro k c e fr hk
    refine setChan_ne _ _ _ _ _ _ _ _ _ (fun e' => ?_)
    subst e'
    rw [hci] at hk
    cases hk
  have own : ∀ m : Msg, w.ownsRow 0 5 1 (.slice m.ro m.bs.length m.cap) m.bs.length (bv m.bs) → (w.setChan (ch i) 16 (vals l) false s r false).ownsRow 0 5 1 (.slice m.ro m.bs.length m.cap) m.bs.length (bv m.bs) := by
    intro m ho
    refine owns_of_heap ho (fun g hg => ?_)
    rcases ho.2 with ⟨hv, _⟩ | ⟨g', cp, cur, hv, _, hg', _⟩
    · rw [hv] at hg; cases hg
    · rw [hv] at hg
      cases hg
      exact far _ _ _ _ hg'
  obtain ⟨g1, h1, h2⟩ := h.grp
  obtain ⟨p1, h3, h4⟩ := h.prt
  refine ⟨⟨by rw [far _ _ _ _ h.l]; exact h.l, ⟨g1, by rw [far _ _ _ _ h1]; exact h1, h2⟩, ⟨p1, by rw [far _ _ _ _ h3]; exact h3, h4⟩, fun j hj => ?_, fun j hj m hmj => ?_, h.inj, fun j hj => ?_, fun j k hj hk hjk m hmj m' hmk => ?_, ⟨h.mine.1, h.mine.2.1, h.mine.2.2.1, fun j hj => ⟨(h.mine.2.2.2 j hj).1, fun m hmj g hg => ?_⟩⟩⟩, ?_⟩
  · by_cases e : j = i
    · subst e
      exact ⟨s, r, by rw [heap_setChan w _ _ _ _ _ _ _ hlt]; simp [updA]⟩
    · obtain ⟨s', r', hc'⟩ := h.chan j hj
      exact ⟨s', r', by rw [setChan_ne _ _ _ _ _ _ _ _ _ (h.inj i j hi hj (Ne.symm e)), hc']; simp [updA, e]⟩
  · by_cases e : j = i
    · simp only [updA, if_pos e] at hmj
      exact ⟨own m (hm m hmj).1.1, (hm m hmj).1.2⟩
    · simp only [updA, if_neg e] at hmj
      exact ⟨own m (h.msgs j hj m hmj).1, (h.msgs j hj m hmj).2⟩
  · by_cases e : j = i
    · simp only [updA, if_pos e]; exact hp
    · simp only [updA, if_neg e]; exact h.pw j hj
  · by_cases e : j = i
    · have e2 : k ≠ i := fun e' => hjk (e.trans e'.symm)
      simp only [updA, if_pos e] at hmj
      simp only [updA, if_neg e2] at hmk
      exact (hc k hk e2 m hmj m' hmk).1
    · simp only [updA, if_neg e] at hmj
      by_cases e2 : k = i
      · simp only [updA, if_pos e2] at hmk
        exact (hc j hj e m' hmk m hmj).2
      · simp only [updA, if_neg e2] at hmk
        exact h.cross j k hj hk hjk m hmj m' hmk
  · by_cases e : j = i
    · simp only [updA, if_pos e] at hmj
      exact (hm m hmj).2 g hg
    · simp only [updA, if_neg e] at hmj
      exact (h.mine.2.2.2 j hj).2 m hmj g hg
  · exact ⟨rfl, rfl, rfl, by simp [World.setChan], fun k hk hs => setChan_ne _ _ _ _ _ _ _ _ _ (fun e => hs (e ▸ (h.mine.2.2.2 i hi).1))⟩

def putQ (Q : Nat → List (Int × List UInt8)) (i : Nat) (m : Int × List UInt8) : Nat → List (Int × List UInt8) := if (Q i).length < 16 then updA Q i (Q i ++ [m]) else Q

/-- The new message's clone is laid; then it is sent, or falls. -/
theorem WAt.cloned {S : Nat → Prop} {w w1 : World} {lb gb gc pb pc n : Nat} {G : Nat → Int} {ch : Nat → Nat} {q : Nat → List Msg} (h : WAt S w lb gb gc pb pc n G ch q) (hS : ∀ k, w.heap.size ≤ k → S k) (m : Msg)
    (hown : w1.ownsRow w.heap.size 5 1 (.slice m.ro m.bs.length m.cap) m.bs.length (bv m.bs)) (hF : Fr (fun _ => False) w w1) (hlen : m.bs.length ≤ 2048) :
    WAt S w1 lb gb gc pb pc n G ch q ∧ ((w1.ownsRow 0 5 1 (.slice m.ro m.bs.length m.cap) m.bs.length (bv m.bs) ∧ m.bs.length ≤ 2048) ∧ ∀ g, blk m.ro = some g → S g) ∧
    ∀ j, j < n → ∀ m' ∈ q j, Msg.apart m m' ∧ Msg.apart m' m := by
  have hge : ∀ g, blk m.ro = some g → w.heap.size ≤ g := by
    intro g hg
    rcases hown.2 with ⟨hv, _⟩ | ⟨g', cp, cur, hv, hb, _⟩
    · simp only [Value.slice.injEq] at hv; rw [hv.1] at hg; cases hg
    · simp only [Value.slice.injEq] at hv
      rw [hv.1] at hg
      cases hg
      exact hb
  refine ⟨h.of_heap (fun k hk _ => hF.block k hk (fun h => h)), ⟨⟨⟨hown.1, hown.2.imp id (fun ⟨g, cp, cur, a, b, c⟩ => ⟨g, cp, cur, a, Nat.zero_le _, c⟩)⟩, hlen⟩, fun g hg => hS g (hge g hg)⟩, fun j hj m' hm' => ?_⟩
  have hlt : ∀ g, blk m'.ro = some g → g < w.heap.size := fun g hg => owns_lt (h.msgs j hj m' hm').1 g hg
  exact ⟨fun g hg hg' => Nat.not_le_of_lt (hlt g hg') (hge g hg), fun g hg hg' => Nat.not_le_of_lt (hlt g hg) (hge g hg')⟩

/-- No cell that was there has changed. -/
def Keeps (w w' : World) : Prop := ∀ (k : Nat) (c : Array Value) (e : TypeId) (fr : Nat × Nat), w.heap[k]? = some (.cells c e fr) → w'.heap[k]? = some (.cells c e fr)
theorem Keeps.cell {w w' : World} (h : Keeps w w') {k o : Nat} {v : Value} (hc : w.cell? ⟨k, o, none⟩ = some v) : w'.cell? ⟨k, o, none⟩ = some v := by
  cases hk : w.heap[k]? with
  | none => simp [World.cell?, hk] at hc
  | some ob =>
    cases ob with
    | cells c e fr =>
      rw [World.cell?_of_block (a := ⟨k, o, none⟩) ((h k c e fr hk).trans hk.symm)]
      exact hc
    | _ => simp [World.cell?, hk] at hc

set_option maxHeartbeats 400000 in
theorem put_any (S : Nat → Prop) (w : World) (lb n : Nat) (G : Nat → Int) (Q : Nat → List (Int × List UInt8)) (h : WIRE S w lb n G Q) (hS : ∀ k, w.heap.size ≤ k → S k) (i : Nat) (hi : i < n) (src : Int) (bo : Option Addr) (bl bc : Nat) (b : List UInt8)
    (hb : Src w bo b) (hbl : b.length = bl) (hle : bl ≤ 2048) (hn : bo = none → bc = 0) :
    Calls Try.prog 23 #[.pointer (some ⟨lb, 0, none⟩), .int .i64 i, .int .i64 src, .slice bo bl bc] w fun e w' => e = .returned (.bool (decide ((Q i).length < 16))) ∧ Hid (WIRE S w' lb n G (putQ Q i (src, b))) ∧ Hid (Fr S w w') ∧ Hid (Keeps w w') := by
  obtain ⟨gb, gc, pb, pc, ch, q, hW, hQ⟩ := h
  have H := hid hW
  have HQ := hid hQ
  have hlen : (Q i).length = (q i).length := by rw [hQ i hi, List.length_map]
  have Hlen := hid hlen
  obtain ⟨c0, c1, c2, c3⟩ := hW.cellsP
  replace c3 := c3 i hi
  have hin : ((i : Int) < (n : Int)) := by omega
  have HC := hid (clone_any w bo bl bc b hb hbl (by omega) hn)
  have Hbl := hid hbl
  clear hW hQ hb hlen c0 c2 hbl
  refine calls_of_wpN Try.func23 rfl ?_
  simp only [Try.ntmps23, List.size_toArray, List.length_cons, List.length_nil, Nat.reduceAdd, Nat.reduceSub, Array.replicate_succ, Array.replicate_zero, List.push_toArray, List.append_toArray, List.nil_append, List.cons_append]
  refine wpN_seq_k (fun K HK => ?_)
  go_wp2_with fail
  refine HK.out _ _ ?_
  clear HK K
  refine wpN_seq_k (fun K HK => ?_)
  go_wp2_with fail
  refine HC.out.mono ?_
  rintro e w1 ⟨ro, cap, rfl, Hown, HF⟩
  go_wp2_with fail
  refine HK.out _ _ ?_
  clear HK K
  obtain ⟨m, hm⟩ : ∃ m : Msg, m = ⟨src, ro, cap, b⟩ := ⟨_, rfl⟩
  have hmv : (Value.agg #[.int .i64 src, .slice ro bl cap]) = m.val := by rw [hm, ← Hbl.out]; rfl
  have hown' : w1.ownsRow w.heap.size 5 1 (.slice m.ro m.bs.length m.cap) m.bs.length (bv m.bs) := by rw [hm]; show w1.ownsRow _ 5 1 (.slice ro b.length cap) b.length (bv b); rw [Hbl.out]; exact Hown.out
  obtain ⟨k1, k2, k3⟩ := H.out.cloned hS m hown' HF.out (by rw [hm]; show b.length ≤ 2048; rw [Hbl.out]; exact hle)
  obtain ⟨s, r, hc⟩ := k1.chan i hi
  have hout : m.told = (src, b) := by rw [hm]; rfl
  have hFS : Fr S w w1 := HF.out.mono (fun _ _ h => h.elim)
  have hK : Keeps w w1 := fun k c e fr hk => (HF.out.block k (heap_lt hk) (fun h => h)).trans hk
  have hKc : ∀ l s r, Keeps w (w1.setChan (ch i) 16 (vals l) false s r false) := by
    intro l s r k c e fr hk
    rw [setChan_ne _ _ _ _ _ _ _ _ _ (fun e' => ?_)]
    · exact hK k c e fr hk
    · subst e'
      have := hK _ c e fr hk
      rw [hc] at this
      cases this
  by_cases hl : (q i).length < 16
  · have hfin : Hid (WIRE S (w1.setChan (ch i) 16 (vals (q i ++ [m])) false (s + 1) r false) lb n G (putQ Q i (src, b)) ∧ Fr S w (w1.setChan (ch i) 16 (vals (q i ++ [m])) false (s + 1) r false) ∧ Keeps w (w1.setChan (ch i) 16 (vals (q i ++ [m])) false (s + 1) r false)) := by
      obtain ⟨t1, t2⟩ := k1.turn hi (q i ++ [m]) (s + 1) r (fun m' hm' => by
          rcases List.mem_append.1 hm' with h | h
          · exact ⟨k1.msgs i hi m' h, fun g hg => (k1.mine.2.2.2 i hi).2 m' h g hg⟩
          · rw [List.mem_singleton] at h; subst h; exact k2)
        (List.pairwise_append.2 ⟨k1.pw i hi, List.pairwise_singleton _ _, fun a ha b' hb' => by rw [List.mem_singleton] at hb'; subst hb'; exact (k3 i hi a ha).2⟩)
        (fun j hj hji m1 hm1 m2 hm2 => by
          rcases List.mem_append.1 hm1 with h | h
          · exact ⟨k1.cross i j hi hj (Ne.symm hji) m1 h m2 hm2, k1.cross j i hj hi hji m2 hm2 m1 h⟩
          · rw [List.mem_singleton] at h; subst h; exact k3 j hj m2 hm2)
      refine ⟨⟨gb, gc, pb, pc, ch, _, t1, fun j hj => ?_⟩, hFS.trans t2, hKc _ _ _⟩
      have hq : (Q i).length < 16 := by rw [Hlen.out]; exact hl
      simp only [putQ, if_pos hq, updA]
      by_cases e : j = i
      · simp only [if_pos e, List.map_append, List.map_cons, List.map_nil, hout, HQ.out i hi]
      · simp only [if_neg e, HQ.out j hj]
    rw [show decide ((Q i).length < 16) = true from by rw [Hlen.out]; exact decide_eq_true hl]
    clear k1 k2 k3 hown' Hown HF H HQ HC hFS hm hS hK hKc
    refine wpN_seqN ?_
    refine wpN_send_room (v := m.val) (z := .agg #[.int .i64 0, .slice none 0 0]) rfl (by rw [← hmv]; simp [go_sem, execOp, scase, Act.eval]) hc (by simpa [vals] using hl) ?_
    rw [vals_push]
    go_wp2
    refine wpN_of_wp ?_
    go_wp2
    go_ret
    exact ⟨rfl, hfin.out⟩
  · have hfin : Hid (WIRE S w1 lb n G (putQ Q i (src, b)) ∧ Fr S w w1 ∧ Keeps w w1) := by
      have hq : ¬ (Q i).length < 16 := by rw [Hlen.out]; exact hl
      simp only [putQ, if_neg hq]
      exact ⟨⟨gb, gc, pb, pc, ch, q, k1, HQ.out⟩, hFS, hK⟩
    rw [show decide ((Q i).length < 16) = false from by rw [Hlen.out]; exact decide_eq_false hl]
    clear k1 k2 k3 hown' Hown HF H HQ HC hFS hm hS hK hKc
    refine wpN_seqN ?_
    refine wpN_send_full (v := m.val) (z := .agg #[.int .i64 0, .slice none 0 0]) rfl (by rw [← hmv]; simp [go_sem, execOp, scase, Act.eval]) hc (by simpa [vals] using hl) ?_
    go_wp2
    refine wpN_of_wp ?_
    go_wp2
    go_ret
    exact ⟨rfl, hfin.out⟩
end Go.Proofs.Ytjoamafcmknglaa

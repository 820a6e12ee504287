/-
  The reference's wire: put, Inject, Receive. No conditions.
-/
import Derived.Test.YtjoamafcmknglaaWref
namespace Go.Proofs.Ytjoamafcmknglaa
open Go.RowKit Go.Conc

theorem Try.info55 : (Try.prog.info? 55).map (fun i => (i.zero, i.size, i.bytes)) = some (some (.agg #[.int .i64 0, .string ⟨#[]⟩]), 2, 24) := by kernel_rfl

/-- Rows that hold neither queues nor messages are as they were. -/
def KeepV (w w' : World) : Prop := ∀ (k : Nat) (c : Array Value) (e : TypeId) (fr : Nat × Nat), w.heap[k]? = some (.cells c e fr) → e ≠ 60 → e ≠ 55 → w'.heap[k]? = w.heap[k]?
theorem KeepV.cell {w w' : World} (h : KeepV w w') {k o : Nat} {c : Array Value} {e : TypeId} {fr : Nat × Nat} (hk : w.heap[k]? = some (.cells c e fr)) (h1 : e ≠ 60) (h2 : e ≠ 55) : w'.cell? ⟨k, o, none⟩ = w.cell? ⟨k, o, none⟩ :=
  World.cell?_of_block (a := ⟨k, o, none⟩) (h k c e fr hk h1 h2)
theorem Seg.type {w : World} {e : TypeId} {size : Nat} {a : Option Addr} {len cap : Nat} {xs : List Value} (h : Seg w e size a len cap xs) : ∀ g, blk a = some g → ∃ cur, w.heap[g]? = some (.cells cur e (0, 0)) := by
  intro g hg
  rcases h.2.2.2 with ⟨h4, _⟩ | ⟨g', off, cur, ha, hg', _⟩
  · rw [h4] at hg; cases hg
  · rw [ha] at hg
    cases hg
    exact ⟨cur, hg'⟩

section
variable (S : Nat → Prop) (w : World) (rb n : Nat) (G : Nat → Int) (Q : QS) (h : VP S w rb n G Q)
include h

set_option maxHeartbeats 1000000 in
theorem v_put (hS : ∀ k, w.heap.size ≤ k → S k) (bo : Option Addr) (bl bc : Nat) (b : List UInt8) (hb : Src w bo b) (hbl : b.length = bl) (i : Nat) (hi : i < n) (f : Int) :
    Calls Try.prog 24 #[.pointer (some ⟨rb, 0, none⟩), .int .i64 i, .int .i64 f, .slice bo bl bc] w fun e w' => e = .returned (.bool (decide ((Q i).length < 16))) ∧ Hid (VP S w' rb n G (putQ Q i (f, b))) ∧ Hid (Fr S w w') ∧ Hid (KeepV w w') := by
  have HP := hid h
  obtain ⟨gb, gc, ab, wa, wc, h⟩ := h
  have hin : ((i : Int) < (n : Int)) := by omega
  obtain ⟨_, c1, _, c3, _, f1⟩ := h.cellsP
  replace c3 := c3 i hi
  replace f1 := f1 i
  by_cases hl : (Q i).length < 16
  · obtain ⟨i0, hi0, hz0, hz1, hz2⟩ := info_parts Try.info55
    obtain ⟨d, hd⟩ : ∃ d : ByteArray, d = ⟨b.toArray⟩ := ⟨_, rfl⟩
    have hcv := run_conv w.drew bo b (show Src w.drew bo b from ⟨hb.nil, hb.cells⟩) bl bc hbl
    rw [← hd] at hcv
    obtain ⟨l, el⟩ : ∃ l, l = (Q i).length := ⟨_, rfl⟩
    have hne := h.ne.2.2.2 i hi
    have hrb := heap_lt h.l
    have hab : ab < w.heap.size := by obtain ⟨cur, h2, _⟩ := h.tab; exact heap_lt h2
    have hold : ∀ (wb : World) (g : Nat), wb.heap = (w.alloc (.cells #[.int .i64 f, .string d] 55)).heap → g < w.heap.size → wb.heap[g]? = w.heap[g]? := by
      intro wb g hw hg
      rw [hw, Below.heap_alloc _ _ _ hg]
    have hrow : Hid (∀ wb : World, wb.heap = (w.alloc (.cells #[.int .i64 f, .string d] 55)).heap → Seg wb 55 2 (wa i) l (wc i) (mvv (Q i)) ∧ ∀ j u, [Value.int .i64 f, .string d][j]? = some u → wb.cell? ((⟨w.heap.size, 0, none⟩ : Addr).add j) = some u) := by
      intro wb hw
      refine ⟨by rw [el]; exact (h.row i hi).of_heap (fun g hg => hold wb g hw ((h.row i hi).lt g hg)), World.news_of_block (cs := #[Value.int .i64 f, .string d]) (t := 55) (fr := (0, 0)) (by rw [hw]; exact heap_alloc_new w _)⟩
    have hend : Hid (∀ (wb w1 : World) (g' off' cap' : Nat), wb.heap = (w.alloc (.cells #[.int .i64 f, .string d] 55)).heap → (wb.os = w.os ∧ wb.tape = w.tape ∧ wb.output = w.output) → Seg w1 55 2 (some ⟨g', off', none⟩) (l + 1) cap' (mvv (Q i) ++ [.int .i64 f, .string d]) → wb.grownBy w1 (blk (wa i)) → (blk (wa i) = some g' ∨ wb.heap.size ≤ g') →
        (w1.cell? ⟨rb, 1, none⟩ = some (.slice (some ⟨ab, 0, none⟩) n n) ∧ w1.cell? ⟨ab, i, none⟩ = some (.slice (wa i) l (wc i)) ∧ w1.frozen? ⟨ab, i, none⟩ = false) ∧
        Hid (VP S (w1.setCell ⟨ab, i, none⟩ (.slice (some ⟨g', off', none⟩) (l + 1) cap')) rb n G (putQ Q i (f, b))) ∧ Hid (Fr S w (w1.setCell ⟨ab, i, none⟩ (.slice (some ⟨g', off', none⟩) (l + 1) cap'))) ∧ Hid (KeepV w (w1.setCell ⟨ab, i, none⟩ (.slice (some ⟨g', off', none⟩) (l + 1) cap')))) := by
      intro wb w1 g' off' cap' hw hw2 hseg hgr hat
      have hsz : wb.heap.size = w.heap.size + 1 := by rw [hw]; simp
      have hb' : ∀ k, k < w.heap.size → blk (wa i) ≠ some k → w1.heap[k]? = w.heap[k]? := fun k hk hn => (hgr.block k (by omega) (fun e => hn e.symm)).trans (hold wb k hw hk)
      have hr1 := hb' rb hrb hne.1
      have ha1 := hb' ab hab hne.2.2
      refine ⟨⟨?_, ?_, ?_⟩, ?_, ?_, ?_⟩
      · rw [World.cell?_of_block (a := ⟨rb, 1, none⟩) hr1]; exact c1
      · rw [World.cell?_of_block (a := ⟨ab, i, none⟩) ha1, el]; exact c3
      · rw [World.frozen?_of_block (a := ⟨ab, i, none⟩) ha1]; exact f1
      · have hlen : (Q i ++ [(f, b)]).length = l + 1 := by rw [List.length_append, el]; rfl
        have := h.turn hi hb' (some ⟨g', off', none⟩) cap' (Q i ++ [(f, b)]) (by omega) (by rw [hlen, mvv_append]; simpa [mvv, mv, str, ← hd] using hseg) (fun g hg => by
          cases hg
          rcases hat with e | e
          · exact .inl e
          · exact .inr ⟨by show w.heap.size ≤ g'; omega, hS _ (by show w.heap.size ≤ g'; omega)⟩)
        rw [hlen] at this
        unfold Hid putQ
        rw [if_pos hl]
        exact this
      · have hFb : Fr S w wb := ⟨hw2.1, hw2.2.1, hw2.2.2, by omega, fun k hk _ => hold wb k hw hk⟩
        exact (hFb.grown hgr (fun g hg _ => h.mine.2.2.2 i hi g hg)).setCell (fun _ => h.mine.2.2.1) _
      · intro k c e fr hk h60 h55
        obtain ⟨cur, h2, _⟩ := h.tab
        have hka : k ≠ ab := fun e' => by rw [e', h2] at hk; cases hk; exact h60 rfl
        have hkw : blk (wa i) ≠ some k := fun e' => by
          obtain ⟨cur', h3⟩ := (h.row i hi).type k e'
          rw [h3] at hk; cases hk; exact h55 rfl
        rw [heap_set_ne hka]
        exact hb' k (heap_lt hk) hkw
    rw [decide_eq_true hl]
    rw [← el] at c3 hl
    clear h hne hold hd hb hbl HP el
    go_enter Try.func24, Try.ntmps24
    go_wp2
    go_region_law (refine step_append_seg rfl (.tmp 29) (.tmp 34) 60 rfl 55 i0 (.agg #[.int .i64 0, .string ⟨#[]⟩]) 2 24 Try.underlying60 hi0 hz0 hz1 hz2 rfl (by decide) (wa i) l (wc i) _ (by simp [Act.eval]) (hrow.out _ (by rfl)).1 _ 1 1 [.int .i64 f, .string d] (by simp [Act.eval]) rfl (by decide) (hrow.out _ (by rfl)).2 (by simp [Value.oneCell']) (by unfold maxLen; omega) (by omega) ?_; intro g' off' cap' w1 hown hgr hat; obtain ⟨⟨q0, q1, q2⟩, HN, HF, HK⟩ := hend.out _ w1 g' off' cap' (by rfl) ⟨by rfl, by rfl, by rfl⟩ hown hgr hat; clear hown hgr hat)
    all_goals go_wp2
    all_goals go_ret
    all_goals exact ⟨rfl, HN.out, HF.out, HK.out⟩
  · have e1 : putQ Q i (f, b) = Q := by unfold putQ; rw [if_neg hl]
    rw [e1, decide_eq_false hl]
    clear h f1 e1 hb hbl hS
    go_enter Try.func24, Try.ntmps24
    go_wp2
    go_ret
    exact ⟨rfl, HP.out, Fr.refl _ _, fun _ _ _ _ _ _ _ => rfl⟩

set_option maxHeartbeats 400000 in
theorem v_inject (hS : ∀ k, w.heap.size ≤ k → S k) (bo : Option Addr) (bl bc : Nat) (b : List UInt8) (hb : Src w bo b) (hbl : b.length = bl) (i : Int) :
    Calls Try.prog 16 #[.pointer (some ⟨rb, 0, none⟩), .int .i64 i, .slice bo bl bc] w fun e w' => e = .returned (.int .i64 (injR n Q i b).1) ∧ Hid (VP S w' rb n G (injR n Q i b).2) ∧ Hid (Fr S w w') := by
  have HW := v_has' S w rb n G Q h i
  have H := hid h
  cases hr : inR n i with
  | false =>
    rw [hr] at HW
    simp only [injR, hr, Bool.false_eq_true, ↓reduceIte]
    clear h hr hb hbl hS
    go_enter Try.func16, Try.ntmps16
    go_wp2_with (go_at_call 19; refine HW.out.mono ?_; rintro e w' ⟨rfl, rfl⟩)
    go_ret
    exact ⟨rfl, H.out, Fr.refl _ _⟩
  | true =>
    rw [hr] at HW
    obtain ⟨k, rfl, hk⟩ := inR_nat hr
    simp only [injR, hr, ↓reduceIte, Int.toNat_natCast]
    by_cases h48 : b.length ≤ 2048
    · have HP := hid (v_put S w rb n G Q h hS bo bl bc b hb hbl k hk (-1))
      simp only [if_pos h48]
      have h48' : bl ≤ 2048 := by omega
      clear h hr hb hbl hS H h48
      by_cases h16 : (Q k).length < 16
      · rw [decide_eq_true h16] at HP
        simp only [if_pos h16]
        clear h16
        go_enter Try.func16, Try.ntmps16
        go_wp2_with (first | (go_at_call 19; refine HW.out.mono ?_; rintro e w' ⟨rfl, rfl⟩) | (go_at_call 24; refine HP.out.mono ?_; rintro e w2 ⟨rfl, H2, F2, _⟩))
        go_ret
        exact ⟨rfl, H2, F2⟩
      · rw [decide_eq_false h16] at HP
        simp only [if_neg h16]
        clear h16
        go_enter Try.func16, Try.ntmps16
        go_wp2_with (first | (go_at_call 19; refine HW.out.mono ?_; rintro e w' ⟨rfl, rfl⟩) | (go_at_call 24; refine HP.out.mono ?_; rintro e w2 ⟨rfl, H2, F2, _⟩))
        go_ret
        exact ⟨rfl, H2, F2⟩
    · simp only [if_neg h48]
      have h48' : ¬ bl ≤ 2048 := by omega
      clear h hr hb hbl hS h48
      go_enter Try.func16, Try.ntmps16
      go_wp2_with (go_at_call 19; refine HW.out.mono ?_; rintro e w' ⟨rfl, rfl⟩)
      go_ret
      exact ⟨rfl, H.out, Fr.refl _ _⟩
end
end Go.Proofs.Ytjoamafcmknglaa

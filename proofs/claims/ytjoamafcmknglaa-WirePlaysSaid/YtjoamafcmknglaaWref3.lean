/-
  The reference's wire: Receive, New. No conditions.
-/
import Derived.Test.YtjoamafcmknglaaWref2
namespace Go.Proofs.Ytjoamafcmknglaa
open Go.RowKit Go.Conc

section
variable (S : Nat → Prop) (w : World) (rb n : Nat) (G : Nat → Int) (Q : QS) (h : VP S w rb n G Q)
include h

set_option maxHeartbeats 400000 in
theorem v_recv_out (i : Int) (hi : inR n i = false) : Calls Try.prog 17 #[.pointer (some ⟨rb, 0, none⟩), .int .i64 i] w fun e w' => e = .returned (.tuple #[.agg #[.int .i64 0, .string ⟨#[]⟩], .bool false]) ∧ Hid (VP S w' rb n G Q) ∧ Hid (Fr (fun _ => False) w w') := by
  have hf : Fr (fun _ => False) w (w.alloc (.cells #[.int .i64 0, .string ⟨#[]⟩] 55)) := (Fr.refl _ w).alloc _
  have HW := v_has' S _ rb n G Q (h.kept hf (fun _ _ _ h => h)) i
  rw [hi] at HW
  have H := hid h
  have h0 : w.heap.size < (w.alloc (.cells #[.int .i64 0, .string ⟨#[]⟩] 55)).heap.size := by simp
  clear h hi hf
  go_enter Try.func17, Try.ntmps17
  go_wp2_with (go_at_call 19; refine HW.out.mono ?_; rintro e w' ⟨rfl, rfl⟩)
  refine bodyPost_ret (v := .tuple #[.agg #[.int .i64 0, .string ⟨#[]⟩], .bool false]) (by simp [results, Try.results17, go_sem]) rfl ⟨rfl, ?_, ?_⟩
  · exact H.out.kept (T := fun _ => False) ((Fr.refl _ w).alloc _) (fun _ _ _ h => h)
  · exact (Fr.refl _ w).alloc _

set_option maxHeartbeats 400000 in
theorem v_recv_none (i : Nat) (hi : i < n) (hq : Q i = []) : Calls Try.prog 17 #[.pointer (some ⟨rb, 0, none⟩), .int .i64 i] w fun e w' => e = .returned (.tuple #[.agg #[.int .i64 0, .string ⟨#[]⟩], .bool false]) ∧ Hid (VP S w' rb n G Q) ∧ Hid (Fr (fun _ => False) w w') := by
  have hf : Fr (fun _ => False) w (w.alloc (.cells #[.int .i64 0, .string ⟨#[]⟩] 55)) := (Fr.refl _ w).alloc _
  have HW := v_has' S _ rb n G Q (h.kept hf (fun _ _ _ h => h)) i
  rw [show inR n (i : Int) = true from by simp [inR, hi]] at HW
  have H := hid h
  obtain ⟨gb, gc, ab, wa, wc, h⟩ := h
  obtain ⟨_, c1, _, c3, _, _⟩ := h.cellsP
  replace c3 := c3 i hi
  rw [hq] at c3
  simp at c3
  have b1 := block_lt_of_cell c1
  have b3 := block_lt_of_cell c3
  have hin : ((i : Int) < (n : Int)) := by omega
  clear h hf hq
  go_enter Try.func17, Try.ntmps17
  go_wp2_with (go_at_call 19; refine HW.out.mono ?_; rintro e w' ⟨rfl, rfl⟩)
  refine bodyPost_ret (v := .tuple #[.agg #[.int .i64 0, .string ⟨#[]⟩], .bool false]) (by simp [results, Try.results17, go_sem]) rfl ⟨rfl, ?_, ?_⟩
  · exact H.out.kept (T := fun _ => False) ((Fr.refl _ w).alloc _) (fun _ _ _ h => h)
  · exact (Fr.refl _ w).alloc _

set_option maxHeartbeats 1000000 in
theorem v_recv_some (i : Nat) (hi : i < n) (src : Int) (bs : List UInt8) (rest : List (Int × List UInt8)) (hq : Q i = (src, bs) :: rest) (d : ByteArray) (hd : d = ⟨bs.toArray⟩) :
    Calls Try.prog 17 #[.pointer (some ⟨rb, 0, none⟩), .int .i64 i] w fun e w' => e = .returned (.tuple #[.agg #[.int .i64 src, .string d], .bool true]) ∧ Hid (VP S w' rb n G (updA Q i rest)) ∧ Hid (Fr S w w') := by
  have hf : Fr (fun _ => False) w (w.alloc (.cells #[.int .i64 0, .string ⟨#[]⟩] 55)) := (Fr.refl _ w).alloc _
  have HW := v_has' S _ rb n G Q (h.kept hf (fun _ _ _ h => h)) i
  rw [show inR n (i : Int) = true from by simp [inR, hi]] at HW
  obtain ⟨gb, gc, ab, wa, wc, h⟩ := h
  obtain ⟨_, c1, _, c3, _, f1⟩ := h.cellsP
  replace c3 := c3 i hi
  replace f1 := f1 i
  have hseg := h.row i hi
  have hlen : (Q i).length = rest.length + 1 := by rw [hq]; rfl
  have h16 := h.len i hi
  rw [hlen] at c3 hseg h16
  rw [hq] at hseg
  have hcap : 0 < wc i := by have := hseg.2.1; omega
  obtain ⟨g, off, ha⟩ := hseg.ptr hcap
  have hx0 := hseg.cell ha 0 (.int .i64 src) rfl
  have hx1 := hseg.cell ha 1 (.string d) (by rw [hd]; rfl)
  simp at hx0
  have hlc := hseg.2.1
  have hgl := hseg.lt g (by rw [ha]; rfl)
  have b1 := block_lt_of_cell c1
  have b3 := block_lt_of_cell c3
  have hin : ((i : Int) < (n : Int)) := by omega
  obtain ⟨m, em⟩ : ∃ m, m = rest.length := ⟨_, rfl⟩
  obtain ⟨c, ec⟩ : ∃ c, c = wc i := ⟨_, rfl⟩
  have hfin : Hid (∀ o1 o2 : Obj, VP S (((w.setCell ⟨ab, i, none⟩ (.slice (popA (wa i) (wc i) 2) rest.length (wc i - 1))).alloc o1).alloc o2) rb n G (updA Q i rest) ∧
      Fr S w (((w.setCell ⟨ab, i, none⟩ (.slice (popA (wa i) (wc i) 2) rest.length (wc i - 1))).alloc o1).alloc o2)) := by
    intro o1 o2
    have hpop := Seg.pop (y := mv (src, bs)) (ys := mvv rest) hseg rfl
    have h3 := h.turn hi (w1 := w) (fun _ _ _ => rfl) _ _ rest (by omega) hpop (fun g hg => .inl (by rw [← hg, popA_blk]))
    exact ⟨h3.kept (T := fun _ => False) (((Fr.refl _ _).alloc o1).alloc o2) (fun _ _ _ h => h), (((Fr.refl S w).setCell (p := ⟨ab, i, none⟩) (fun _ => h.mine.2.2.1) _).alloc o1).alloc o2⟩
  rw [ha] at c3 hfin
  rw [← em] at c3 hfin hlc
  rw [← ec] at c3 hfin hlc
  have hm2 : (((m : Int) + 1) == 0) = false := by simp; omega
  clear h hseg ha hlen hcap hf hd hq em ec h16
  by_cases hc : c = 1
  · obtain rfl : m = 0 := by omega
    subst hc
    simp only [popA, ↓reduceIte] at hfin
    go_enter Try.func17, Try.ntmps17
    go_wp2_with (go_at_call 19; refine HW.out.mono ?_; rintro e w' ⟨rfl, rfl⟩)
    go_region
    all_goals go_wp2
    all_goals refine bodyPost_ret (v := .tuple #[.agg #[.int .i64 src, .string d], .bool true]) (by simp [results, Try.results17, go_sem, *]) rfl ⟨rfl, (hfin.out _ _).1.same (by rfl), (hfin.out _ _).2.drew⟩
  · have hc2 : ¬ c ≤ 0 := by omega
    simp only [popA, hc, ↓reduceIte, Option.map_some, Addr.add_lit] at hfin
    go_enter Try.func17, Try.ntmps17
    go_wp2_with (go_at_call 19; refine HW.out.mono ?_; rintro e w' ⟨rfl, rfl⟩)
    go_region
    all_goals go_wp2
    all_goals refine bodyPost_ret (v := .tuple #[.agg #[.int .i64 src, .string d], .bool true]) (by simp [results, Try.results17, go_sem, *]) rfl ⟨rfl, (hfin.out _ _).1.same (by rfl), (hfin.out _ _).2.drew⟩
end
end Go.Proofs.Ytjoamafcmknglaa

/-
  The reference's Drop. No conditions.
-/
import Derived.Test.YtelbbfogeimekaaCref5
import Derived.Test.YtelbbfogeimekaaCacGA
import Derived.Deep.RegionLaw
namespace Go.Proofs.Ytelbbfogeimekaa
open Go.RowKit

theorem its_one : ∀ (L : List (Ent Int Int)), ∀ u ∈ its L, u.oneCell' = true
  | [], u, h => by cases h
  | e :: L, u, h => by
    simp only [its, List.mem_cons] at h
    rcases h with rfl | rfl | rfl | h
    · rfl
    · rfl
    · rfl
    · exact its_one L u h

theorem its_take {L : List (Ent Int Int)} {q j : Nat} {u : Value} (h : (its (L.take q))[j]? = some u) : (its L)[j]? = some u := by
  have e : its L = its (L.take q) ++ its (L.drop q) := by rw [← its_append, List.take_append_drop]
  rw [e, List.getElem?_append_left (List.getElem?_eq_some_iff.1 h).1]
  exact h

theorem its_drop {L : List (Ent Int Int)} {q j : Nat} (hq : q ≤ L.length) {u : Value} (h : (its (L.drop q))[j]? = some u) : (its L)[q * 3 + j]? = some u := by
  have e : its L = its (L.take q) ++ its (L.drop q) := by rw [← its_append, List.take_append_drop]
  have hl : (its (L.take q)).length = q * 3 := by rw [its_len, List.length_take, Nat.min_eq_left hq]
  rw [e, List.getElem?_append_right (by omega), hl, Nat.add_sub_cancel_left]
  exact h

/-- What holds when both parts were appended. -/
structure RDrop (S : Nat → Prop) (w : World) (rb room : Nat) (L : List (Ent Int Int)) (g k : Int) (so : Option Addr) (sc : Nat) (v : Value) (w2 : World) : Prop where
  c1 : w2.cell? ⟨rb, 1, none⟩ = some (.slice so L.length sc)
  f1 : w2.frozen? ⟨rb, 1, none⟩ = false
  fin : REF S (w2.setCell ⟨rb, 1, none⟩ v) rb room (cutE L g k)
  fr : Fr S w (w2.setCell ⟨rb, 1, none⟩ v)

theorem rdrop (S : Nat → Prop) (w : World) (rb room : Nat) (L : List (Ent Int Int)) (g k : Int) (hS : ∀ k, w.heap.size ≤ k → S k) (so : Option Addr) (sc : Nat) (h : RAt S w rb so sc room L) (hh : hasE L g k = true)
    (wb w1 w2 : World) (ao1 ao2 : Option Addr) (cap1 cap2 m : Nat) (hm : m = idxE L g k + (L.length - (idxE L g k + 1)))
    (hw : wb.heap = (w.alloc (.cells #[] 74)).heap) (hw2 : wb.os = w.os ∧ wb.tape = w.tape ∧ wb.output = w.output)
    (g1 : wb.grownBy w1 (some w.heap.size)) (o1 : w1.ownsRow w.heap.size 74 3 (.slice ao1 (idxE L g k) cap1) (idxE L g k) (its (L.take (idxE L g k))))
    (o2 : w2.ownsRow w.heap.size 74 3 (.slice ao2 m cap2) m (its (L.take (idxE L g k)) ++ its (L.drop (idxE L g k + 1)))) (g2 : w1.grownBy w2 (blk ao1)) : RDrop S w rb room L g k so sc (.slice ao2 m cap2) w2 := by
  have hlt := idxE_lt hh
  have hsz : wb.heap.size = w.heap.size + 1 := by rw [hw]; simp
  have F0 : Fr (fun k => w.heap.size ≤ k) w wb := ⟨hw2.1, hw2.2.1, hw2.2.2, by omega, fun j hj _ => by rw [hw]; exact Below.heap_alloc _ _ _ hj⟩
  have F1 := F0.grown g1 (fun j e _ => by cases e; exact Nat.le_refl _)
  have F2 := F1.grown g2 (fun j e _ => (owns_geA o1 j e).1)
  have hrb := heap_lt h.cells
  have hc := (F2.block rb hrb (Nat.not_le_of_lt hrb)).trans h.cells
  have hnr : ∀ j, blk ao2 = some j → j ≠ rb := fun j e e2 => by have := (owns_geA o2 j e).1; omega
  have hcut : (cutE L g k).length = m := by rw [cut_length hh]; omega
  have hits : its (cutE L g k) = its (L.take (idxE L g k)) ++ its (L.drop (idxE L g k + 1)) := by
    unfold cutE
    rw [List.eraseIdx_eq_take_drop_succ, its_append]
  refine ⟨(cell_at hc).trans rfl, thawed hc, ⟨ao2, cap2, ?_, ?_, fun e => hnr _ e rfl, h.mine.1, fun j e => hS j (owns_geA o2 j e).1⟩, (F2.mono (fun k _ h => hS k h)).setCell (fun _ => h.mine.1) _⟩
  · rw [hcut]; exact heap_set hc _
  · rw [hcut, hits]
    exact (Seg.of_owns o2).of_heap (fun j e => heap_set_ne (hnr j e) _)

set_option maxHeartbeats 4000000 in
set_option maxRecDepth 100000 in
theorem drop_refyesA (S : Nat → Prop) (w : World) (rb room : Nat) (L : List (Ent Int Int)) (so : Option Addr) (sc : Nat) (h : RAt S w rb so sc room L) (g k : Int) (hsc : sc = idxE L g k + 1) (hh : hasE L g k = true) (hS : ∀ k, w.heap.size ≤ k → S k) (hfit : L.length ≤ 4096) :
    Calls Try.prog 16 #[.pointer (some ⟨rb, 0, none⟩), .int .i64 g, .int .u64 k] w fun e w' => e = .returned (.bool true) ∧ Hid (REF S w' rb room (cutE L g k)) ∧ Hid (Fr S w w') := by
  obtain ⟨i0, hi0, hz0, hz1, hz2⟩ := info_item
  have HA := hid (at_ref S w rb room L ⟨so, sc, h⟩ g k)
  obtain ⟨c0, c1, f⟩ := h.locs
  have hcap := h.seg.2.1
  have hmx := h.seg.2.2.1
  unfold maxLen at hmx
  have hlt := idxE_lt hh
  obtain ⟨b, off, hb⟩ := h.seg.ptr (by omega)
  subst hb
  rw [hh] at HA
  simp only [↓reduceIte] at HA
  have hrb := heap_lt h.cells
  have hbw := h.seg.lt b rfl
  have hend := hid (fun wb w1 w2 ao1 ao2 cap1 cap2 m => rdrop S w rb room L g k hS _ sc h hh wb w1 w2 ao1 ao2 cap1 cap2 m)
  have hrow1 : Hid (∀ wb : World, wb.heap = (w.alloc (.cells #[] 74)).heap → wb.ownsRow w.heap.size 74 3 (.slice (some ⟨w.heap.size, 0, none⟩) 0 0) 0 [] ∧ ∀ ad, some (⟨b, off, none⟩ : Addr) = some ad → ∀ j u, (its (L.take (idxE L g k)))[j]? = some u → wb.cell? (ad.add j) = some u) := by
    intro wb hw
    refine ⟨owns_of_heap (World.ownsRow_made w #[] 0 (Nat.le_refl _) (Nat.zero_le _) rfl) (fun j _ => by rw [hw]), fun ad had j u hu => ?_⟩
    cases had
    have hx : wb.heap[b]? = w.heap[b]? := by rw [hw]; exact Below.heap_alloc _ _ _ hbw
    have := h.seg.cells rfl j u (its_take hu)
    rw [Addr.add_lit] at this ⊢
    rw [World.cell?_of_block (a := ⟨b, off + j, none⟩) hx]
    exact this
  have hrow2 : Hid (∀ wb w1 : World, wb.heap = (w.alloc (.cells #[] 74)).heap → wb.grownBy w1 (some w.heap.size) → w1.cell? ⟨rb, 1, none⟩ = some (.slice (some ⟨b, off, none⟩) L.length sc) ∧ ∀ ad, some (⟨b, off, none⟩ : Addr) = some ad → ∀ j u, (its (L.drop (idxE L g k + 1)))[j]? = some u → w1.cell? (ad.add j) = some u) := by
    intro wb w1 hw hg
    have hold : ∀ j, j < w.heap.size → w1.heap[j]? = w.heap[j]? := fun j hj => (hg.block j (by rw [hw, World.size_alloc]; omega) (fun e => by have := Option.some.inj e; omega)).trans (by rw [hw]; exact Below.heap_alloc _ _ _ hj)
    refine ⟨by rw [World.cell?_of_block (a := ⟨rb, 1, none⟩) (hold rb hrb)]; exact c1, fun ad had j u hu => ?_⟩
    cases had
    have : L.drop (idxE L g k + 1) = [] := List.drop_eq_nil_of_le (by omega)
    rw [this] at hu
    cases hu
  have hcut := hid hlt
  have hl1 : Hid ((its (L.take (idxE L g k))).length = idxE L g k * 3) := hid (by rw [its_len, List.length_take, Nat.min_eq_left (by omega)])
  have hl2 : Hid ((its (L.drop (idxE L g k + 1))).length = (L.length - (idxE L g k + 1)) * 3) := hid (by rw [its_len, List.length_drop])
  have h1a := hid (its_one (L.take (idxE L g k)))
  have h1b := hid (its_one (L.drop (idxE L g k + 1)))
  obtain ⟨q, hq⟩ : ∃ q, q = idxE L g k := ⟨_, rfl⟩
  rw [← hq] at HA hlt hend hrow1 hrow2 hl1 hl2 h1a h1b hsc
  have hql : ((q : Int) < (L.length : Int)) := by omega
  have hq0 : ¬ ((q : Int) < 0) := by omega
  have f1 := f 1
  have hwr : IntKind.i64.wrap ((q : Int) + 1) = (q : Int) + 1 := IntWalk.i64_in _ (by omega)
  have hqs : (q : Int) ≤ (q : Int) + 1 := by omega
  have hq1 : ((q : Int) + 1 ≤ (L.length : Int)) := by omega
  have hq2 : q + 1 ≤ L.length := by omega
  have hq3 : (0 : Int) ≤ (q : Int) + 1 := by omega
  subst hsc
  have hL1 : L.length = q + 1 := by omega
  have hm : Hid (q = q + (L.length - (q + 1))) := hid (by omega)
  have hl2 := hid (show (its (L.drop (q + 1))).length = 0 * 3 by rw [hl2.out, hL1]; omega)
  clear hL1
  clear h hh hS f hq hcut
  go_enter Try.func16, Try.ntmps16
  go_wp2_with (first
    | (go_at_call 33; refine HA.out.mono ?_; rintro e w' ⟨rfl, rfl⟩)
    | fail)
  go_region_law (first
    | (refine step_append_gen rfl (.tmp 15) (.tmp 21) 47 rfl 74 i0 (.agg #[.int .i64 0, .int .u64 0, .int .i64 0]) 3 24 Try.underlying47 hi0 hz0 hz1 hz2 rfl (by decide) w.heap.size _ 0 0 [] (by simp [Act.eval, Act.put]) (hrow1.out _ (by rfl)).1 (some ⟨b, off, none⟩) q (q + 1) _ (by simp [Act.eval, Act.put]) hl1.out (fun e => by cases e) (hrow1.out _ (by rfl)).2 h1a.out (by unfold maxLen; omega) (by omega) (by simp) ?_; intro ao1 cap1 w1 hown hgr hat; rw [Nat.zero_add, List.nil_append] at hown; have O1 := hid hown; have G1 := hid hgr; have R2 := hid (hrow2.out _ w1 (by rfl) hgr); have r1 := R2.out.1; clear hown hgr hat)
    | (refine step_append_gen rfl (.tmp 22) (.tmp 29) 47 rfl 74 i0 (.agg #[.int .i64 0, .int .u64 0, .int .i64 0]) 3 24 Try.underlying47 hi0 hz0 hz1 hz2 rfl (by decide) w.heap.size ao1 q cap1 (its (L.take q)) (by simp [Act.eval, Act.put]) O1.out (some ⟨b, off, none⟩) 0 0 (its (L.drop (q + 1))) (by simp [Act.eval, Act.put]) hl2.out (fun e => by cases e) R2.out.2 h1b.out (by unfold maxLen; omega) (by omega) (Nat.le_of_lt (Nat.lt_of_lt_of_le (by simp) G1.out.size)) ?_; intro ao2 cap2 w2 hown hgr hat; have O2 := hid hown; have G2 := hid hgr; have N := hend.out _ w1 w2 ao1 ao2 cap1 cap2 _ hm.out (by rfl) ⟨by rfl, by rfl, by rfl⟩ G1.out O1.out O2.out G2.out; have n1 := N.c1; have n2 := N.f1; have N := hid N; clear hown hgr hat))
  all_goals
    go_wp2_with fail
    go_ret
    exact ⟨rfl, N.out.fin, N.out.fr⟩

set_option maxHeartbeats 4000000 in
set_option maxRecDepth 100000 in
theorem drop_refyesB (S : Nat → Prop) (w : World) (rb room : Nat) (L : List (Ent Int Int)) (so : Option Addr) (sc : Nat) (h : RAt S w rb so sc room L) (g k : Int) (hsc : ¬ sc = idxE L g k + 1) (hh : hasE L g k = true) (hS : ∀ k, w.heap.size ≤ k → S k) (hfit : L.length ≤ 4096) :
    Calls Try.prog 16 #[.pointer (some ⟨rb, 0, none⟩), .int .i64 g, .int .u64 k] w fun e w' => e = .returned (.bool true) ∧ Hid (REF S w' rb room (cutE L g k)) ∧ Hid (Fr S w w') := by
  obtain ⟨i0, hi0, hz0, hz1, hz2⟩ := info_item
  have HA := hid (at_ref S w rb room L ⟨so, sc, h⟩ g k)
  obtain ⟨c0, c1, f⟩ := h.locs
  have hcap := h.seg.2.1
  have hmx := h.seg.2.2.1
  unfold maxLen at hmx
  have hlt := idxE_lt hh
  obtain ⟨b, off, hb⟩ := h.seg.ptr (by omega)
  subst hb
  rw [hh] at HA
  simp only [↓reduceIte] at HA
  have hrb := heap_lt h.cells
  have hbw := h.seg.lt b rfl
  have hend := hid (fun wb w1 w2 ao1 ao2 cap1 cap2 m => rdrop S w rb room L g k hS _ sc h hh wb w1 w2 ao1 ao2 cap1 cap2 m)
  have hrow1 : Hid (∀ wb : World, wb.heap = (w.alloc (.cells #[] 74)).heap → wb.ownsRow w.heap.size 74 3 (.slice (some ⟨w.heap.size, 0, none⟩) 0 0) 0 [] ∧ ∀ ad, some (⟨b, off, none⟩ : Addr) = some ad → ∀ j u, (its (L.take (idxE L g k)))[j]? = some u → wb.cell? (ad.add j) = some u) := by
    intro wb hw
    refine ⟨owns_of_heap (World.ownsRow_made w #[] 0 (Nat.le_refl _) (Nat.zero_le _) rfl) (fun j _ => by rw [hw]), fun ad had j u hu => ?_⟩
    cases had
    have hx : wb.heap[b]? = w.heap[b]? := by rw [hw]; exact Below.heap_alloc _ _ _ hbw
    have := h.seg.cells rfl j u (its_take hu)
    rw [Addr.add_lit] at this ⊢
    rw [World.cell?_of_block (a := ⟨b, off + j, none⟩) hx]
    exact this
  have hrow2 : Hid (∀ wb w1 : World, wb.heap = (w.alloc (.cells #[] 74)).heap → wb.grownBy w1 (some w.heap.size) → w1.cell? ⟨rb, 1, none⟩ = some (.slice (some ⟨b, off, none⟩) L.length sc) ∧ ∀ ad, some (⟨b, off + (idxE L g k + 1) * 3, none⟩ : Addr) = some ad → ∀ j u, (its (L.drop (idxE L g k + 1)))[j]? = some u → w1.cell? (ad.add j) = some u) := by
    intro wb w1 hw hg
    have hold : ∀ j, j < w.heap.size → w1.heap[j]? = w.heap[j]? := fun j hj => (hg.block j (by rw [hw, World.size_alloc]; omega) (fun e => by have := Option.some.inj e; omega)).trans (by rw [hw]; exact Below.heap_alloc _ _ _ hj)
    refine ⟨by rw [World.cell?_of_block (a := ⟨rb, 1, none⟩) (hold rb hrb)]; exact c1, fun ad had j u hu => ?_⟩
    cases had
    have := h.seg.cells rfl _ u (its_drop (by omega) hu)
    rw [Addr.add_lit] at this ⊢
    rw [World.cell?_of_block (a := ⟨b, off + (idxE L g k + 1) * 3 + j, none⟩) (hold b hbw), Nat.add_assoc]
    exact this
  have hcut := hid hlt
  have hl1 : Hid ((its (L.take (idxE L g k))).length = idxE L g k * 3) := hid (by rw [its_len, List.length_take, Nat.min_eq_left (by omega)])
  have hl2 : Hid ((its (L.drop (idxE L g k + 1))).length = (L.length - (idxE L g k + 1)) * 3) := hid (by rw [its_len, List.length_drop])
  have h1a := hid (its_one (L.take (idxE L g k)))
  have h1b := hid (its_one (L.drop (idxE L g k + 1)))
  obtain ⟨q, hq⟩ : ∃ q, q = idxE L g k := ⟨_, rfl⟩
  rw [← hq] at HA hlt hend hrow1 hrow2 hl1 hl2 h1a h1b hsc
  have hql : ((q : Int) < (L.length : Int)) := by omega
  have hq0 : ¬ ((q : Int) < 0) := by omega
  have f1 := f 1
  have hwr : IntKind.i64.wrap ((q : Int) + 1) = (q : Int) + 1 := IntWalk.i64_in _ (by omega)
  have hqs : q ≤ sc := by omega
  have hqt : q + 1 ≤ sc := by omega
  have hq1 : ((q : Int) + 1 ≤ (L.length : Int)) := by omega
  have hq2 : q + 1 ≤ L.length := by omega
  have hq3 : (0 : Int) ≤ (q : Int) + 1 := by omega
  obtain ⟨M, hM⟩ : ∃ M, M = L.length - (q + 1) := ⟨_, rfl⟩
  have hMb : M ≤ 4096 := by omega
  rw [← hM] at hl2 hend
  have hM2 := hM.symm
  clear hM
  clear h hh hS f hq hcut
  go_enter Try.func16, Try.ntmps16
  go_wp2_with (first
    | (go_at_call 33; refine HA.out.mono ?_; rintro e w' ⟨rfl, rfl⟩)
    | fail)
  go_region_law (first
    | (refine step_append_gen rfl (.tmp 15) (.tmp 21) 47 rfl 74 i0 (.agg #[.int .i64 0, .int .u64 0, .int .i64 0]) 3 24 Try.underlying47 hi0 hz0 hz1 hz2 rfl (by decide) w.heap.size _ 0 0 [] (by simp [Act.eval, Act.put]) (hrow1.out _ (by rfl)).1 (some ⟨b, off, none⟩) q sc _ (by simp [Act.eval, Act.put]) hl1.out (fun e => by cases e) (hrow1.out _ (by rfl)).2 h1a.out (by unfold maxLen; omega) (by omega) (by simp) ?_; intro ao1 cap1 w1 hown hgr hat; rw [Nat.zero_add, List.nil_append] at hown; have O1 := hid hown; have G1 := hid hgr; have R2 := hid (hrow2.out _ w1 (by rfl) hgr); have r1 := R2.out.1; clear hown hgr hat)
    | (refine step_append_gen rfl (.tmp 22) (.tmp 29) 47 rfl 74 i0 (.agg #[.int .i64 0, .int .u64 0, .int .i64 0]) 3 24 Try.underlying47 hi0 hz0 hz1 hz2 rfl (by decide) w.heap.size ao1 q cap1 (its (L.take q)) (by simp [Act.eval, Act.put]) O1.out (some ⟨b, off + (q + 1) * 3, none⟩) M (sc - (q + 1)) (its (L.drop (q + 1))) (by simp [Act.eval, Act.put]) hl2.out (fun e => by cases e) R2.out.2 h1b.out (by unfold maxLen; omega) (by omega) (Nat.le_of_lt (Nat.lt_of_lt_of_le (by simp) G1.out.size)) ?_; intro ao2 cap2 w2 hown hgr hat; have O2 := hid hown; have G2 := hid hgr; have N := hend.out _ w1 w2 ao1 ao2 cap1 cap2 _ rfl (by rfl) ⟨by rfl, by rfl, by rfl⟩ G1.out O1.out O2.out G2.out; have n1 := N.c1; have n2 := N.f1; have N := hid N; clear hown hgr hat))
  all_goals
    go_wp2_with fail
    go_ret
    exact ⟨rfl, N.out.fin, N.out.fr⟩

theorem drop_refno (S : Nat → Prop) (w : World) (rb room : Nat) (L : List (Ent Int Int)) (h : REF S w rb room L) (g k : Int) (hh : hasE L g k = false) :
    Calls Try.prog 16 #[.pointer (some ⟨rb, 0, none⟩), .int .i64 g, .int .u64 k] w fun e w' => e = .returned (.bool false) ∧ w = w' := by
  have HA := hid (at_ref S w rb room L h g k)
  rw [hh] at HA
  simp only [Bool.false_eq_true, ↓reduceIte] at HA
  clear h hh
  go_enter Try.func16, Try.ntmps16
  go_wp2_with (first
    | (go_at_call 33; refine HA.out.mono ?_; rintro e w' ⟨rfl, rfl⟩)
    | fail)
  go_ret
  exact ⟨rfl, rfl⟩

/-- Drop. -/
theorem drop_ref (S : Nat → Prop) (w : World) (rb room : Nat) (L : List (Ent Int Int)) (h : REF S w rb room L) (g k : Int) (hS : ∀ k, w.heap.size ≤ k → S k) (hfit : L.length ≤ 4096) :
    Calls Try.prog 16 #[.pointer (some ⟨rb, 0, none⟩), .int .i64 g, .int .u64 k] w fun e w' => e = .returned (.bool (hasE L g k)) ∧ Hid (REF S w' rb room (dropE L g k)) ∧ Hid (Fr S w w') := by
  cases hh : hasE L g k with
  | true =>
    have e : dropE L g k = cutE L g k := by unfold dropE; rw [if_pos hh]
    rw [e]
    obtain ⟨so, sc, h⟩ := h
    by_cases hsc : sc = idxE L g k + 1
    · exact drop_refyesA S w rb room L so sc h g k hsc hh hS hfit
    · exact drop_refyesB S w rb room L so sc h g k hsc hh hS hfit
  | false =>
    have e : dropE L g k = L := by unfold dropE; rw [if_neg (by rw [hh]; decide)]
    rw [e]
    refine (drop_refno S w rb room L h g k hh).mono ?_
    rintro e w' ⟨he, rfl⟩
    exact ⟨he, hid h, hid (Fr.refl S w)⟩
end Go.Proofs.Ytelbbfogeimekaa

/-
  The reference's Put at a new key, and Put. No conditions.
-/
import Derived.Test.YtelbbfogeimekaaCref3
namespace Go.Proofs.Ytelbbfogeimekaa
open Go.RowKit

theorem Fr.drewM {S : Nat → Prop} {a w : World} (h : Fr S a w) (m : Nat) : Fr S a (w.drewN m) := ⟨h.os, h.tape, h.output, h.size, h.block⟩

/-- What holds when an item was appended. -/
structure RNew (S : Nat → Prop) (w : World) (rb room : Nat) (L : List (Ent Int Int)) (g k v : Int) (so : Option Addr) (sc : Nat) (g' off' cap' : Nat) (w1 : World) : Prop where
  c1 : w1.cell? ⟨rb, 1, none⟩ = some (.slice so L.length sc)
  f1 : w1.frozen? ⟨rb, 1, none⟩ = false
  fin : RAt S (w1.setCell ⟨rb, 1, none⟩ (.slice (some ⟨g', off', none⟩) (L.length + 1) cap')) rb (some ⟨g', off', none⟩) cap' room (addE L g k v)
  fr : Fr S w (w1.setCell ⟨rb, 1, none⟩ (.slice (some ⟨g', off', none⟩) (L.length + 1) cap'))

theorem rnew (S : Nat → Prop) (w : World) (rb room : Nat) (L : List (Ent Int Int)) (g k v : Int) (hS : ∀ k, w.heap.size ≤ k → S k) (so : Option Addr) (sc : Nat) (h : RAt S w rb so sc room L) (wb w1 : World) (g' off' cap' : Nat) (o : Obj)
    (hw : wb.heap = (w.alloc o).heap) (hw2 : wb.os = w.os ∧ wb.tape = w.tape ∧ wb.output = w.output)
    (hseg : Seg w1 74 3 (some ⟨g', off', none⟩) (L.length + 1) cap' (its L ++ [.int .i64 g, .int .u64 k, .int .i64 v])) (hgr : wb.grownBy w1 (blk so)) (hat : blk so = some g' ∨ wb.heap.size ≤ g') : RNew S w rb room L g k v so sc g' off' cap' w1 := by
  have hsz : wb.heap.size = w.heap.size + 1 := by rw [hw]; simp
  have hrb := heap_lt h.cells
  have hold : ∀ j, j < w.heap.size → blk so ≠ some j → w1.heap[j]? = w.heap[j]? := fun j hj hn => (hgr.block j (by omega) (fun e => hn e.symm)).trans (by rw [hw]; exact Below.heap_alloc _ _ _ hj)
  have hc := (hold rb hrb h.ne).trans h.cells
  have hgb : g' ≠ rb := by
    rintro rfl
    rcases hat with e | e
    · exact h.ne e
    · omega
  have hlen : (addE L g k v).length = L.length + 1 := by simp [addE]
  refine ⟨(cell_at hc).trans rfl, thawed hc, ⟨?_, ?_, fun e => hgb (Option.some.inj e), h.mine.1, fun j hj => ?_⟩, ?_⟩
  · rw [hlen]; exact heap_set hc _
  · rw [hlen]
    have : its (addE L g k v) = its L ++ [.int .i64 g, .int .u64 k, .int .i64 v] := by unfold addE; rw [its_append]; rfl
    rw [this]
    exact hseg.of_heap (fun j hj => heap_set_ne (fun e => hgb ((Option.some.inj hj).trans e)) _)
  · cases hj
    rcases hat with e | e
    · exact h.mine.2 _ e
    · exact hS _ (by show w.heap.size ≤ g'; omega)
  · have hFb : Fr S w wb := ⟨hw2.1, hw2.2.1, hw2.2.2, by omega, fun j hj _ => by rw [hw]; exact Below.heap_alloc _ _ _ hj⟩
    exact (hFb.grown hgr (fun j e hj => h.mine.2 j e)).setCell (fun _ => h.mine.1) _

theorem info_item : ∃ i, Try.prog.info? 74 = some i ∧ i.zero = some (.agg #[.int .i64 0, .int .u64 0, .int .i64 0]) ∧ i.size = 3 ∧ i.bytes = 24 := by
  have h : (Try.prog.info? 74).map (fun i => (i.zero, i.size, i.bytes)) = some (some (.agg #[.int .i64 0, .int .u64 0, .int .i64 0]), 3, 24) := by kernel_rfl
  cases hx : Try.prog.info? 74 with
  | none => rw [hx] at h; cases h
  | some i =>
    rw [hx] at h
    simp only [Option.map_some, Option.some.injEq, Prod.mk.injEq] at h
    exact ⟨i, rfl, h.1, h.2.1, h.2.2⟩

set_option maxHeartbeats 1000000 in
set_option maxRecDepth 100000 in
theorem put_refnew (S : Nat → Prop) (w : World) (rb room : Nat) (L L2 : List (Ent Int Int)) (h : REF S w rb room L) (g k v : Int) (hh : hasE L g k = false) (hL2 : L2 = if room < L.length + 1 then (addE L g k v).tail else addE L g k v) (hS : ∀ k, w.heap.size ≤ k → S k) (hr1 : 1 ≤ room) (hr2 : room ≤ 1024) (hfit : L.length ≤ room) :
    Calls Try.prog 15 #[.pointer (some ⟨rb, 0, none⟩), .int .i64 g, .int .u64 k, .int .i64 v] w fun e w' => e = .returned (.tuple #[]) ∧ Hid (REF S w' rb room L2) ∧ Hid (Fr S w w') := by
  obtain ⟨i0, hi0, hz0, hz1, hz2⟩ := info_item
  have HA := hid (at_ref S w rb room L h g k)
  obtain ⟨so, sc, h⟩ := h
  obtain ⟨c0, c1, f⟩ := h.locs
  rw [hh] at HA
  simp only [Bool.false_eq_true, ↓reduceIte] at HA
  have HL := hid hL2
  have hrow : Hid (∀ wb : World, wb.heap = (w.alloc (.cells #[.int .i64 g, .int .u64 k, .int .i64 v] 74)).heap → Seg wb 74 3 so L.length sc (its L) ∧ ∀ j u, [Value.int .i64 g, .int .u64 k, .int .i64 v][j]? = some u → wb.cell? ((⟨w.heap.size, 0, none⟩ : Addr).add j) = some u) := by
    intro wb hw
    refine ⟨h.seg.of_heap (fun g hg => by rw [hw]; exact Below.heap_alloc _ _ _ (h.seg.lt g hg)), World.news_of_block (cs := #[Value.int .i64 g, .int .u64 k, .int .i64 v]) (t := 74) (fr := (0, 0)) (by rw [hw]; exact heap_alloc_new w _)⟩
  have hend := hid (fun wb w1 g' off' cap' o => rnew S w rb room L g k v hS so sc h wb w1 g' off' cap' o)
  have hnn : ¬ ((-1 : Int) ≥ 0) := by omega
  clear h hh hL2 hS f
  go_enter Try.func15, Try.ntmps15
  go_wp2_with (first
    | (go_at_call 33; refine HA.out.mono ?_; rintro e w' ⟨rfl, rfl⟩)
    | (at_builtin; refine wpList_append_seg rfl (.tmp 27) (.tmp 32) 47 rfl 74 i0 (.agg #[.int .i64 0, .int .u64 0, .int .i64 0]) 3 24 Try.underlying47 hi0 hz0 hz1 hz2 rfl (by decide) so L.length sc _ (by simp [Act.eval]) (hrow.out _ (by rfl)).1 _ 1 1 [.int .i64 g, .int .u64 k, .int .i64 v] (by simp [Act.eval]) rfl (by decide) (hrow.out _ (by rfl)).2 (by simp [Value.oneCell']) (by unfold maxLen; omega) (by omega) ?_; intro g' off' cap' w1 hown hgr hat; have N := hend.out _ w1 g' off' cap' _ (by rfl) ⟨by rfl, by rfl, by rfl⟩ hown hgr hat; have n1 := N.c1; have n2 := N.f1; have N := hid N; clear hown hgr hat)
    | fail)
  have A0 := N.out.fin
  have F0 := hid N.out.fr
  obtain ⟨m0, m1, mf⟩ := A0.locs
  rw [show (addE L g k v).length = L.length + 1 by simp [addE]] at m1
  have mf := mf 1
  have hcp := A0.seg.2.1
  have hcm := A0.seg.2.2.1
  unfold maxLen at hcm
  rw [show (addE L g k v).length = L.length + 1 by simp [addE]] at hcp
  have A := hid A0
  clear n1 n2 N A0 hrow hend hi0 hz0 hz1 hz2 HA c0 c1
  generalize World.setCell w1 _ _ = w3 at *
  by_cases hf : room < L.length + 1
  · have hf1 : ((room : Int) < (L.length : Int) + 1) := by omega
    have hf2 : ((room : Int) < ((L.length + 1 : Nat) : Int)) := by omega
    obtain ⟨e0, L', he⟩ : ∃ e0 L', addE L g k v = e0 :: L' := by
      cases hx : addE L g k v with
      | nil => simp [addE] at hx
      | cons a b => exact ⟨a, b, rfl⟩
    have hll : L'.length = L.length := by have := congrArg List.length he; simp [addE] at this; omega
    have hc1 : ¬ cap' = 1 := by omega
    have hfin : Hid (∀ m, REF S ((w3.drewN m).setCell ⟨rb, 1, none⟩ (.slice (some ⟨g', off' + 3, none⟩) L.length (cap' - 1))) rb room L2 ∧ Fr S w ((w3.drewN m).setCell ⟨rb, 1, none⟩ (.slice (some ⟨g', off' + 3, none⟩) L.length (cap' - 1)))) := by
      intro m
      have hA := A.out.of_heap (w' := w3.drewN m) (fun _ _ _ => rfl)
      rw [HL.out, if_pos hf, he, List.tail_cons]
      rw [he] at hA
      have hp := Seg.pop (len := L'.length) (y := [.int .i64 e0.g, .int .u64 e0.k, .int .i64 e0.v]) (ys := its L') hA.seg rfl
      simp only [popA, if_neg hc1, Option.map_some, Addr.add_lit] at hp
      refine ⟨⟨_, _, ?_, hp.of_heap (fun j hj => heap_set_ne (fun e => hA.ne (hj.trans (congrArg some e))) _), hA.ne, hA.mine⟩, (F0.out.drewM m).setCell (fun _ => hA.mine.1) _⟩
      rw [hll]
      exact heap_set hA.cells _
    clear HL A F0 he hll hf hfit
    go_wp2_with fail
    go_quiet (fail)
    go_wp2_with fail
    exact ⟨rfl, .tuple #[], by kernel_rfl, rfl, (hfin.out nq).1, (hfin.out nq).2⟩
  · have hf1 : ¬ ((room : Int) < (L.length : Int) + 1) := by omega
    have hf2 : ¬ ((room : Int) < ((L.length + 1 : Nat) : Int)) := by omega
    have HE : Hid (L2 = addE L g k v) := hid (by rw [HL.out, if_neg hf])
    clear HL hf hfit
    go_wp2_with fail
    go_quiet (fail)
    go_wp2_with fail
    have hA : REF S (w3.drewN nq) rb room L2 := by
      rw [HE.out]
      exact ⟨_, _, A.out.of_heap (w' := w3.drewN nq) (fun _ _ _ => rfl)⟩
    exact ⟨rfl, .tuple #[], by kernel_rfl, rfl, hA, F0.out.drewM nq⟩

/-- Put. -/
theorem put_ref (S : Nat → Prop) (w : World) (rb room : Nat) (L : List (Ent Int Int)) (h : REF S w rb room L) (g k v : Int) (hS : ∀ k, w.heap.size ≤ k → S k) (hr1 : 1 ≤ room) (hr2 : room ≤ 1024) (hfit : L.length ≤ room) :
    Calls Try.prog 15 #[.pointer (some ⟨rb, 0, none⟩), .int .i64 g, .int .u64 k, .int .i64 v] w fun e w' => e = .returned (.tuple #[]) ∧ Hid (REF S w' rb room (putE room L g k v)) ∧ Hid (Fr S w w') := by
  cases hh : hasE L g k with
  | true =>
    have := put_refold S w rb room L h g k v hh
    unfold putE
    rw [if_pos hh]
    exact this
  | false =>
    have := put_refnew S w rb room L _ h g k v hh rfl hS hr1 hr2 hfit
    unfold putE
    rw [if_neg (by rw [hh]; decide)]
    exact this
end Go.Proofs.Ytelbbfogeimekaa

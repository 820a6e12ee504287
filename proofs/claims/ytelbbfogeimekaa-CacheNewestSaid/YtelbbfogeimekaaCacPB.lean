/-
  A cache's Put. No conditions.
-/
import Derived.Test.YtelbbfogeimekaaCacDB
import Derived.Deep.CutBlock
import Derived.StillTailTactics
namespace Go.Proofs.Ytelbbfogeimekaa
open Go.RowKit

theorem Fr.drewM {S : Nat → Prop} {a w : World} (h : Fr S a w) (m : Nat) : Fr S a (w.drewN m) := ⟨h.os, h.tape, h.output, h.size, h.block⟩

section
variable (S : Nat → Prop) (w : World) (cb room : Nat) (L : List (Ent ByteArray (Int × Int))) (g : Int) (k : ByteArray) (v : (Int × Int)) (hg : (Lit.int .i64 g).wf = true) (hk : (k).size ≤ maxLen)
include hg hk

/-- What holds when a value was put at a key that is kept. -/
structure OldFB (mb : Nat) (so : Option Addr) (sc : Nat) (wa w2 : World) : Prop where
  run : (Instr.mapUpdate 75 (.map (some mb)) (.agg #[.int .i64 g, .string k]) (.agg #[.int .i64 v.1, .int .i64 v.2])).run Try.prog wa = .ok () w2
  c0 : w2.cell? ⟨cb, 0, none⟩ = some (.int .i64 room)
  c2 : w2.cell? ⟨cb, 2, none⟩ = some (.slice so L.length sc)
  fin : CACHEB S w2 cb room (setE L g k v)
  fr : Fr S w w2

theorem oldFB (hh : hasE L g k = true) (mb : Nat) (so : Option Addr) (sc : Nat) (F : Lit → Option Value) (h : CAtB S w cb mb so sc room F L) (hl : L.length ≤ 1024) (wa : World) (hf : Fr (fun _ => False) w wa) : ∃ w2, OldFB S w cb room L g k v mb so sc wa w2 := by
  have h1 : CAtB S wa cb mb so sc room F L := h.of_heap (fun k hk _ => hf.block k hk (fun h => h))
  obtain ⟨w2, hrun, hM, hgr⟩ := h1.map.store lawS Try.underlying75 zeroVB (by unfold maxLen; omega) (keyS hg hk) (.agg #[.int .i64 v.1, .int .i64 v.2])
  have hF : (F (klitS g k)).isSome = true := by rw [h.agree g k hg hk, Option.isSome_map, ← hasE_get]; exact hh
  rw [if_pos hF] at hM
  have hkeep : ∀ j, j < wa.heap.size → j ≠ mb → w2.heap[j]? = wa.heap[j]? := fun j hj hne => hgr.block j hj (fun e => hne (Option.some.inj e))
  have hc2 : w2.heap[cb]? = _ := (hkeep cb (heap_lt h1.cells) h.ne.1).trans h1.cells
  have hr2 : w2.ownsRow 0 80 2 (.slice so L.length sc) L.length (kvsS L) := owns_of_heap h1.row (fun g hg => by
    rw [ownBlock_slice] at hg
    exact hkeep g (owns_lt h1.row g hg) (fun e => h.ne.2.2 (by rw [hg, e])))
  have hlen : (setE L g k v).length = L.length := by simp [setE]
  have hkv : kvsS (setE L g k v) = kvsS L := by
    have : ∀ A B : List (Ent ByteArray (Int × Int)), A.map (fun e => (e.g, e.k)) = B.map (fun e => (e.g, e.k)) → kvsS A = kvsS B := by
      intro A
      induction A with
      | nil => intro B e; cases B with | nil => rfl | cons b B => cases e
      | cons a A ih =>
        intro B e
        cases B with
        | nil => cases e
        | cons b B =>
          simp only [List.map_cons, List.cons.injEq, Prod.mk.injEq] at e
          simp only [kvsS, e.1.1, e.1.2, ih B e.2]
    exact this _ _ (keys_set v hh)
  refine ⟨w2, hrun, (cell_at hc2).trans rfl, (cell_at hc2).trans rfl, ⟨mb, so, sc, _, by rw [hlen]; exact hc2, by rw [hlen]; exact hM, fun g' k' hg' hk' => ?_, by rw [hlen, hkv]; exact hr2, apart_keys (keys_set v hh) h.apart, fun e he => ?_, h.le, h.ne, h.mine⟩, ((hf.mono (fun _ _ h => h.elim)).grown hgr (fun k e hk => by cases e; exact h.mine.2.1))⟩
  · rw [getE_set v hh]
    unfold updF
    by_cases e : g' = g ∧ k' = k
    · obtain ⟨rfl, rfl⟩ := e
      rw [if_pos rfl, if_pos ⟨rfl, rfl⟩]; rfl
    · rw [if_neg (fun e' => e (klitS_inj hg' hk' hg hk e')), if_neg e]
      exact h.agree g' k' hg' hk'
  · rcases List.mem_or_eq_of_mem_set he with he | rfl
    · exact h.wf e he
    · exact ⟨hg, hk⟩

set_option maxHeartbeats 1000000 in
set_option maxRecDepth 100000 in
theorem put_oldB (hh : hasE L g k = true) (h : CACHEB S w cb room L) (hfit : L.length ≤ room) : Calls Try.prog 20 #[.pointer (some ⟨cb, 0, none⟩), .int .i64 g, .string k, .agg #[.int .i64 v.1, .int .i64 v.2]] w fun e w' => e = .returned (.int .i64 0) ∧ Hid (CACHEB S w' cb room (setE L g k v)) ∧ Hid (Fr S w w') := by
  obtain ⟨mb, so, sc, F, h⟩ := h
  obtain ⟨c0, c1, c2, f⟩ := h.locs
  have hcb := heap_lt h.cells
  have hro := h.le
  obtain ⟨wv, hwv⟩ : ∃ wv, wv = w.alloc (.cells #[.int .i64 v.1, .int .i64 v.2] 54) := ⟨_, rfl⟩
  have Fv : Fr (fun _ => False) w wv := by rw [hwv]; exact (Fr.refl _ w).alloc _
  have hvn := heap_alloc_new w (.cells #[.int .i64 v.1, .int .i64 v.2] 54)
  rw [← hwv] at hvn
  have hv : CAtB S wv cb mb so sc room F L := h.of_heap (fun k hk _ => Fv.block k hk (fun h => h))
  obtain ⟨d0, d1, d2, _⟩ := hv.locs
  have u0 : wv.cell? ⟨w.heap.size, 0, none⟩ = some (.int .i64 v.1) := (cell_at hvn).trans rfl
  have u1 : wv.cell? ⟨w.heap.size, 1, none⟩ = some (.int .i64 v.2) := (cell_at hvn).trans rfl
  have HN := noneB wv cb mb d1
  have hlk : ∀ w', w'.heap[mb]? = wv.heap[mb]? → (Instr.lookup 75 (.map (some mb)) (.agg #[.int .i64 g, .string k]) true).run Try.prog w' = .ok (.tuple #[((getE L g k).map vvB).getD (.agg #[.int .i64 0, .int .i64 0]), .bool true]) w' := by
    intro w' hm
    have := ((hv.map.of_heap (w' := w') hm).look lawS Try.underlying75 zeroVB (keyS hg hk)).1
    rw [h.agree g k hg hk, Option.isSome_map, ← hasE_get, hh] at this
    exact this
  have hst := hid (fun wa hf => oldFB S w cb room L g k v hg hk hh mb so sc F h (by omega) wa hf)
  obtain ⟨o1, o2, hV⟩ : ∃ o1 o2 : Int, ((getE L g k).map vvB).getD (.agg #[.int .i64 0, .int .i64 0]) = .agg #[.int .i64 o1, .int .i64 o2] := by
    cases getE L g k with
    | none => exact ⟨0, 0, rfl⟩
    | some p => exact ⟨p.1, p.2, rfl⟩
  simp only [hV] at hlk
  have hnb : ¬ (room : Int) < (L.length : Int) := by omega
  have FV := hid Fv
  have HW := hid hwv
  obtain ⟨wp, hwp⟩ : ∃ wp, wp = wv.alloc (.cells #[.int .i64 g, .string k] 80) := ⟨_, rfl⟩
  have Fp : Fr (fun _ => False) wv wp := by rw [hwp]; exact (Fr.refl _ wv).alloc _
  have HWP := hid hwp
  have hpn := heap_alloc_new wv (.cells #[.int .i64 g, .string k] 80)
  rw [← hwp] at hpn
  have q0 : wp.cell? ⟨wv.heap.size, 0, none⟩ = some (.int .i64 g) := (cell_at hpn).trans rfl
  have q1 : wp.cell? ⟨wv.heap.size, 1, none⟩ = some (.string k) := (cell_at hpn).trans rfl
  have keepc : ∀ {p : Addr} {u : Value}, wv.cell? p = some u → wp.cell? p = some u := fun {p u} hc => (World.cell?_of_block (Fp.block p.block (block_lt_of_cell hc) (fun h => h))).trans hc
  have q2 := keepc d0
  have q3 := keepc d1
  have q4 := keepc d2
  have q5 := keepc u0
  have q6 := keepc u1
  have z1 := block_lt_of_cell q0
  have z2 := block_lt_of_cell q2
  have z3 := block_lt_of_cell q5
  have hmp : wp.heap[mb]? = wv.heap[mb]? := Fp.block mb hv.map.lt (fun h => h)
  have lk1 := hlk wp.drew hmp
  have lk2 := hlk (wp.alloc (.cells #[.int .i64 0, .int .i64 0] 54)).drew ((Below.heap_alloc _ _ _ (Nat.lt_of_lt_of_le hv.map.lt Fp.size)).trans hmp)
  have FP := hid Fp
  clear hV h f hg hk hh hv Fv hvn c0 c1 c2 hwv hwp hlk hpn hmp keepc
  go_enter Try.func20, Try.ntmps20
  go_upto_region 1 with fail
  rw [← HW.out]
  generalize w.heap.size = vb at *
  go_upto_region 4 with (first
    | (go_at_call 34; refine HN.out.mono ?_; rintro e w' ⟨rfl, rfl⟩)
    | fail)
  rw [← HWP.out]
  generalize wv.heap.size = pb at *
  clear d0 d1 d2 u0 u1 HN
  go_region
  all_goals
    obtain ⟨wq, hwq⟩ : ∃ wq, wq = (wp.alloc (.cells #[.int .i64 o1, .int .i64 o2] 54)).drew := ⟨_, rfl⟩
    rw [← hwq]
    have Fq : Fr (fun _ => False) w wq := by rw [hwq]; exact (((FV.out.trans FP.out).alloc _).drew)
    have keepq : ∀ {p : Addr} {u : Value}, wp.cell? p = some u → wq.cell? p = some u := fun {p u} hc => by rw [hwq]; exact (World.cell?_of_block (w := wp) (a := p) (Below.heap_alloc wp _ _ (block_lt_of_cell hc))).trans hc
    have y0 := keepq q0
    have y1 := keepq q1
    have y3 := keepq q3
    have y5 := keepq q5
    have y6 := keepq q6
    obtain ⟨w2, O⟩ := hst.out wq.drew Fq.drew
    have hrun := O.run
    have d0 := O.c0
    have d2 := O.c2
    have O := hid O
    clear hwq Fq keepq q0 q1 q2 q3 q4 q5 q6 z1 z2 z3 lk1 lk2
    go_wp2_with fail
    go_region
    all_goals go_wp2_with fail
    all_goals go_quiet (fail)
    all_goals go_wp2_with fail
    all_goals go_ret
    all_goals exact ⟨rfl, O.out.fin.kept (Fr.drewM (Fr.refl (fun _ => False) w2) _) (fun _ _ _ h => h), O.out.fr.drewM _⟩

/-- What holds when a value was put at a new key: w1 when the place was appended, w4 when the map has it. -/
structure NewFB (mb : Nat) (so : Option Addr) (sc : Nat) (so' : Option Addr) (sc' : Nat) (pb vb : Nat) (w1 w4 : World) : Prop where
  c2 : w1.cell? ⟨cb, 2, none⟩ = some (.slice so L.length sc)
  f2 : w1.frozen? ⟨cb, 2, none⟩ = false
  c1 : (w1.setCell ⟨cb, 2, none⟩ (.slice so' (L.length + 1) sc')).cell? ⟨cb, 1, none⟩ = some (.map (some mb))
  b0 : (w1.setCell ⟨cb, 2, none⟩ (.slice so' (L.length + 1) sc')).cell? ⟨pb, 0, none⟩ = some (.int .i64 g)
  b1 : (w1.setCell ⟨cb, 2, none⟩ (.slice so' (L.length + 1) sc')).cell? ⟨pb, 1, none⟩ = some (.string k)
  u0 : (w1.setCell ⟨cb, 2, none⟩ (.slice so' (L.length + 1) sc')).cell? ⟨vb, 0, none⟩ = some (.int .i64 v.1)
  u1 : (w1.setCell ⟨cb, 2, none⟩ (.slice so' (L.length + 1) sc')).cell? ⟨vb, 1, none⟩ = some (.int .i64 v.2)
  run : (Instr.mapUpdate 75 (.map (some mb)) (.agg #[.int .i64 g, .string k]) (.agg #[.int .i64 v.1, .int .i64 v.2])).run Try.prog (w1.setCell ⟨cb, 2, none⟩ (.slice so' (L.length + 1) sc')).drew = .ok () w4
  d0 : w4.cell? ⟨cb, 0, none⟩ = some (.int .i64 room)
  d2 : w4.cell? ⟨cb, 2, none⟩ = some (.slice so' (L.length + 1) sc')
  fin : CACHEB S w4 cb room (addE L g k v)
  fr : Fr S w w4
  row : w4.ownsRow 0 80 2 (.slice so' (L.length + 1) sc') (L.length + 1) (kvsS (addE L g k v))

theorem newFB (hS : ∀ k, w.heap.size ≤ k → S k) (hh : hasE L g k = false) (mb : Nat) (so : Option Addr) (sc : Nat) (F : Lit → Option Value) (h : CAtB S w cb mb so sc room F L) (hl : L.length ≤ 1024) (wb w1 : World) (so' : Option Addr) (sc' : Nat)
    (Fw : Fr (fun _ => False) w wb) (pb vb : Nat) (hp : w.heap.size ≤ pb) (hv : w.heap.size ≤ vb) (hpb : wb.heap[pb]? = some (.cells #[.int .i64 g, .string k] 80 (0, 0))) (hvb : wb.heap[vb]? = some (.cells #[.int .i64 v.1, .int .i64 v.2] 54 (0, 0)))
    (hown : w1.ownsRow 0 80 2 (.slice so' (L.length + 1) sc') (L.length + 1) (kvsS L ++ [.int .i64 g, .string k])) (hgr : wb.grownBy w1 (blk so)) (hat : ∀ g, blk so' = some g → blk so = some g ∨ g = wb.heap.size) : ∃ w4, NewFB S w cb room L g k v mb so sc so' sc' pb vb w1 w4 := by
  have hsz : w.heap.size ≤ wb.heap.size := Fw.size
  have hkeep : ∀ j, j < w.heap.size → blk so ≠ some j → w1.heap[j]? = w.heap[j]? := fun j hj hne => (hgr.block j (by omega) (fun e => hne e.symm)).trans (Fw.block j hj (fun h => h))
  have hcb := heap_lt h.cells
  have hmb := h.map.lt
  have hc1 : w1.heap[cb]? = _ := (hkeep cb hcb h.ne.2.1).trans h.cells
  have hbx : w1.heap[pb]? = some (.cells #[.int .i64 g, .string k] 80 (0, 0)) := by
    rw [hgr.block _ (heap_lt hpb) (fun e => by have := owns_lt h.row pb e.symm; omega)]
    exact hpb
  have hux : w1.heap[vb]? = some (.cells #[.int .i64 v.1, .int .i64 v.2] 54 (0, 0)) := by
    rw [hgr.block _ (heap_lt hvb) (fun e => by have := owns_lt h.row vb e.symm; omega)]
    exact hvb
  have hso : blk so' ≠ some cb ∧ blk so' ≠ some mb := by
    refine ⟨fun e => ?_, fun e => ?_⟩
    · rcases hat _ e with e' | e'
      · exact h.ne.2.1 e'
      · omega
    · rcases hat _ e with e' | e'
      · exact h.ne.2.2 e'
      · omega
  have hc3 := heap_set (o := 2) hc1 (.slice so' (L.length + 1) sc')
  have hb3 : (w1.setCell ⟨cb, 2, none⟩ (.slice so' (L.length + 1) sc')).heap[pb]? = _ := (heap_set_ne (a := ⟨cb, 2, none⟩) (fun e => by have : pb = cb := e; omega) _).trans hbx
  have hu3 : (w1.setCell ⟨cb, 2, none⟩ (.slice so' (L.length + 1) sc')).heap[vb]? = _ := (heap_set_ne (a := ⟨cb, 2, none⟩) (fun e => by have : vb = cb := e; omega) _).trans hux
  have hm3 : (w1.setCell ⟨cb, 2, none⟩ (.slice so' (L.length + 1) sc')).drew.heap[mb]? = w.heap[mb]? := (heap_set_ne (a := ⟨cb, 2, none⟩) h.ne.1.symm _).trans (hkeep mb hmb h.ne.2.2)
  obtain ⟨w4, hrun, hM, hg4⟩ := (h.map.of_heap hm3).store lawS Try.underlying75 zeroVB (by unfold maxLen; omega) (keyS hg hk) (.agg #[.int .i64 v.1, .int .i64 v.2])
  have hF : ¬ (F (klitS g k)).isSome = true := by rw [h.agree g k hg hk, Option.isSome_map, ← hasE_get, hh]; simp
  rw [if_neg hF] at hM
  have hc4 : w4.heap[cb]? = _ := (hg4.block cb (heap_lt hc3) (fun e => h.ne.1 (Option.some.inj e))).trans hc3
  have hr3 : (w1.setCell ⟨cb, 2, none⟩ (.slice so' (L.length + 1) sc')).ownsRow 0 80 2 (.slice so' (L.length + 1) sc') (L.length + 1) (kvsS L ++ [.int .i64 g, .string k]) := owns_of_heap hown (fun j hj => by
    rw [ownBlock_slice] at hj
    exact heap_set_ne (fun e => hso.1 (by rw [hj]; exact congrArg some e)) _)
  have hr4 : w4.ownsRow 0 80 2 (.slice so' (L.length + 1) sc') (L.length + 1) (kvsS (addE L g k v)) := by
    have : kvsS (addE L g k v) = kvsS L ++ [.int .i64 g, .string k] := by unfold addE; rw [kvsS_append]; rfl
    rw [this]
    refine owns_of_heap hr3 (fun j hj => ?_)
    rw [ownBlock_slice] at hj
    exact hg4.block j (owns_lt hr3 j hj) (fun e => hso.2 (by rw [hj, ← Option.some.inj e]))
  have hlen : (addE L g k v).length = L.length + 1 := by simp [addE]
  have Fb : Fr S w wb := Fw.mono (fun _ _ h => h.elim)
  refine ⟨w4, (cell_at hc1).trans rfl, thawed hc1, (cell_at hc3).trans rfl, (cell_at hb3).trans rfl, (cell_at hb3).trans rfl, (cell_at hu3).trans rfl, (cell_at hu3).trans rfl, hrun, (cell_at hc4).trans rfl, (cell_at hc4).trans rfl, ⟨mb, so', sc', _, by rw [hlen]; exact hc4, by rw [hlen]; exact hM, fun g' k' hg' hk' => ?_, by rw [hlen]; exact hr4, h.apart.add hh v, fun e he => ?_, h.le, ⟨h.ne.1, hso.1, hso.2⟩, h.mine.1, h.mine.2.1, fun j hj => ?_⟩, ?_, hr4⟩
  · rw [getE_add v hh]
    unfold updF
    by_cases e : g' = g ∧ k' = k
    · obtain ⟨rfl, rfl⟩ := e
      rw [if_pos rfl, if_pos ⟨rfl, rfl⟩]; rfl
    · rw [if_neg (fun e' => e (klitS_inj hg' hk' hg hk e')), if_neg e]
      exact h.agree g' k' hg' hk'
  · rcases List.mem_append.1 he with he | he
    · exact h.wf e he
    · obtain rfl := List.mem_singleton.1 he
      exact ⟨hg, hk⟩
  · rcases hat j hj with e | e
    · exact h.mine.2.2 j e
    · exact hS j (by omega)
  · exact (((Fb.grown hgr (fun j e hj => h.mine.2.2 j e)).setCell (fun _ => h.mine.1) _).drew).grown hg4 (fun j e hj => by cases e; exact h.mine.2.1)

set_option maxHeartbeats 4000000 in
set_option maxRecDepth 100000 in
theorem put_newB (L2 : List (Ent ByteArray (Int × Int))) (hL2 : L2 = if room < L.length + 1 then (addE L g k v).tail else addE L g k v) (hS : ∀ k, w.heap.size ≤ k → S k) (hh : hasE L g k = false) (h : CACHEB S w cb room L) (hfit : L.length ≤ room) : Calls Try.prog 20 #[.pointer (some ⟨cb, 0, none⟩), .int .i64 g, .string k, .agg #[.int .i64 v.1, .int .i64 v.2]] w fun e w' => e = .returned (.int .i64 0) ∧
    Hid (CACHEB S w' cb room L2) ∧ Hid (Fr S w w') := by
  have HL := hid hL2
  clear hL2
  obtain ⟨i0, hi, hz0, hz1, hz2⟩ := info_parts Try.info80
  obtain ⟨mb, so, sc, F, h⟩ := h
  obtain ⟨c0, c1, c2, f⟩ := h.locs
  have hcb := heap_lt h.cells
  have hro := h.le
  obtain ⟨wv, hwv⟩ : ∃ wv, wv = w.alloc (.cells #[.int .i64 v.1, .int .i64 v.2] 54) := ⟨_, rfl⟩
  have Fv : Fr (fun _ => False) w wv := by rw [hwv]; exact (Fr.refl _ w).alloc _
  have hvn := heap_alloc_new w (.cells #[.int .i64 v.1, .int .i64 v.2] 54)
  rw [← hwv] at hvn
  have hv : CAtB S wv cb mb so sc room F L := h.of_heap (fun k hk _ => Fv.block k hk (fun h => h))
  obtain ⟨d0, d1, d2, _⟩ := hv.locs
  have HN := noneB wv cb mb d1
  have hlk : ∀ w', w'.heap[mb]? = wv.heap[mb]? → (Instr.lookup 75 (.map (some mb)) (.agg #[.int .i64 g, .string k]) true).run Try.prog w' = .ok (.tuple #[.agg #[.int .i64 0, .int .i64 0], .bool false]) w' := by
    intro w' hm
    have := ((hv.map.of_heap (w' := w') hm).look lawS Try.underlying75 zeroVB (keyS hg hk)).1
    have hn : getE L g k = none := by have := hasE_get g k L; rw [hh] at this; cases hx : getE L g k <;> rw [hx] at this <;> first | rfl | cases this
    rw [h.agree g k hg hk, hn] at this
    exact this
  have FV := hid Fv
  have HW := hid hwv
  obtain ⟨wp, hwp⟩ : ∃ wp, wp = wv.alloc (.cells #[.int .i64 g, .string k] 80) := ⟨_, rfl⟩
  have Fp : Fr (fun _ => False) wv wp := by rw [hwp]; exact (Fr.refl _ wv).alloc _
  have HWP := hid hwp
  have hpn := heap_alloc_new wv (.cells #[.int .i64 g, .string k] 80)
  rw [← hwp] at hpn
  have hvn2 : wp.heap[w.heap.size]? = some (.cells #[.int .i64 v.1, .int .i64 v.2] 54 (0, 0)) := (Fp.block _ (heap_lt hvn) (fun h => h)).trans hvn
  have keepc : ∀ {p : Addr} {u : Value}, wv.cell? p = some u → wp.cell? p = some u := fun {p u} hc => (World.cell?_of_block (Fp.block p.block (block_lt_of_cell hc) (fun h => h))).trans hc
  have q0 : wp.cell? ⟨wv.heap.size, 0, none⟩ = some (.int .i64 g) := (cell_at hpn).trans rfl
  have q1 : wp.cell? ⟨wv.heap.size, 1, none⟩ = some (.string k) := (cell_at hpn).trans rfl
  have q3 := keepc d1
  have q4 := keepc d2
  have z1 := block_lt_of_cell q0
  have z2 := block_lt_of_cell q3
  have hmp : wp.heap[mb]? = wv.heap[mb]? := Fp.block mb hv.map.lt (fun h => h)
  have lk1 := hlk wp.drew hmp
  have lk2 := hlk (wp.alloc (.cells #[.int .i64 0, .int .i64 0] 54)).drew ((Below.heap_alloc _ _ _ (Nat.lt_of_lt_of_le hv.map.lt Fp.size)).trans hmp)
  have FP := hid Fp
  have hpv : Hid (w.heap.size ≤ wv.heap.size) := hid Fv.size
  -- the world in which the place is appended: wb
  have hrow : Hid (∀ wq wb : World, Fr (fun _ => False) wp wq → wb.heap = (wq.alloc (.cells #[.int .i64 g, .string k] 80)).heap →
      wb.ownsRow 0 80 2 (.slice so L.length sc) L.length (kvsS L) ∧ ∀ ad, some (⟨wq.heap.size, 0, none⟩ : Addr) = some ad → ∀ j u, [Value.int .i64 g, .string k][j]? = some u → wb.cell? (ad.add j) = some u) := by
    intro wq wb Fq e
    have hR := hv.row
    refine ⟨owns_of_heap hR (fun j hj => ?_), fun ad had => ?_⟩
    · rw [ownBlock_slice] at hj
      have hl := owns_lt hR j hj
      rw [e, Below.heap_alloc _ _ _ (Nat.lt_of_lt_of_le (Nat.lt_of_lt_of_le hl Fp.size) Fq.size), Fq.block j (Nat.lt_of_lt_of_le hl Fp.size) (fun h => h)]
      exact Fp.block j hl (fun h => h)
    · cases had
      exact World.news_of_block (cs := #[Value.int .i64 g, .string k]) (t := 80) (fr := (0, 0)) (by rw [e]; exact heap_alloc_new wq _)
  have hend : Hid (∀ (wq wb w1 : World) (so' : Option Addr) (sc' : Nat), Fr (fun _ => False) wp wq → wb.heap = (wq.alloc (.cells #[.int .i64 g, .string k] 80)).heap → (wb.os = wq.os ∧ wb.tape = wq.tape ∧ wb.output = wq.output) →
      w1.ownsRow 0 80 2 (.slice so' (L.length + 1) sc') (L.length + 1) (kvsS L ++ [.int .i64 g, .string k]) → wb.grownBy w1 (blk so) → (∀ g, blk so' = some g → blk so = some g ∨ g = wb.heap.size) → ∃ w4, NewFB S w cb room L g k v mb so sc so' sc' wv.heap.size w.heap.size w1 w4) := hid (by
    intro wq wb w1 so' sc' Fq e1 e2 hown hgr hat
    have Fb : Fr (fun _ => False) wq wb := ⟨e2.1, e2.2.1, e2.2.2, by rw [e1]; simp, fun j hj _ => by rw [e1]; exact Below.heap_alloc _ _ _ hj⟩
    have Fpb := Fq.trans Fb
    exact newFB S w cb room L g k v hg hk hS hh mb so sc F h (by omega) wb w1 so' sc' ((Fv.trans Fp).trans Fpb) wv.heap.size w.heap.size Fv.size (Nat.le_refl _) ((Fpb.block _ (heap_lt hpn) (fun h => h)).trans hpn) ((Fpb.block _ (heap_lt hvn2) (fun h => h)).trans hvn2) hown hgr hat)
  have hwfA : Hid (∀ e ∈ addE L g k v, (Lit.int .i64 e.g).wf = true ∧ (e.k).size ≤ maxLen) := fun e he => by
    rcases List.mem_append.1 he with he | he
    · exact h.wf e he
    · obtain rfl := List.mem_singleton.1 he
      exact ⟨hg, hk⟩
  have HS := hid hS
  clear h f hg hk hh hS hv Fv hvn hvn2 c0 c1 c2 hwv hwp hlk hpn hmp keepc d0 d2
  go_enter Try.func20, Try.ntmps20
  go_upto_region 1 with fail
  rw [← HW.out]
  generalize w.heap.size = vb at *
  go_upto_region 4 with (first
    | (go_at_call 34; refine HN.out.mono ?_; rintro e w' ⟨rfl, rfl⟩)
    | fail)
  rw [← HWP.out]
  generalize wv.heap.size = pb at *
  clear d1 HN
  go_cut [10, 11] from 17 to 25 (fun _ v11 wx => v11 = .bool false ∧ Fr (fun _ => False) wp wx)
  case first =>
    as_aux_lemma =>
      go_region
      all_goals go_wp2_with fail
      all_goals go_meet
      all_goals exact ⟨rfl, ((Fr.refl _ wp).alloc _).drew⟩
  case rest =>
  obtain ⟨rfl, hFq⟩ := hcut
  have z4 : pb < wc.heap.size := Nat.lt_of_lt_of_le z1 hFq.size
  have z5 : cb < wc.heap.size := Nat.lt_of_lt_of_le z2 hFq.size
  have keepq : ∀ {p : Addr} {u : Value}, wp.cell? p = some u → wc.cell? p = some u := fun {p u} hc => (hFq.cell (block_lt_of_cell hc) (fun h => h)).trans hc
  have q0 := keepq q0
  have q1 := keepq q1
  have q4 := keepq q4
  have hrow := hid (fun wb e => hrow.out wc wb hFq e)
  have hend := hid (fun wb w1 so' sc' a b c d e => hend.out wc wb w1 so' sc' hFq a b c d e)
  clear keepq hFq
  go_upto_if 27 with (fail)
  go_cut [] from 28 to 37 (fun wx => ∃ so' sc' w1 w4, wx = w1.setCell ⟨cb, 2, none⟩ (.slice so' (L.length + 1) sc') ∧ NewFB S w cb room L g k v mb so sc so' sc' pb vb w1 w4)
  case first =>
    as_aux_lemma =>
      go_wp2_with fail
      go_region_law (refine step_append_gen rfl (.tmp 32) (.tmp 34) 76 rfl 80 i0 (.agg #[.int .i64 0, .string ⟨#[]⟩]) 2 24 Try.underlying76 hi hz0 hz1 hz2 rfl (by decide) 0 so L.length sc (kvsS L) (by simp [Act.eval]) (hrow.out _ (by rfl)).1 _ 1 1 [.int .i64 g, .string k] (by simp [Act.eval]) rfl (fun e => by cases e) (hrow.out _ (by rfl)).2 (by simp [Value.oneCell']) (by unfold maxLen; omega) (by omega) (by simp) ?_; intro so' sc' w1 hown hgr hat; obtain ⟨w4, N⟩ := hend.out _ w1 so' sc' (by rfl) ⟨by rfl, by rfl, by rfl⟩ hown hgr hat; have n2 := N.c2; have nf := N.f2; have N := hid N; clear hown hgr hat)
      all_goals go_wp2_with fail
      all_goals go_meet
      all_goals exact ⟨so', sc', w1, w4, rfl, N.out⟩
  case rest =>
    as_aux_lemma =>
      obtain ⟨so', sc', w1, w4, rfl, N⟩ := hcut
      have n1 := N.c1
      have m0 := N.b0
      have m1 := N.b1
      have m2 := N.u0
      have m3 := N.u1
      have hrun := N.run
      have d0 := N.d0
      have d2 := N.d2
      have N := hid N
      clear hrow hend hi hz0 hz1 hz2
      go_upto_region 7 with fail
      go_cut [] from 38 to 43 (fun wx => wx = w4)
      case first =>
        as_aux_lemma =>
          go_wp2_with fail
          go_region
          all_goals go_wp2_with fail
          all_goals go_meet
          all_goals rfl
      case rest =>
        as_aux_lemma =>
          obtain rfl := hcut
          clear n1 m0 m1 m2 m3 hrun
          by_cases hf : room < L.length + 1
          · have hfull : ((room : Int) < (L.length : Int) + 1) := by omega
            have hfull2 : ((room : Int) < ((L.length + 1 : Nat) : Int)) := by omega
            obtain ⟨e0, L', he⟩ : ∃ e0 L', addE L g k v = e0 :: L' := by
              cases hx : addE L g k v with
              | nil => simp [addE] at hx
              | cons a b => exact ⟨a, b, rfl⟩
            have hrow := N.out.row
            rw [he] at hrow
            obtain ⟨b, hb, k1, k2⟩ := kvsS_cells hrow (show (e0 :: L')[0]? = some e0 from rfl)
            subst hb
            simp only [Nat.zero_mul, Nat.zero_add] at k1 k2
            have hC := hid N.out.fin
            have hR := hid N.out.fr
            rw [he] at hC
            have hwf := hwfA.out e0 (by rw [he]; exact List.mem_cons_self)
            have hlc := (owns_len hrow).2.1
            have Hwf := hid hwf
            have HE : Hid (L2 = L') := hid (by rw [HL.out, if_pos hf, he, List.tail_cons])
            clear HL
            clear hrow hwfA hf N hwf hfit hro he
            go_wp2_with fail
            go_quiet (fail)
            go_wp2_with fail
            have e2 : (World.drewN _ nq).cell? ⟨cb, 2, none⟩ = _ := d2
            have e3 : (World.drewN _ nq).cell? ⟨b, 0, none⟩ = _ := k1
            have e4 : (World.drewN _ nq).cell? ⟨b, 1, none⟩ = _ := k2
            have hC2 := hid (hC.out.kept (Fr.drewM (Fr.refl (fun _ => False) _) nq) (fun _ _ _ h => h))
            have hR2 := hid (hR.out.drewM nq)
            clear d0 d2 k1 k2 hC hR
            generalize World.drewN _ nq = w5 at *
            refine wp_region_still_tail 15 (by kernel_rfl) (by kernel_rfl) ?_
            simp only [List.take_succ_cons, List.take_zero, List.drop_succ_cons, List.drop_zero]
            change wpStill _ _ (World.drew w5) (fun a' => wpList _ _ _ _ a' (World.drew w5)) _ _
            repeat still_step
            refine wpStill_nil ?_
            go_wp2_with (first
              | (go_at_call 35; refine (drop_yesB S _ cb room (e0 :: L') e0.g e0.k Hwf.out.1 Hwf.out.2 (by simp [hasE, isE]) (hC2.out.kept (Fr.drew (Fr.refl (fun _ => False) w5)) (fun _ _ _ h => h))).mono ?_; rintro e w6 ⟨rfl, C6, F6⟩; rw [cutE_head] at C6)
              | fail)
            go_ret
            exact ⟨rfl, by rw [HE.out]; exact C6, hR2.out.drew.trans F6.out⟩
          · have hnf : ¬ ((room : Int) < (L.length : Int) + 1) := by omega
            have hnf2 : ¬ ((room : Int) < ((L.length + 1 : Nat) : Int)) := by omega
            have HE : Hid (L2 = addE L g k v) := hid (by rw [HL.out, if_neg hf])
            clear HL
            clear hf hwfA hfit hro
            go_wp2_with fail
            go_quiet (fail)
            go_wp2_with fail
            go_ret
            exact ⟨rfl, by rw [HE.out]; exact N.out.fin.kept (Fr.drewM (Fr.refl (fun _ => False) _) _) (fun _ _ _ h => h), N.out.fr.drewM _⟩

theorem putB (hS : ∀ k, w.heap.size ≤ k → S k) (h : CACHEB S w cb room L) (hfit : L.length ≤ room) : Calls Try.prog 20 #[.pointer (some ⟨cb, 0, none⟩), .int .i64 g, .string k, .agg #[.int .i64 v.1, .int .i64 v.2]] w fun e w' => e = .returned (.int .i64 0) ∧
    Hid (CACHEB S w' cb room (putE room L g k v)) ∧ Hid (Fr S w w') := by
  cases hh : hasE L g k with
  | true =>
    have := put_oldB S w cb room L g k v hg hk hh h hfit
    unfold putE
    rw [if_pos hh]
    exact this
  | false =>
    have := put_newB S w cb room L g k v hg hk _ rfl hS hh h hfit
    unfold putE
    rw [if_neg (by rw [hh]; decide)]
    exact this
end
end Go.Proofs.Ytelbbfogeimekaa

/-
  A cache's Put. No conditions.
-/
import Derived.Test.YtelbbfogeimekaaCacDA
import Derived.Deep.CutBlock
import Derived.StillTailTactics
namespace Go.Proofs.Ytelbbfogeimekaa
open Go.RowKit

theorem Fr.drewM {S : Nat → Prop} {a w : World} (h : Fr S a w) (m : Nat) : Fr S a (w.drewN m) := ⟨h.os, h.tape, h.output, h.size, h.block⟩

section
variable (S : Nat → Prop) (w : World) (cb room : Nat) (L : List (Ent Int Int)) (g : Int) (k : Int) (v : Int) (hg : (Lit.int .i64 g).wf = true) (hk : (Lit.int .u64 (k)).wf = true)
include hg hk

/-- What holds when a value was put at a key that is kept. -/
structure OldFA (mb : Nat) (so : Option Addr) (sc : Nat) (wa w2 : World) : Prop where
  run : (Instr.mapUpdate 26 (.map (some mb)) (.agg #[.int .i64 g, .int .u64 k]) (.int .i64 v)).run Try.prog wa = .ok () w2
  c0 : w2.cell? ⟨cb, 0, none⟩ = some (.int .i64 room)
  c2 : w2.cell? ⟨cb, 2, none⟩ = some (.slice so L.length sc)
  fin : CACHEA S w2 cb room (setE L g k v)
  fr : Fr S w w2

theorem oldFA (hh : hasE L g k = true) (mb : Nat) (so : Option Addr) (sc : Nat) (F : Lit → Option Value) (h : CAtA S w cb mb so sc room F L) (hl : L.length ≤ 1024) (wa : World) (hf : Fr (fun _ => False) w wa) : ∃ w2, OldFA S w cb room L g k v mb so sc wa w2 := by
  have h1 : CAtA S wa cb mb so sc room F L := h.of_heap (fun k hk _ => hf.block k hk (fun h => h))
  obtain ⟨w2, hrun, hM, hgr⟩ := h1.map.store lawU Try.underlying26 zeroVA (by unfold maxLen; omega) (keyU hg hk) (.int .i64 v)
  have hF : (F (klitU g k)).isSome = true := by rw [h.agree g k hg hk, Option.isSome_map, ← hasE_get]; exact hh
  rw [if_pos hF] at hM
  have hkeep : ∀ j, j < wa.heap.size → j ≠ mb → w2.heap[j]? = wa.heap[j]? := fun j hj hne => hgr.block j hj (fun e => hne (Option.some.inj e))
  have hc2 : w2.heap[cb]? = _ := (hkeep cb (heap_lt h1.cells) h.ne.1).trans h1.cells
  have hr2 : w2.ownsRow 0 68 2 (.slice so L.length sc) L.length (kvsU L) := owns_of_heap h1.row (fun g hg => by
    rw [ownBlock_slice] at hg
    exact hkeep g (owns_lt h1.row g hg) (fun e => h.ne.2.2 (by rw [hg, e])))
  have hlen : (setE L g k v).length = L.length := by simp [setE]
  have hkv : kvsU (setE L g k v) = kvsU L := by
    have : ∀ A B : List (Ent Int Int), A.map (fun e => (e.g, e.k)) = B.map (fun e => (e.g, e.k)) → kvsU A = kvsU B := by
      intro A
      induction A with
      | nil => intro B e; cases B with | nil => rfl | cons b B => cases e
      | cons a A ih =>
        intro B e
        cases B with
        | nil => cases e
        | cons b B =>
          simp only [List.map_cons, List.cons.injEq, Prod.mk.injEq] at e
          simp only [kvsU, e.1.1, e.1.2, ih B e.2]
    exact this _ _ (keys_set v hh)
  refine ⟨w2, hrun, (cell_at hc2).trans rfl, (cell_at hc2).trans rfl, ⟨mb, so, sc, _, by rw [hlen]; exact hc2, by rw [hlen]; exact hM, fun g' k' hg' hk' => ?_, by rw [hlen, hkv]; exact hr2, apart_keys (keys_set v hh) h.apart, fun e he => ?_, h.le, h.ne, h.mine⟩, ((hf.mono (fun _ _ h => h.elim)).grown hgr (fun k e hk => by cases e; exact h.mine.2.1))⟩
  · rw [getE_set v hh]
    unfold updF
    by_cases e : g' = g ∧ k' = k
    · obtain ⟨rfl, rfl⟩ := e
      rw [if_pos rfl, if_pos ⟨rfl, rfl⟩]; rfl
    · rw [if_neg (fun e' => e (klitU_inj hg' hk' hg hk e')), if_neg e]
      exact h.agree g' k' hg' hk'
  · rcases List.mem_or_eq_of_mem_set he with he | rfl
    · exact h.wf e he
    · exact ⟨hg, hk⟩

set_option maxHeartbeats 1000000 in
set_option maxRecDepth 100000 in
theorem put_oldA (hh : hasE L g k = true) (h : CACHEA S w cb room L) (hfit : L.length ≤ room) : Calls Try.prog 8 #[.pointer (some ⟨cb, 0, none⟩), .int .i64 g, .int .u64 k, .int .i64 v] w fun e w' => e = .returned (.int .i64 0) ∧ Hid (CACHEA S w' cb room (setE L g k v)) ∧ Hid (Fr S w w') := by
  obtain ⟨mb, so, sc, F, h⟩ := h
  obtain ⟨c0, c1, c2, f⟩ := h.locs
  have hcb := heap_lt h.cells
  have HN := fun w' => noneA w' cb mb
  have hro := h.le
  have hlook : ∀ m, (Instr.lookup 26 (.map (some mb)) (.agg #[.int .i64 g, .int .u64 k]) true).run Try.prog ((w.alloc (.cells #[.int .i64 g, .int .u64 k] 68)).drewN m) = .ok (.tuple #[((getE L g k).map vvA).getD (.int .i64 0), .bool true]) ((w.alloc (.cells #[.int .i64 g, .int .u64 k] 68)).drewN m) := by
    intro m
    have := ((h.map.of_heap (w' := (w.alloc (.cells #[.int .i64 g, .int .u64 k] 68)).drewN m) (Below.heap_alloc _ _ _ h.map.lt)).look lawU Try.underlying26 zeroVA (keyU hg hk)).1
    rw [h.agree g k hg hk, Option.isSome_map, ← hasE_get, hh] at this
    exact this
  have hst := hid (fun m => oldFA S w cb room L g k v hg hk hh mb so sc F h (by omega) ((w.alloc (.cells #[.int .i64 g, .int .u64 k] 68)).drewN (m + 1)) (((Fr.refl _ w).alloc _).drewM (m + 1)))
  obtain ⟨V, hV⟩ : ∃ V, V = ((getE L g k).map vvA).getD (.int .i64 0) := ⟨_, rfl⟩
  rw [← hV] at hlook
  have HN := HN w c1
  have hnb : ¬ (room : Int) < (L.length : Int) := by omega
  clear hV h f hg hk hh
  go_enter Try.func8, Try.ntmps8
  go_wp2_with (first
    | (go_at_call 29; refine HN.out.mono ?_; rintro e w' ⟨rfl, rfl⟩)
    | fail)
  go_quiet (fail)
  obtain ⟨w2, O⟩ := hst.out nq
  have hrun := O.run
  have d0 := O.c0
  have d2 := O.c2
  have O := hid O
  clear hlook hst
  go_wp2_with fail
  go_region
  all_goals go_wp2_with fail
  all_goals go_quiet (fail)
  all_goals go_wp2_with fail
  all_goals go_ret
  all_goals exact ⟨rfl, O.out.fin.kept (Fr.drewM (Fr.refl (fun _ => False) w2) _) (fun _ _ _ h => h), O.out.fr.drewM _⟩

/-- What holds when a value was put at a new key: w1 when the place was appended, w4 when the map has it. -/
structure NewFA (mb : Nat) (so : Option Addr) (sc : Nat) (so' : Option Addr) (sc' : Nat) (w1 w4 : World) : Prop where
  c2 : w1.cell? ⟨cb, 2, none⟩ = some (.slice so L.length sc)
  f2 : w1.frozen? ⟨cb, 2, none⟩ = false
  c1 : (w1.setCell ⟨cb, 2, none⟩ (.slice so' (L.length + 1) sc')).cell? ⟨cb, 1, none⟩ = some (.map (some mb))
  b0 : (w1.setCell ⟨cb, 2, none⟩ (.slice so' (L.length + 1) sc')).cell? ⟨w.heap.size, 0, none⟩ = some (.int .i64 g)
  b1 : (w1.setCell ⟨cb, 2, none⟩ (.slice so' (L.length + 1) sc')).cell? ⟨w.heap.size, 1, none⟩ = some (.int .u64 k)
  run : (Instr.mapUpdate 26 (.map (some mb)) (.agg #[.int .i64 g, .int .u64 k]) (.int .i64 v)).run Try.prog (w1.setCell ⟨cb, 2, none⟩ (.slice so' (L.length + 1) sc')).drew = .ok () w4
  d0 : w4.cell? ⟨cb, 0, none⟩ = some (.int .i64 room)
  d2 : w4.cell? ⟨cb, 2, none⟩ = some (.slice so' (L.length + 1) sc')
  fin : CACHEA S w4 cb room (addE L g k v)
  fr : Fr S w w4
  row : w4.ownsRow 0 68 2 (.slice so' (L.length + 1) sc') (L.length + 1) (kvsU (addE L g k v))

theorem newFA (hS : ∀ k, w.heap.size ≤ k → S k) (hh : hasE L g k = false) (mb : Nat) (so : Option Addr) (sc : Nat) (F : Lit → Option Value) (h : CAtA S w cb mb so sc room F L) (hl : L.length ≤ 1024) (wb w1 : World) (so' : Option Addr) (sc' : Nat)
    (e1 : wb.heap = ((w.alloc (.cells #[.int .i64 g, .int .u64 k] 68)).alloc (.cells #[.int .i64 g, .int .u64 k] 68)).heap) (e2 : wb.os = w.os ∧ wb.tape = w.tape ∧ wb.output = w.output)
    (hown : w1.ownsRow 0 68 2 (.slice so' (L.length + 1) sc') (L.length + 1) (kvsU L ++ [.int .i64 g, .int .u64 k])) (hgr : wb.grownBy w1 (blk so)) (hat : ∀ g, blk so' = some g → blk so = some g ∨ g = wb.heap.size) : ∃ w4, NewFA S w cb room L g k v mb so sc so' sc' w1 w4 := by
  have hsz : wb.heap.size = w.heap.size + 1 + 1 := by rw [e1]; simp
  have hkeep : ∀ j, j < w.heap.size → blk so ≠ some j → w1.heap[j]? = w.heap[j]? := fun j hj hne => (hgr.block j (by omega) (fun e => hne e.symm)).trans (by rw [e1, Below.heap_alloc _ _ _ (by rw [World.size_alloc]; omega)]; exact Below.heap_alloc _ _ _ hj)
  have hcb := heap_lt h.cells
  have hmb := h.map.lt
  have hc1 : w1.heap[cb]? = _ := (hkeep cb hcb h.ne.2.1).trans h.cells
  have hbx : w1.heap[w.heap.size]? = some (.cells #[.int .i64 g, .int .u64 k] 68 (0, 0)) := by
    rw [hgr.block _ (by omega) (fun e => by have := owns_lt h.row w.heap.size e.symm; omega), e1]
    exact (heap2 w _ _).1
  have hso : blk so' ≠ some cb ∧ blk so' ≠ some mb := by
    refine ⟨fun e => ?_, fun e => ?_⟩
    · rcases hat _ e with e' | e'
      · exact h.ne.2.1 e'
      · omega
    · rcases hat _ e with e' | e'
      · exact h.ne.2.2 e'
      · omega
  have hc3 := heap_set (o := 2) hc1 (.slice so' (L.length + 1) sc')
  have hb3 : (w1.setCell ⟨cb, 2, none⟩ (.slice so' (L.length + 1) sc')).heap[w.heap.size]? = _ := (heap_set_ne (a := ⟨cb, 2, none⟩) (fun e => by have : w.heap.size = cb := e; omega) _).trans hbx
  have hm3 : (w1.setCell ⟨cb, 2, none⟩ (.slice so' (L.length + 1) sc')).drew.heap[mb]? = w.heap[mb]? := (heap_set_ne (a := ⟨cb, 2, none⟩) h.ne.1.symm _).trans (hkeep mb hmb h.ne.2.2)
  obtain ⟨w4, hrun, hM, hg4⟩ := (h.map.of_heap hm3).store lawU Try.underlying26 zeroVA (by unfold maxLen; omega) (keyU hg hk) (.int .i64 v)
  have hF : ¬ (F (klitU g k)).isSome = true := by rw [h.agree g k hg hk, Option.isSome_map, ← hasE_get, hh]; simp
  rw [if_neg hF] at hM
  have hc4 : w4.heap[cb]? = _ := (hg4.block cb (heap_lt hc3) (fun e => h.ne.1 (Option.some.inj e))).trans hc3
  have hr3 : (w1.setCell ⟨cb, 2, none⟩ (.slice so' (L.length + 1) sc')).ownsRow 0 68 2 (.slice so' (L.length + 1) sc') (L.length + 1) (kvsU L ++ [.int .i64 g, .int .u64 k]) := owns_of_heap hown (fun j hj => by
    rw [ownBlock_slice] at hj
    exact heap_set_ne (fun e => hso.1 (by rw [hj]; exact congrArg some e)) _)
  have hr4 : w4.ownsRow 0 68 2 (.slice so' (L.length + 1) sc') (L.length + 1) (kvsU (addE L g k v)) := by
    have : kvsU (addE L g k v) = kvsU L ++ [.int .i64 g, .int .u64 k] := by unfold addE; rw [kvsU_append]; rfl
    rw [this]
    refine owns_of_heap hr3 (fun j hj => ?_)
    rw [ownBlock_slice] at hj
    exact hg4.block j (owns_lt hr3 j hj) (fun e => hso.2 (by rw [hj, ← Option.some.inj e]))
  have hlen : (addE L g k v).length = L.length + 1 := by simp [addE]
  have Fb : Fr S w wb := ⟨e2.1, e2.2.1, e2.2.2, by omega, fun j hj _ => by rw [e1, Below.heap_alloc _ _ _ (by rw [World.size_alloc]; omega)]; exact Below.heap_alloc _ _ _ hj⟩
  refine ⟨w4, (cell_at hc1).trans rfl, thawed hc1, (cell_at hc3).trans rfl, (cell_at hb3).trans rfl, (cell_at hb3).trans rfl, hrun, (cell_at hc4).trans rfl, (cell_at hc4).trans rfl, ⟨mb, so', sc', _, by rw [hlen]; exact hc4, by rw [hlen]; exact hM, fun g' k' hg' hk' => ?_, by rw [hlen]; exact hr4, h.apart.add hh v, fun e he => ?_, h.le, ⟨h.ne.1, hso.1, hso.2⟩, h.mine.1, h.mine.2.1, fun j hj => ?_⟩, ?_, hr4⟩
  · rw [getE_add v hh]
    unfold updF
    by_cases e : g' = g ∧ k' = k
    · obtain ⟨rfl, rfl⟩ := e
      rw [if_pos rfl, if_pos ⟨rfl, rfl⟩]; rfl
    · rw [if_neg (fun e' => e (klitU_inj hg' hk' hg hk e')), if_neg e]
      exact h.agree g' k' hg' hk'
  · rcases List.mem_append.1 he with he | he
    · exact h.wf e he
    · obtain rfl := List.mem_singleton.1 he
      exact ⟨hg, hk⟩
  · rcases hat j hj with e | e
    · exact h.mine.2.2 j e
    · exact hS j (by omega)
  · exact (((Fb.grown hgr (fun j e hj => h.mine.2.2 j e)).setCell (fun _ => h.mine.1) _).drew).grown hg4 (fun j e hj => by cases e; exact h.mine.2.1)

set_option maxHeartbeats 4000000 in
set_option maxRecDepth 100000 in
theorem put_newA (L2 : List (Ent Int Int)) (hL2 : L2 = if room < L.length + 1 then (addE L g k v).tail else addE L g k v) (hS : ∀ k, w.heap.size ≤ k → S k) (hh : hasE L g k = false) (h : CACHEA S w cb room L) (hfit : L.length ≤ room) : Calls Try.prog 8 #[.pointer (some ⟨cb, 0, none⟩), .int .i64 g, .int .u64 k, .int .i64 v] w fun e w' => e = .returned (.int .i64 0) ∧
    Hid (CACHEA S w' cb room L2) ∧ Hid (Fr S w w') := by
  have HL := hid hL2
  clear hL2
  obtain ⟨i0, hi, hz0, hz1, hz2⟩ := info_parts Try.info68
  obtain ⟨mb, so, sc, F, h⟩ := h
  obtain ⟨c0, c1, c2, f⟩ := h.locs
  have hcb := heap_lt h.cells
  have hro := h.le
  have HN := noneA w cb mb c1
  have hlook : ∀ m, (Instr.lookup 26 (.map (some mb)) (.agg #[.int .i64 g, .int .u64 k]) true).run Try.prog ((w.alloc (.cells #[.int .i64 g, .int .u64 k] 68)).drewN m) = .ok (.tuple #[.int .i64 0, .bool false]) ((w.alloc (.cells #[.int .i64 g, .int .u64 k] 68)).drewN m) := by
    intro m
    have := ((h.map.of_heap (w' := (w.alloc (.cells #[.int .i64 g, .int .u64 k] 68)).drewN m) (Below.heap_alloc _ _ _ h.map.lt)).look lawU Try.underlying26 zeroVA (keyU hg hk)).1
    have hn : getE L g k = none := by have := hasE_get g k L; rw [hh] at this; cases hx : getE L g k <;> rw [hx] at this <;> first | rfl | cases this
    rw [h.agree g k hg hk, hn] at this
    exact this
  have hrow : Hid (∀ wb : World, wb.heap = ((w.alloc (.cells #[.int .i64 g, .int .u64 k] 68)).alloc (.cells #[.int .i64 g, .int .u64 k] 68)).heap →
      wb.ownsRow 0 68 2 (.slice so L.length sc) L.length (kvsU L) ∧ ∀ ad, some (⟨w.heap.size + 1, 0, none⟩ : Addr) = some ad → ∀ j u, [Value.int .i64 g, .int .u64 k][j]? = some u → wb.cell? (ad.add j) = some u) := by
    intro wb e
    refine ⟨owns_of_heap h.row (fun j hj => ?_), fun ad had j u hu => ?_⟩
    · rw [ownBlock_slice] at hj
      have := owns_lt h.row j hj
      rw [e, Below.heap_alloc _ _ _ (by rw [World.size_alloc]; omega)]
      exact Below.heap_alloc _ _ _ this
    · obtain rfl := Option.some.inj had
      have h2 := (heap2 w (.cells #[.int .i64 g, .int .u64 k] 68) (.cells #[.int .i64 g, .int .u64 k] 68)).2
      rw [← e] at h2
      rw [Addr.add_lit, cell_at h2]
      match j, hu with
      | 0, hu => simpa using hu
      | 1, hu => simpa using hu
  have hend := hid (fun wb w1 so' sc' => newFA S w cb room L g k v hg hk hS hh mb so sc F h (by omega) wb w1 so' sc')
  have hwfA : Hid (∀ e ∈ addE L g k v, (Lit.int .i64 e.g).wf = true ∧ (Lit.int .u64 (e.k)).wf = true) := fun e he => by
    rcases List.mem_append.1 he with he | he
    · exact h.wf e he
    · obtain rfl := List.mem_singleton.1 he
      exact ⟨hg, hk⟩
  have HS := hid hS
  clear h f hg hk hh hS
  go_enter Try.func8, Try.ntmps8
  go_wp2_with (first
    | (go_at_call 29; refine HN.out.mono ?_; rintro e w' ⟨rfl, rfl⟩)
    | fail)
  go_quiet (fail)
  go_upto_if 27 with (fail)
  go_cut [] from 28 to 37 (fun wx => ∃ so' sc' w1 w4, wx = w1.setCell ⟨cb, 2, none⟩ (.slice so' (L.length + 1) sc') ∧ NewFA S w cb room L g k v mb so sc so' sc' w1 w4)
  case first =>
    as_aux_lemma =>
      go_wp2_with fail
      go_region_law (refine step_append_gen rfl (.tmp 32) (.tmp 34) 27 rfl 68 i0 (.agg #[.int .i64 0, .int .u64 0]) 2 16 Try.underlying27 hi hz0 hz1 hz2 rfl (by decide) 0 so L.length sc (kvsU L) (by simp [Act.eval]) (hrow.out _ (by rfl)).1 _ 1 1 [.int .i64 g, .int .u64 k] (by simp [Act.eval]) rfl (fun e => by cases e) (hrow.out _ (by rfl)).2 (by simp [Value.oneCell']) (by unfold maxLen; omega) (by omega) (by simp) ?_; intro so' sc' w1 hown hgr hat; obtain ⟨w4, N⟩ := hend.out _ w1 so' sc' (by rfl) ⟨by rfl, by rfl, by rfl⟩ hown hgr hat; have n2 := N.c2; have nf := N.f2; have N := hid N; clear hown hgr hat)
      all_goals go_wp2_with fail
      all_goals go_meet
      all_goals exact ⟨so', sc', w1, w4, rfl, N.out⟩
  case rest =>
    as_aux_lemma =>
      obtain ⟨so', sc', w1, w4, rfl, N⟩ := hcut
      have n1 := N.c1
      have m0 := N.b0
      have m1 := N.b1
      have hrun := N.run
      have d0 := N.d0
      have d2 := N.d2
      have N := hid N
      clear hlook hrow hend hi hz0 hz1 hz2 c0 c1 c2
      go_upto_region 7 with fail
      go_cut [] from 38 to 43 (fun wx => wx = w4)
      case first =>
        as_aux_lemma =>
          go_wp2_with fail
          go_region
          all_goals go_wp2_with fail
          all_goals go_meet
          all_goals rfl
      case rest =>
        as_aux_lemma =>
          obtain rfl := hcut
          clear n1 m0 m1 hrun
          by_cases hf : room < L.length + 1
          · have hfull : ((room : Int) < (L.length : Int) + 1) := by omega
            have hfull2 : ((room : Int) < ((L.length + 1 : Nat) : Int)) := by omega
            obtain ⟨e0, L', he⟩ : ∃ e0 L', addE L g k v = e0 :: L' := by
              cases hx : addE L g k v with
              | nil => simp [addE] at hx
              | cons a b => exact ⟨a, b, rfl⟩
            have hrow := N.out.row
            rw [he] at hrow
            obtain ⟨b, hb, k1, k2⟩ := kvsU_cells hrow (show (e0 :: L')[0]? = some e0 from rfl)
            subst hb
            simp only [Nat.zero_mul, Nat.zero_add] at k1 k2
            have hC := hid N.out.fin
            have hR := hid N.out.fr
            rw [he] at hC
            have hwf := hwfA.out e0 (by rw [he]; exact List.mem_cons_self)
            have hlc := (owns_len hrow).2.1
            have Hwf := hid hwf
            have HE : Hid (L2 = L') := hid (by rw [HL.out, if_pos hf, he, List.tail_cons])
            clear HL
            clear hrow hwfA hf N hwf hfit hro he
            go_wp2_with fail
            go_quiet (fail)
            go_wp2_with fail
            have e2 : (World.drewN _ nq).cell? ⟨cb, 2, none⟩ = _ := d2
            have e3 : (World.drewN _ nq).cell? ⟨b, 0, none⟩ = _ := k1
            have e4 : (World.drewN _ nq).cell? ⟨b, 1, none⟩ = _ := k2
            have hC2 := hid (hC.out.kept (Fr.drewM (Fr.refl (fun _ => False) _) nq) (fun _ _ _ h => h))
            have hR2 := hid (hR.out.drewM nq)
            clear d0 d2 k1 k2 hC hR
            generalize World.drewN _ nq = w5 at *
            refine wp_region_still_tail 15 (by kernel_rfl) (by kernel_rfl) ?_
            simp only [List.take_succ_cons, List.take_zero, List.drop_succ_cons, List.drop_zero]
            change wpStill _ _ (World.drew w5) (fun a' => wpList _ _ _ _ a' (World.drew w5)) _ _
            repeat still_step
            refine wpStill_nil ?_
            go_wp2_with (first
              | (go_at_call 9; refine (drop_yesA S _ cb room (e0 :: L') e0.g e0.k Hwf.out.1 Hwf.out.2 (by simp [hasE, isE]) (hC2.out.kept (Fr.drew (Fr.refl (fun _ => False) w5)) (fun _ _ _ h => h))).mono ?_; rintro e w6 ⟨rfl, C6, F6⟩; rw [cutE_head] at C6)
              | fail)
            go_ret
            exact ⟨rfl, by rw [HE.out]; exact C6, hR2.out.drew.trans F6.out⟩
          · have hnf : ¬ ((room : Int) < (L.length : Int) + 1) := by omega
            have hnf2 : ¬ ((room : Int) < ((L.length + 1 : Nat) : Int)) := by omega
            have HE : Hid (L2 = addE L g k v) := hid (by rw [HL.out, if_neg hf])
            clear HL
            clear hf hwfA hfit hro
            go_wp2_with fail
            go_quiet (fail)
            go_wp2_with fail
            go_ret
            exact ⟨rfl, by rw [HE.out]; exact N.out.fin.kept (Fr.drewM (Fr.refl (fun _ => False) _) _) (fun _ _ _ h => h), N.out.fr.drewM _⟩

theorem putA (hS : ∀ k, w.heap.size ≤ k → S k) (h : CACHEA S w cb room L) (hfit : L.length ≤ room) : Calls Try.prog 8 #[.pointer (some ⟨cb, 0, none⟩), .int .i64 g, .int .u64 k, .int .i64 v] w fun e w' => e = .returned (.int .i64 0) ∧
    Hid (CACHEA S w' cb room (putE room L g k v)) ∧ Hid (Fr S w w') := by
  cases hh : hasE L g k with
  | true =>
    have := put_oldA S w cb room L g k v hg hk hh h hfit
    unfold putE
    rw [if_pos hh]
    exact this
  | false =>
    have := put_newA S w cb room L g k v hg hk _ rfl hS hh h hfit
    unfold putE
    rw [if_neg (by rw [hh]; decide)]
    exact this
end
end Go.Proofs.Ytelbbfogeimekaa

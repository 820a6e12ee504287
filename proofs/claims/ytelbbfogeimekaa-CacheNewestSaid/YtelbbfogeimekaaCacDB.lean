/-
  A cache's Drop. No conditions.
-/
import Derived.Test.YtelbbfogeimekaaCacB
namespace Go.Proofs.Ytelbbfogeimekaa
open Go.RowKit

/-- What holds while a key is dropped: w1 when the key was found, w2 when it has left the map. -/
structure DropFB (S : Nat → Prop) (w : World) (cb room : Nat) (L : List (Ent ByteArray (Int × Int))) (g : Int) (k : ByteArray) (mb : Nat) (so : Option Addr) (sc : Nat) (w1 w2 : World) : Prop where
  c1 : w1.cell? ⟨cb, 1, none⟩ = some (.map (some mb))
  lt : cb < w1.heap.size
  run : (Builtin.delete_ #[75, 80] 0 #[.map (some mb), .agg #[.int .i64 g, .string k]]).run Try.prog (w1.alloc (.cells #[.int .i64 g, .string k] 80)).drew = .ok (.tuple #[]) w2
  c2 : w2.cell? ⟨cb, 2, none⟩ = some (.slice so L.length sc)
  b0 : w2.cell? ⟨w1.heap.size, 0, none⟩ = some (.int .i64 g)
  b1 : w2.cell? ⟨w1.heap.size, 1, none⟩ = some (.string k)
  idx : ∀ w3 : World, Fr (fun _ => False) w2 w3 → w3.cell? ⟨cb, 2, none⟩ = some (.slice so L.length sc) ∧ w3.ownsRow 0 80 2 (.slice so L.length sc) L.length (kvsS L)
  fin : ∀ w3 w4 : World, Fr (fun _ => False) w2 w3 → w4.ownsRow 0 80 2 (.slice so (L.length - 1) sc) (L.length - 1) ((kvsS L).take (idxE L g k * 2) ++ (kvsS L).drop ((idxE L g k + 1) * 2)) → w3.grownBy w4 (blk so) →
    (w4.cell? ⟨cb, 2, none⟩ = some (.slice so L.length sc) ∧ w4.frozen? ⟨cb, 2, none⟩ = false) ∧ CACHEB S (w4.setCell ⟨cb, 2, none⟩ (.slice so (L.length - 1) sc)) cb room (cutE L g k) ∧ Fr S w (w4.setCell ⟨cb, 2, none⟩ (.slice so (L.length - 1) sc))

section
variable (S : Nat → Prop) (w : World) (cb room : Nat) (L : List (Ent ByteArray (Int × Int))) (g : Int) (k : ByteArray) (hg : (Lit.int .i64 g).wf = true) (hk : (k).size ≤ maxLen) (hh : hasE L g k = true)
include hg hk hh

theorem dropFB (mb : Nat) (so : Option Addr) (sc : Nat) (F : Lit → Option Value) (h : CAtB S w cb mb so sc room F L) (w1 : World) (hf : Fr (fun _ => False) w w1) : ∃ w2, DropFB S w cb room L g k mb so sc w1 w2 := by
  have h1 : CAtB S w1 cb mb so sc room F L := h.of_heap (fun k hk _ => hf.block k hk (fun h => h))
  have hcb := heap_lt h1.cells
  have hmb := h1.map.lt
  have hbox := heap_alloc_new w1 (.cells #[.int .i64 g, .string k] 80)
  have hold : ∀ j, j < w1.heap.size → (w1.alloc (.cells #[.int .i64 g, .string k] 80)).drew.heap[j]? = w1.heap[j]? := fun j hj => Below.heap_alloc _ _ _ hj
  obtain ⟨w2, hrun, hM, hgr⟩ := (h1.map.of_heap (w' := (w1.alloc (.cells #[.int .i64 g, .string k] 80)).drew) (hold mb hmb)).drop lawS Try.underlying75 zeroVB (keyS hg hk) 0
  have hsz : (w1.alloc (.cells #[.int .i64 g, .string k] 80)).drew.heap.size = w1.heap.size + 1 := by show (w1.alloc _).heap.size = _; simp
  have hkeep : ∀ j, j < w1.heap.size → j ≠ mb → w2.heap[j]? = w1.heap[j]? := fun j hj hne => (hgr.block j (by omega) (fun e => hne (Option.some.inj e))).trans (hold j hj)
  have hbx2 : w2.heap[w1.heap.size]? = some (.cells #[.int .i64 g, .string k] 80 (0, 0)) := (hgr.block _ (by omega) (fun e => by have := Option.some.inj e; omega)).trans hbox
  have hc2 : w2.heap[cb]? = some (.cells #[.int .i64 room, .map (some mb), .slice so L.length sc] 78 (0, 0)) := (hkeep cb hcb h.ne.1).trans h1.cells
  have hr2 : w2.ownsRow 0 80 2 (.slice so L.length sc) L.length (kvsS L) := owns_of_heap h1.row (fun g hg => by
    rw [ownBlock_slice] at hg
    exact hkeep g (owns_lt h1.row g hg) (fun e => h.ne.2.2 (by rw [hg, e])))
  have hF : (F (klitS g k)).isSome = true := by rw [h.agree g k hg hk, Option.isSome_map, ← hasE_get]; exact hh
  rw [if_pos hF] at hM
  refine ⟨w2, h1.locs.2.1, hcb, hrun, (cell_at hc2).trans rfl, (cell_at hbx2).trans rfl, (cell_at hbx2).trans rfl, fun w3 F3 => ⟨(F3.cell (p := ⟨cb, 2, none⟩) (heap_lt hc2) (fun h => h)).trans ((cell_at hc2).trans rfl), owns_of_heap hr2 (fun g hg => F3.block g (owns_lt hr2 g (by rw [← ownBlock_slice]; exact hg)) (fun h => h))⟩, fun w3 w4 F3 hrow hgr4 => ?_⟩
  have hc3 : w3.heap[cb]? = _ := (F3.block cb (heap_lt hc2) (fun h => h)).trans hc2
  have hc4 : w4.heap[cb]? = _ := (hgr4.block cb (heap_lt hc3) (fun e => h.ne.2.1 e.symm)).trans hc3
  have hm2 := hM.lt
  have hm3 : w3.heap[mb]? = w2.heap[mb]? := F3.block mb hm2 (fun h => h)
  have hm4 : w4.heap[mb]? = w2.heap[mb]? := (hgr4.block mb (Nat.lt_of_lt_of_le hm2 F3.size) (fun e => h.ne.2.2 e.symm)).trans hm3
  refine ⟨⟨(cell_at hc4).trans rfl, thawed hc4⟩, ⟨mb, so, sc, _, ?_, (hM.of_heap (w' := w4.setCell ⟨cb, 2, none⟩ (.slice so (L.length - 1) sc)) ?_) |> (fun x => by rw [cut_length hh]; exact x), fun g' k' hg' hk' => ?_, ?_, h.apart.cut, fun e he => h.wf e (List.mem_of_mem_eraseIdx he), h.le, h.ne, h.mine⟩, ?_⟩
  · rw [cut_length hh, heap_set hc4]; rfl
  · rw [heap_set_ne h.ne.1.symm]; exact hm4
  · rw [getE_cut h.apart]
    unfold updF
    by_cases e : g' = g ∧ k' = k
    · obtain ⟨rfl, rfl⟩ := e
      rw [if_pos rfl, if_pos ⟨rfl, rfl⟩]; rfl
    · rw [if_neg (fun e' => e (klitS_inj hg' hk' hg hk e')), if_neg e]
      exact h.agree g' k' hg' hk'
  · rw [cut_length hh]
    have := kvsS_erase L (idxE L g k) (idxE_lt hh)
    rw [this] at hrow
    refine owns_of_heap hrow (fun g hg => ?_)
    rw [ownBlock_slice] at hg
    exact heap_set_ne (fun e => h.ne.2.1 (by rw [hg]; exact congrArg some e)) _
  · have FA : Fr S w (w1.alloc (.cells #[.int .i64 g, .string k] 80)).drew := ((hf.mono (fun _ _ h => h.elim)).alloc _).drew
    have FB : Fr S w w2 := FA.grown hgr (fun k e hk => by cases e; exact h.mine.2.1)
    have FC : Fr S w w3 := FB.then F3 (fun _ _ h => h.elim)
    exact (FC.grown hgr4 (fun k e hk => h.mine.2.2 k e)).setCell (fun _ => h.mine.1) _

set_option maxHeartbeats 1000000 in
set_option maxRecDepth 100000 in
theorem drop_yesB (h : CACHEB S w cb room L) : Calls Try.prog 35 #[.pointer (some ⟨cb, 0, none⟩), .int .i64 g, .string k] w fun e w' => e = .returned (.bool true) ∧ Hid (CACHEB S w' cb room (cutE L g k)) ∧ Hid (Fr S w w') := by
  have HG := getB S w cb room L h g k hg hk
  obtain ⟨mb, so, sc, F, h⟩ := h
  have hD := hid (fun w1 hf => dropFB S w cb room L g k hg hk hh mb so sc F h w1 hf)
  rw [hh] at HG
  have Hh := hid hh
  have hlen := hid (idxE_lt hh)
  have hml : L.length ≤ 9223372036854775807 := by
    have h1 := owns_len h.row
    unfold maxLen at h1
    omega
  obtain ⟨q, hq⟩ : ∃ q, q = idxE L g k := ⟨_, rfl⟩
  have hqb : q ≤ 9223372036854775806 := by have := hlen.out; omega
  have Hq := hid hq
  clear h hg hk hh hq
  obtain ⟨V1, V2, hV⟩ : ∃ V1 V2 : Int, ((getE L g k).map vvB).getD (.agg #[.int .i64 0, .int .i64 0]) = .agg #[.int .i64 V1, .int .i64 V2] := by
    cases getE L g k with
    | none => exact ⟨_, _, rfl⟩
    | some v => exact ⟨_, _, rfl⟩
  rw [hV] at HG
  clear hV
  go_enter Try.func35, Try.ntmps35
  go_wp2_with (first
    | (go_at_call 22; refine HG.out.mono ?_; rintro e w1 ⟨rfl, F1⟩; obtain ⟨w2, D⟩ := hD.out (w1.alloc (.cells #[.int .i64 V1, .int .i64 V2] 54)) (F1.out.alloc _); obtain ⟨w9, D9⟩ := hD.out w1 F1.out; have c1 := D9.c1; have lt := D9.lt; clear D9)
    | fail)
  have c2 := D.c2
  have b0 := D.b0
  have b1 := D.b1
  simp only [World.size_alloc] at b0 b1
  have D := hid D
  go_region_law (refine step_delete rfl (.tmp 26) (.tmp 27) 75 80 rfl mb (.agg #[.int .i64 g, .string k]) (by simp [Act.eval]) (by simp [Act.eval]) w2 D.out.run ?_)
  all_goals go_wp2_with fail
  all_goals go_region_with (first
    | (go_at_call 39; refine (indexS w2.drew so L.length sc L (D.out.idx _ (Fr.drew (Fr.refl _ w2))).2 g k Hh.out).mono ?_; rintro e w3 ⟨rfl, F3⟩; rw [← Hq.out]; obtain ⟨k2, r3⟩ := D.out.idx w3 ((Fr.drew (Fr.refl _ w2)).then F3.out (fun _ _ h => h)); have R3 := hid r3; clear r3))
  all_goals go_wp2_with (first
    | (go_at_call 40; refine (deleteS w3 so L.length sc q (kvsS L) R3.out (kvsS_one L) (by rw [Hq.out]; exact hlen.out)).mono ?_; rintro e w4 ⟨rfl, R4, G4⟩; rw [Hq.out] at R4; obtain ⟨⟨q2, f2⟩, C4, F4⟩ := D.out.fin w3 w4 ((Fr.drew (Fr.refl _ w2)).then F3.out (fun _ _ h => h)) R4.out G4.out; have C4 := hid C4; have F4 := hid F4)
    | fail)
  all_goals go_ret
  all_goals exact ⟨rfl, C4, F4⟩
end

set_option maxHeartbeats 400000 in
theorem drop_noB (S : Nat → Prop) (w : World) (cb room : Nat) (L : List (Ent ByteArray (Int × Int))) (g : Int) (k : ByteArray) (hg : (Lit.int .i64 g).wf = true) (hk : (k).size ≤ maxLen) (hh : hasE L g k = false) (h : CACHEB S w cb room L) :
    Calls Try.prog 35 #[.pointer (some ⟨cb, 0, none⟩), .int .i64 g, .string k] w fun e w' => e = .returned (.bool false) ∧ Hid (Fr (fun _ => False) w w') := by
  have HG := getB S w cb room L h g k hg hk
  rw [hh] at HG
  obtain ⟨V1, V2, hV⟩ : ∃ V1 V2 : Int, ((getE L g k).map vvB).getD (.agg #[.int .i64 0, .int .i64 0]) = .agg #[.int .i64 V1, .int .i64 V2] := by
    cases getE L g k with
    | none => exact ⟨_, _, rfl⟩
    | some v => exact ⟨_, _, rfl⟩
  rw [hV] at HG
  clear hV h hg hk hh
  go_enter Try.func35, Try.ntmps35
  go_wp2_with (first
    | (go_at_call 22; refine HG.out.mono ?_; rintro e w1 ⟨rfl, F1⟩)
    | fail)
  go_ret
  exact ⟨rfl, F1.out.alloc _⟩

/-- Drop, whether the key is kept or not. -/
theorem dropB (S : Nat → Prop) (w : World) (cb room : Nat) (L : List (Ent ByteArray (Int × Int))) (g : Int) (k : ByteArray) (hg : (Lit.int .i64 g).wf = true) (hk : (k).size ≤ maxLen) (h : CACHEB S w cb room L) :
    Calls Try.prog 35 #[.pointer (some ⟨cb, 0, none⟩), .int .i64 g, .string k] w fun e w' => e = .returned (.bool (hasE L g k)) ∧ Hid (CACHEB S w' cb room (dropE L g k)) ∧ Hid (Fr S w w') := by
  unfold dropE
  cases hh : hasE L g k with
  | true =>
    simp only [↓reduceIte]
    exact drop_yesB S w cb room L g k hg hk hh h
  | false =>
    simp only [Bool.false_eq_true, ↓reduceIte]
    refine (drop_noB S w cb room L g k hg hk hh h).mono ?_
    rintro e w' ⟨he, hf⟩
    exact ⟨he, h.kept hf.out (fun _ _ _ h => h), hf.out.mono (fun _ _ h => h.elim)⟩
end Go.Proofs.Ytelbbfogeimekaa

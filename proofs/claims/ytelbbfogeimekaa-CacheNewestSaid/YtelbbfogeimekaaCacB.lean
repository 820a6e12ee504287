/-
  A cache in memory, and its functions: none, Get, Len, Drop. No conditions.
-/
import Derived.Test.YtelbbfogeimekaaPlcKS
import Derived.Deep.RegionWith
import Derived.Laws.ResultCell
import Derived.Laws.Rows
namespace Go.Proofs.Ytelbbfogeimekaa
open Go.RowKit

theorem results_cell_pair {P : Program} {fn : Func} {p u : Tmp} {ty : TypeId} (h : fn.results = #[.cell p ty, .tmp u]) (tmps : Array Value) (w : World) (g : Nat) (t : TypeId) (cs : Array Value) (fr : Nat × Nat) (d : TypeDesc)
    (hp : tmps.getD p undef = .pointer (some ⟨g, 0, none⟩)) (hg : w.heap[g]? = some (.cells cs t fr)) (hu : P.underlying ty = some d) (hd : (match d with | .struct _ | .array _ _ => true | _ => false) = true) (hi : (P.info? ty).map (·.size) = some cs.size) :
    (results fn tmps).run P w = .ok (.tuple #[.agg cs, tmps.getD u undef]) w := by
  rw [results_cell_tmp h, hp]
  simp [asAddr, run_loadVar_row w g t ty cs fr d hg hu hd hi, Result.andThen]

def vvB (v : (Int × Int)) : Value := .agg #[.int .i64 v.1, .int .i64 v.2]

structure CAtB (S : Nat → Prop) (w : World) (cb mb : Nat) (so : Option Addr) (sc : Nat) (room : Nat) (F : Lit → Option Value) (L : List (Ent ByteArray (Int × Int))) : Prop where
  cells : w.heap[cb]? = some (.cells #[.int .i64 room, .map (some mb), .slice so L.length sc] 78 (0, 0))
  map : MAPF Try.prog 80 w mb F L.length
  agree : ∀ g k, (Lit.int .i64 g).wf = true → (k).size ≤ maxLen → F (klitS g k) = (getE L g k).map vvB
  row : w.ownsRow 0 80 2 (.slice so L.length sc) L.length (kvsS L)
  apart : ApartE L
  wf : ∀ e ∈ L, (Lit.int .i64 e.g).wf = true ∧ (e.k).size ≤ maxLen
  le : room ≤ 1024
  ne : cb ≠ mb ∧ blk so ≠ some cb ∧ blk so ≠ some mb
  mine : S cb ∧ S mb ∧ ∀ g, blk so = some g → S g

def CACHEB (S : Nat → Prop) (w : World) (cb room : Nat) (L : List (Ent ByteArray (Int × Int))) : Prop := ∃ mb so sc F, CAtB S w cb mb so sc room F L

section
variable {S T : Nat → Prop} {w w' : World} {cb mb : Nat} {so : Option Addr} {sc room : Nat} {F : Lit → Option Value} {L : List (Ent ByteArray (Int × Int))}

theorem CAtB.of_heap (h : CAtB S w cb mb so sc room F L) (hb : ∀ k, k < w.heap.size → S k → w'.heap[k]? = w.heap[k]?) : CAtB S w' cb mb so sc room F L :=
  ⟨by rw [hb cb (heap_lt h.cells) h.mine.1]; exact h.cells, h.map.of_heap (hb mb h.map.lt h.mine.2.1), h.agree, owns_of_heap h.row (fun g hg => by rw [ownBlock_slice] at hg; exact hb g (owns_lt h.row g hg) (h.mine.2.2 g hg)), h.apart, h.wf, h.le, h.ne, h.mine⟩

theorem CACHEB.kept (h : CACHEB S w cb room L) (hf : Fr T w w') (hT : ∀ k, k < w.heap.size → S k → ¬ T k) : CACHEB S w' cb room L := by
  obtain ⟨mb, so, sc, F, h⟩ := h
  exact ⟨mb, so, sc, F, h.of_heap (fun k hk hs => hf.block k hk (hT k hk hs))⟩

theorem CACHEB.mono (h : CACHEB S w cb room L) (hT : ∀ k, k < w.heap.size → S k → T k) : CACHEB T w cb room L := by
  obtain ⟨mb, so, sc, F, h⟩ := h
  exact ⟨mb, so, sc, F, h.cells, h.map, h.agree, h.row, h.apart, h.wf, h.le, h.ne, hT _ (heap_lt h.cells) h.mine.1, hT _ h.map.lt h.mine.2.1, fun g hg => hT g (owns_lt h.row g hg) (h.mine.2.2 g hg)⟩

theorem CACHEB.lt (h : CACHEB S w cb room L) : cb < w.heap.size := by
  obtain ⟨mb, so, sc, F, h⟩ := h
  exact heap_lt h.cells

theorem CAtB.locs (h : CAtB S w cb mb so sc room F L) : w.cell? ⟨cb, 0, none⟩ = some (.int .i64 room) ∧ w.cell? ⟨cb, 1, none⟩ = some (.map (some mb)) ∧ w.cell? ⟨cb, 2, none⟩ = some (.slice so L.length sc) ∧ ∀ o, w.frozen? ⟨cb, o, none⟩ = false :=
  ⟨(cell_at h.cells).trans rfl, (cell_at h.cells).trans rfl, (cell_at h.cells).trans rfl, fun _ => thawed h.cells⟩
end

theorem zeroVB (w : World) : (zeroValue 54).run Try.prog w = .ok (.agg #[.int .i64 0, .int .i64 0]) w := by kernel_rfl

set_option maxHeartbeats 400000 in
theorem noneB (w : World) (cb mb : Nat) (c1 : w.cell? ⟨cb, 1, none⟩ = some (.map (some mb))) : Hid (Calls Try.prog 34 #[.pointer (some ⟨cb, 0, none⟩)] w fun e w' => e = .returned (.bool false) ∧ w = w') := by
  have he : ∀ (w : World) (r : Option Nat), (binOp .eql 75 (.map r) (.map none)).run Try.prog w = .ok (.bool r.isNone) w := fun w r => run_eql_map_nil w _ _ _ r Try.underlying75
  unfold Hid
  go_enter Try.func34, Try.ntmps34
  go_wp2
  go_ret
  exact ⟨rfl, rfl⟩

section
variable (S : Nat → Prop) (w : World) (cb room : Nat) (L : List (Ent ByteArray (Int × Int))) (h : CACHEB S w cb room L)
include h

set_option maxHeartbeats 400000 in
theorem lenB : Hid (Calls Try.prog 21 #[.pointer (some ⟨cb, 0, none⟩)] w fun e w' => e = .returned (.int .i64 L.length) ∧ w = w') := by
  obtain ⟨mb, so, sc, F, h⟩ := h
  obtain ⟨c0, c1, c2, f⟩ := h.locs
  have HN := noneB w cb mb c1
  have hl := hid (fun ty => h.map.len Try.underlying75 ty)
  clear h f
  unfold Hid
  go_enter Try.func21, Try.ntmps21
  go_wp2_with (first
    | (go_at_call 34; refine HN.out.mono ?_; rintro e w' ⟨rfl, rfl⟩)
    | (at_len; refine wpList_len_F rfl (.tmp 8) 75 rfl mb L.length (by simp [Act.eval]) hl.out ?_)
    | fail)
  go_ret
  exact ⟨rfl, rfl⟩

set_option maxHeartbeats 400000 in
theorem getB (g : Int) (k : ByteArray) (hg : (Lit.int .i64 g).wf = true) (hk : (k).size ≤ maxLen) : Hid (Calls Try.prog 22 #[.pointer (some ⟨cb, 0, none⟩), .int .i64 g, .string k] w fun e w' => e = .returned (.tuple #[((getE L g k).map vvB).getD (.agg #[.int .i64 0, .int .i64 0]), .bool (hasE L g k)]) ∧ Hid (Fr (fun _ => False) w w')) := by
  obtain ⟨mb, so, sc, F, h⟩ := h
  have h := h.of_heap (w' := w.alloc (.cells #[.int .i64 0, .int .i64 0] 54)) (fun k hk _ => Below.heap_alloc _ _ _ hk)
  obtain ⟨c0, c1, c2, f⟩ := h.locs
  have HN := noneB _ cb mb c1
  have hl := (h.map.look lawS Try.underlying75 zeroVB (keyS hg hk)).1
  rw [h.agree g k hg hk, Option.isSome_map] at hl
  rw [hasE_get]
  clear h f hg hk
  unfold Hid
  cases hx : getE L g k with
  | none =>
    rw [hx] at hl
    simp only [Option.map_none, Option.getD_none, Option.isSome_none] at hl ⊢
    clear hx
    go_enter Try.func22, Try.ntmps22
    go_wp2_with (go_at_call 34; refine HN.out.mono ?_; rintro e w' ⟨rfl, rfl⟩)
    exact bodyPost_ret (results_cell_pair rfl _ _ w.heap.size 54 #[.int .i64 0, .int .i64 0] (0, 0) _ rfl (heap2 w _ _).1 Try.underlying54 rfl (by kernel_rfl)) rfl ⟨rfl, ((Fr.refl _ w).alloc _).alloc _⟩
  | some v =>
    rw [hx] at hl
    simp only [Option.map_some, Option.getD_some, Option.isSome_some, vvB] at hl ⊢
    clear hx
    go_enter Try.func22, Try.ntmps22
    go_wp2_with (go_at_call 34; refine HN.out.mono ?_; rintro e w' ⟨rfl, rfl⟩)
    exact bodyPost_ret (results_cell_pair rfl _ _ w.heap.size 54 #[.int .i64 v.1, .int .i64 v.2] (0, 0) _ rfl (heap2 w _ _).1 Try.underlying54 rfl (by kernel_rfl)) rfl ⟨rfl, ((Fr.refl _ w).alloc _).alloc _⟩
end
end Go.Proofs.Ytelbbfogeimekaa

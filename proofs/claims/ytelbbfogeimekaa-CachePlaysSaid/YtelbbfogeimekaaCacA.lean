/-
  A cache in memory, and its functions: none, Get, Len, Drop. No conditions.
-/
import Derived.Test.YtelbbfogeimekaaPlcKU
import Derived.Deep.RegionWith
namespace Go.Proofs.Ytelbbfogeimekaa
open Go.RowKit

def vvA (v : Int) : Value := .int .i64 v

structure CAtA (S : Nat → Prop) (w : World) (cb mb : Nat) (so : Option Addr) (sc : Nat) (room : Nat) (F : Lit → Option Value) (L : List (Ent Int Int)) : Prop where
  cells : w.heap[cb]? = some (.cells #[.int .i64 room, .map (some mb), .slice so L.length sc] 29 (0, 0))
  map : MAPF Try.prog 68 w mb F L.length
  agree : ∀ g k, (Lit.int .i64 g).wf = true → (Lit.int .u64 (k)).wf = true → F (klitU g k) = (getE L g k).map vvA
  row : w.ownsRow 0 68 2 (.slice so L.length sc) L.length (kvsU L)
  apart : ApartE L
  wf : ∀ e ∈ L, (Lit.int .i64 e.g).wf = true ∧ (Lit.int .u64 (e.k)).wf = true
  le : room ≤ 1024
  ne : cb ≠ mb ∧ blk so ≠ some cb ∧ blk so ≠ some mb
  mine : S cb ∧ S mb ∧ ∀ g, blk so = some g → S g

def CACHEA (S : Nat → Prop) (w : World) (cb room : Nat) (L : List (Ent Int Int)) : Prop := ∃ mb so sc F, CAtA S w cb mb so sc room F L

section
variable {S T : Nat → Prop} {w w' : World} {cb mb : Nat} {so : Option Addr} {sc room : Nat} {F : Lit → Option Value} {L : List (Ent Int Int)}

theorem CAtA.of_heap (h : CAtA S w cb mb so sc room F L) (hb : ∀ k, k < w.heap.size → S k → w'.heap[k]? = w.heap[k]?) : CAtA S w' cb mb so sc room F L :=
  ⟨by rw [hb cb (heap_lt h.cells) h.mine.1]; exact h.cells, h.map.of_heap (hb mb h.map.lt h.mine.2.1), h.agree, owns_of_heap h.row (fun g hg => by rw [ownBlock_slice] at hg; exact hb g (owns_lt h.row g hg) (h.mine.2.2 g hg)), h.apart, h.wf, h.le, h.ne, h.mine⟩

theorem CACHEA.kept (h : CACHEA S w cb room L) (hf : Fr T w w') (hT : ∀ k, k < w.heap.size → S k → ¬ T k) : CACHEA S w' cb room L := by
  obtain ⟨mb, so, sc, F, h⟩ := h
  exact ⟨mb, so, sc, F, h.of_heap (fun k hk hs => hf.block k hk (hT k hk hs))⟩

theorem CACHEA.mono (h : CACHEA S w cb room L) (hT : ∀ k, k < w.heap.size → S k → T k) : CACHEA T w cb room L := by
  obtain ⟨mb, so, sc, F, h⟩ := h
  exact ⟨mb, so, sc, F, h.cells, h.map, h.agree, h.row, h.apart, h.wf, h.le, h.ne, hT _ (heap_lt h.cells) h.mine.1, hT _ h.map.lt h.mine.2.1, fun g hg => hT g (owns_lt h.row g hg) (h.mine.2.2 g hg)⟩

theorem CACHEA.lt (h : CACHEA S w cb room L) : cb < w.heap.size := by
  obtain ⟨mb, so, sc, F, h⟩ := h
  exact heap_lt h.cells

theorem CAtA.locs (h : CAtA S w cb mb so sc room F L) : w.cell? ⟨cb, 0, none⟩ = some (.int .i64 room) ∧ w.cell? ⟨cb, 1, none⟩ = some (.map (some mb)) ∧ w.cell? ⟨cb, 2, none⟩ = some (.slice so L.length sc) ∧ ∀ o, w.frozen? ⟨cb, o, none⟩ = false :=
  ⟨(cell_at h.cells).trans rfl, (cell_at h.cells).trans rfl, (cell_at h.cells).trans rfl, fun _ => thawed h.cells⟩
end

theorem zeroVA (w : World) : (zeroValue 3).run Try.prog w = .ok (.int .i64 0) w := by kernel_rfl

set_option maxHeartbeats 400000 in
theorem noneA (w : World) (cb mb : Nat) (c1 : w.cell? ⟨cb, 1, none⟩ = some (.map (some mb))) : Hid (Calls Try.prog 29 #[.pointer (some ⟨cb, 0, none⟩)] w fun e w' => e = .returned (.bool false) ∧ w = w') := by
  have he : ∀ (w : World) (r : Option Nat), (binOp .eql 26 (.map r) (.map none)).run Try.prog w = .ok (.bool r.isNone) w := fun w r => run_eql_map_nil w _ _ _ r Try.underlying26
  unfold Hid
  go_enter Try.func29, Try.ntmps29
  go_wp2
  go_ret
  exact ⟨rfl, rfl⟩

section
variable (S : Nat → Prop) (w : World) (cb room : Nat) (L : List (Ent Int Int)) (h : CACHEA S w cb room L)
include h

set_option maxHeartbeats 400000 in
theorem lenA : Hid (Calls Try.prog 11 #[.pointer (some ⟨cb, 0, none⟩)] w fun e w' => e = .returned (.int .i64 L.length) ∧ w = w') := by
  obtain ⟨mb, so, sc, F, h⟩ := h
  obtain ⟨c0, c1, c2, f⟩ := h.locs
  have HN := noneA w cb mb c1
  have hl := hid (fun ty => h.map.len Try.underlying26 ty)
  clear h f
  unfold Hid
  go_enter Try.func11, Try.ntmps11
  go_wp2_with (first
    | (go_at_call 29; refine HN.out.mono ?_; rintro e w' ⟨rfl, rfl⟩)
    | (at_len; refine wpList_len_F rfl (.tmp 8) 26 rfl mb L.length (by simp [Act.eval]) hl.out ?_)
    | fail)
  go_ret
  exact ⟨rfl, rfl⟩

set_option maxHeartbeats 400000 in
theorem getA (g : Int) (k : Int) (hg : (Lit.int .i64 g).wf = true) (hk : (Lit.int .u64 (k)).wf = true) : Hid (Calls Try.prog 7 #[.pointer (some ⟨cb, 0, none⟩), .int .i64 g, .int .u64 k] w fun e w' => e = .returned (.tuple #[((getE L g k).map vvA).getD (.int .i64 0), .bool (hasE L g k)]) ∧ Hid (Fr (fun _ => False) w w')) := by
  obtain ⟨mb, so, sc, F, h⟩ := h
  obtain ⟨c0, c1, c2, f⟩ := h.locs
  have HN := noneA w cb mb c1
  have hl := (h.map.look lawU Try.underlying26 zeroVA (keyU hg hk)).1
  rw [h.agree g k hg hk, Option.isSome_map] at hl
  rw [hasE_get]
  clear h f hg hk
  unfold Hid
  cases hx : getE L g k with
  | none =>
    rw [hx] at hl
    simp only [Option.map_none, Option.getD_none, Option.isSome_none] at hl ⊢
    clear hx
    go_enter Try.func7, Try.ntmps7
    go_wp2_with (go_at_call 29; refine HN.out.mono ?_; rintro e w' ⟨rfl, rfl⟩)
    go_ret2
    exact ⟨rfl, Fr.refl _ _⟩
  | some v =>
    rw [hx] at hl
    simp only [Option.map_some, Option.getD_some, Option.isSome_some, vvA] at hl ⊢
    clear hx
    go_enter Try.func7, Try.ntmps7
    go_wp2_with (go_at_call 29; refine HN.out.mono ?_; rintro e w' ⟨rfl, rfl⟩)
    go_ret2
    exact ⟨rfl, Fr.refl _ _⟩
end
end Go.Proofs.Ytelbbfogeimekaa

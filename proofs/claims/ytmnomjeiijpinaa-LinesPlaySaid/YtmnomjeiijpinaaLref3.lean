/-
  The reference's lines, made new. No conditions.
-/
import Derived.Test.YtmnomjeiijpinaaLref2
namespace Go.Proofs.Ytmnomjeiijpinaa
open Go.RowKit Go.Conc

theorem Try.info59 : (Try.prog.info? 59).map (fun i => (i.zero, i.size, i.bytes)) = some (some (.agg #[.slice none 0 0, .int .u64 0, .int .u64 0, .bool false]), 4, 48) := by kernel_rfl

theorem made4 (z0 z1 z2 z3 : Value) (n i k : Nat) (hi : i < n) (hk : k < 4) : (madeCells #[z0, z1, z2, z3] (n * 4))[i * 4 + k]? = #[z0, z1, z2, z3][k]? := by
  have h1 : i * 4 + k < n * 4 := by omega
  have h2 : (i * 4 + k) % 4 = k := by omega
  simp only [madeCells, Array.getElem?_map, Array.getElem?_range, if_pos h1, Option.map_some, List.size_toArray, List.length_cons, List.length_nil, Nat.zero_add, Nat.reduceAdd, h2]
  rw [getElem!_pos _ _ (by simpa using hk), Array.getElem?_eq_getElem (by simpa using hk)]

set_option maxHeartbeats 400000 in
theorem r_new (n : Nat) (h1 : 1 ≤ n) (h8 : n ≤ 8) (w : World) (S : Nat → Prop) (hS : ∀ k, w.heap.size ≤ k → S k) :
    Calls Try.prog 16 #[.int .i64 n] w fun e w' => e = .returned (.tuple #[.pointer (some ⟨w.heap.size + 1, 0, none⟩), .int .i64 0]) ∧ Hid (RP S w' (w.heap.size + 1) n (fun _ => lc0)) ∧ Hid (Fr (fun _ => False) w w') := by
  obtain ⟨i0, hi, hz0, hz1, hz2⟩ := info_parts Try.info59
  have hmk := fun w : World => run_make (P := Try.prog) w 60 59 i0 _ Try.underlying60 hi hz0 .i64 .i64 n n (by omega) (Int.le_refl _) (by rw [hz2]; omega) (by omega)
  simp only [Int.toNat_natCast, hz1] at hmk
  have hfin : Hid (RP S ((w.alloc (.cells (madeCells (Value.agg #[.slice none 0 0, .int .u64 0, .int .u64 0, .bool false]).cells (n * 4)) 59)).alloc (.cells #[.slice (some ⟨w.heap.size, 0, none⟩) n n] 62)) (w.heap.size + 1) n (fun _ => lc0)) := by
    have h2 := heap2 w (.cells (madeCells (Value.agg #[.slice none 0 0, .int .u64 0, .int .u64 0, .bool false]).cells (n * 4)) 59) (.cells #[.slice (some ⟨w.heap.size, 0, none⟩) n n] 62)
    refine ⟨w.heap.size, fun _ => none, fun _ => 0, ⟨h2.2, ⟨_, h2.1, fun i hi => ⟨?_, ?_, ?_, ?_⟩⟩, fun i hi => Seg.nil _ _ _, ⟨by omega, fun i hi => ⟨by simp, by simp⟩⟩, fun i j _ _ _ g hg => (by cases hg), ⟨hS _ (by omega), hS _ (by omega), fun i hi g hg => by cases hg⟩⟩⟩
    · exact made4 _ _ _ _ n i 0 hi (by omega)
    · exact made4 _ _ _ _ n i 1 hi (by omega)
    · exact made4 _ _ _ _ n i 2 hi (by omega)
    · exact made4 _ _ _ _ n i 3 hi (by omega)
  have hfr : Hid (Fr (fun _ => False) w ((w.alloc (.cells (madeCells (Value.agg #[.slice none 0 0, .int .u64 0, .int .u64 0, .bool false]).cells (n * 4)) 59)).alloc (.cells #[.slice (some ⟨w.heap.size, 0, none⟩) n n] 62))) := ((Fr.refl _ w).alloc _).alloc _
  clear hi hz0 hz1 hz2 hS
  go_enter Try.func16, Try.ntmps16
  go_wp2
  go_ret2
  exact ⟨rfl, hfin, hfr⟩

set_option maxHeartbeats 400000 in
theorem r_new_bad (n : Int) (h : n < 1 ∨ 8 < n) (w : World) : Calls Try.prog 16 #[.int .i64 n] w fun e w' => e = .returned (.tuple #[.pointer none, .int .i64 2]) ∧ w = w' := by
  rcases h with h | h
  · go_enter Try.func16, Try.ntmps16
    go_wp2
    go_ret2
    exact ⟨rfl, rfl⟩
  · have h' : ¬ n < 1 := by omega
    go_enter Try.func16, Try.ntmps16
    go_wp2
    go_ret2
    exact ⟨rfl, rfl⟩

set_option maxHeartbeats 400000 in
theorem l_new_bad (n : Int) (h : n < 1 ∨ 8 < n) (w : World) : Calls Try.prog 8 #[.int .i64 n] w fun e w' => e = .returned (.tuple #[.pointer none, .int .i64 2]) ∧ w = w' := by
  rcases h with h | h
  · go_enter Try.func8, Try.ntmps8
    go_wp2
    go_ret2
    exact ⟨rfl, rfl⟩
  · have h' : ¬ n < 1 := by omega
    go_enter Try.func8, Try.ntmps8
    go_wp2
    go_ret2
    exact ⟨rfl, rfl⟩
end Go.Proofs.Ytmnomjeiijpinaa

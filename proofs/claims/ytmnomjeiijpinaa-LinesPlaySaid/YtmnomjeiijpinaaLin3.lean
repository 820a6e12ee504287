/-
  The making of lines. No conditions.
-/
import Derived.Test.YtmnomjeiijpinaaLin2
namespace Go.Proofs.Ytmnomjeiijpinaa
open Go.RowKit Go.Conc

theorem Try.info3 : (Try.prog.info? 3).map (fun i => (i.zero, i.size, i.bytes)) = some (some (.int .i64 0), 1, 8) := by kernel_rfl
theorem Try.info65 : (Try.prog.info? 65).map (fun i => (i.zero, i.size, i.bytes)) = some (some (.pointer none), 1, 8) := by kernel_rfl

theorem mk16 (w : World) : (Instr.makeChan 66 (.int .i64 16)).run Try.prog w = .ok (.chan (some w.heap.size)) (w.alloc (.chan 16 #[] false 0 0 false)) := by
  obtain ⟨i0, hi, hz0, hz1, hz2⟩ := info_parts Try.info3
  simpa using run_makeChan (P := Try.prog) (w := w) Try.underlying66 hi .i64 16 (by omega) (by rw [hz2]; omega)

def lc0 : LC := ⟨[], 0, 0, false⟩

/-- What the loop has made. -/
def NewI (W : World) (n : Nat) (vk : Value) (wr : World) : Prop :=
  ∃ (k : Nat) (sa : Option Addr) (cap : Nat) (cb ch : Nat → Nat), k ≤ n ∧ vk = .int .i64 k ∧ LAt wr W.heap.size sa cap cb ch k (fun _ => lc0) ∧ Fr (fun k => W.heap.size ≤ k) W wr ∧ (∀ i, i < k → W.heap.size ≤ cb i ∧ W.heap.size ≤ ch i) ∧ ∀ g, blk sa = some g → W.heap.size ≤ g

theorem new_end (W wr w1 : World) (k : Nat) (sa sa' : Option Addr) (cap cap' : Nat) (cb ch : Nat → Nat) (h : LAt wr W.heap.size sa cap cb ch k (fun _ => lc0)) (hF : Fr (fun k => W.heap.size ≤ k) W wr)
    (hB : ∀ i, i < k → W.heap.size ≤ cb i ∧ W.heap.size ≤ ch i) (hS : ∀ g, blk sa = some g → W.heap.size ≤ g) (wa : World)
    (hwa : wa.heap = (((wr.alloc (.chan 16 #[] false 0 0 false)).alloc (.cells #[.chan (some wr.heap.size), .int .u64 0, .int .u64 0, .bool false] 68)).alloc (.cells #[.pointer (some ⟨wr.heap.size + 1, 0, none⟩)] 65)).heap) (hwo : wa.os = wr.os ∧ wa.tape = wr.tape ∧ wa.output = wr.output)
    (hown : w1.ownsRow 0 65 1 (.slice sa' (k + 1) cap') (k + 1) (ptrs cb k ++ [.pointer (some ⟨wr.heap.size + 1, 0, none⟩)])) (hgr : wa.grownBy w1 (blk sa)) (hat : ∀ g, blk sa' = some g → blk sa = some g ∨ g = wa.heap.size) :
    ∃ cb' ch', LAt (w1.setCell ⟨W.heap.size, 0, none⟩ (.slice sa' (k + 1) cap')) W.heap.size sa' cap' cb' ch' (k + 1) (fun _ => lc0) ∧ Fr (fun k => W.heap.size ≤ k) W (w1.setCell ⟨W.heap.size, 0, none⟩ (.slice sa' (k + 1) cap')) ∧
      (∀ i, i < k + 1 → W.heap.size ≤ cb' i ∧ W.heap.size ≤ ch' i) ∧ ∀ g, blk sa' = some g → W.heap.size ≤ g := by
  have hsz : wa.heap.size = wr.heap.size + 1 + 1 + 1 := by rw [hwa]; simp
  have h3 := heap3 wr (.chan 16 #[] false 0 0 false) (.cells #[.chan (some wr.heap.size), .int .u64 0, .int .u64 0, .bool false] 68) (.cells #[.pointer (some ⟨wr.heap.size + 1, 0, none⟩)] 65)
  rw [← hwa] at h3
  have old : ∀ g, g < wr.heap.size → wa.heap[g]? = wr.heap[g]? := fun g hg => by
    rw [hwa, Below.heap_alloc _ _ _ (by simp; omega), Below.heap_alloc _ _ _ (by simp; omega), Below.heap_alloc _ _ _ hg]
  have hlb := heap_lt h.l
  have hWr := hF.size
  have sane : ∀ g, blk sa = some g → g < wr.heap.size := fun g hg => owns_lt h.row g hg
  -- what stays through the append
  have kept : ∀ g, g < wr.heap.size → blk sa ≠ some g → w1.heap[g]? = wr.heap[g]? := fun g hg hne => (hgr.block g (by omega) (fun e => hne e.symm)).trans (old g hg)
  have new1 : w1.heap[wr.heap.size]? = some (.chan 16 #[] false 0 0 false) := (hgr.block _ (by omega) (fun e => by have := sane _ e.symm; omega)).trans h3.1
  have new2 : w1.heap[wr.heap.size + 1]? = _ := (hgr.block _ (by omega) (fun e => by have := sane _ e.symm; omega)).trans h3.2.1
  have sa'ne : ∀ g, blk sa' = some g → g ≠ W.heap.size ∧ (∀ i, i < k → g ≠ cb i ∧ g ≠ ch i) ∧ g ≠ wr.heap.size ∧ g ≠ wr.heap.size + 1 ∧ W.heap.size ≤ g := by
    intro g hg
    rcases hat g hg with h1 | h1
    · have := sane g h1
      refine ⟨fun e => h.lne (e ▸ h1), fun i hi => ⟨fun e => (h.ne i hi).2.2.1 (e ▸ h1), fun e => (h.ne i hi).2.2.2 (e ▸ h1)⟩, by omega, by omega, hS g h1⟩
    · refine ⟨by omega, fun i hi => ?_, by omega, by omega, by omega⟩
      have hc1 := heap_lt (h.core i hi)
      obtain ⟨s, r, hc2⟩ := h.chan i hi
      have hc2 := heap_lt hc2
      omega
  have lt : ∀ i, i < k → cb i < wr.heap.size ∧ ch i < wr.heap.size := fun i hi => by
    obtain ⟨s, r, hc2⟩ := h.chan i hi
    exact ⟨heap_lt (h.core i hi), heap_lt hc2⟩
  refine ⟨fun i => if i < k then cb i else wr.heap.size + 1, fun i => if i < k then ch i else wr.heap.size, ⟨?_, ?_, ?_, ?_, ?_, ?_, ?_⟩, ?_, ?_, fun g hg => (sa'ne g hg).2.2.2.2⟩
  · have hl1 : w1.heap[W.heap.size]? = _ := (kept _ hlb h.lne).trans h.l
    rw [heap_set hl1]
    simp
  · have e : ptrs (fun i => if i < k then cb i else wr.heap.size + 1) (k + 1) = ptrs cb k ++ [.pointer (some ⟨wr.heap.size + 1, 0, none⟩)] := by
      unfold ptrs
      rw [List.range_succ, List.map_append]
      congr 1
      · apply List.map_congr_left
        intro i hi
        have := List.mem_range.1 hi
        simp [this]
      · simp
    rw [e]
    refine owns_of_heap hown (fun g hg => ?_)
    rw [ownBlock_slice] at hg
    exact heap_set_ne (sa'ne g hg).1 _
  · intro i hi
    by_cases hk : i < k
    · simp only [if_pos hk]
      rw [heap_set_ne (by exact (h.ne i hk).1), kept _ (lt i hk).1 (h.ne i hk).2.2.1]
      exact h.core i hk
    · simp only [if_neg hk]
      rw [heap_set_ne (by show _ ≠ W.heap.size; omega), new2]
      rfl
  · intro i hi
    by_cases hk : i < k
    · simp only [if_pos hk]
      obtain ⟨s, r, hc⟩ := h.chan i hk
      refine ⟨s, r, ?_⟩
      rw [heap_set_ne (by exact (h.ne i hk).2.1), kept _ (lt i hk).2 (h.ne i hk).2.2.2]
      exact hc
    · simp only [if_neg hk]
      refine ⟨0, 0, ?_⟩
      rw [heap_set_ne (by show _ ≠ W.heap.size; omega), new1]
      rfl
  · exact fun e => (sa'ne _ e).1 rfl
  · intro i hi
    by_cases hk : i < k
    · simp only [if_pos hk]
      exact ⟨(h.ne i hk).1, (h.ne i hk).2.1, fun e => ((sa'ne _ e).2.1 i hk).1 rfl, fun e => ((sa'ne _ e).2.1 i hk).2 rfl⟩
    · simp only [if_neg hk]
      exact ⟨by omega, by omega, fun e => (sa'ne _ e).2.2.2.1 rfl, fun e => (sa'ne _ e).2.2.1 rfl⟩
  · intro i j hi hj
    by_cases hik : i < k <;> by_cases hjk : j < k
    · simp only [if_pos hik, if_pos hjk]; exact h.dist i j hik hjk
    · simp only [if_pos hik, if_neg hjk]
      have := lt i hik
      exact ⟨by omega, fun _ => ⟨by omega, by omega⟩⟩
    · simp only [if_neg hik, if_pos hjk]
      have := lt j hjk
      exact ⟨by omega, fun _ => ⟨by omega, by omega⟩⟩
    · simp only [if_neg hik, if_neg hjk]
      exact ⟨by omega, fun hne => absurd (by omega) hne⟩
  · have hFa : Fr (fun k => W.heap.size ≤ k) W wa := hF.then (T := fun _ => False) ⟨hwo.1, hwo.2.1, hwo.2.2, by omega, fun g hg _ => old g hg⟩ (fun _ _ h => h.elim)
    exact (hFa.grown hgr (fun g hg _ => hS g hg)).setCell (fun _ => Nat.le_refl _) _
  · intro i hi
    by_cases hk : i < k
    · simp only [if_pos hk]; exact hB i hk
    · simp only [if_neg hk]; omega

set_option maxHeartbeats 1000000 in
set_option maxRecDepth 100000 in
theorem new_ok (n : Nat) (h1 : 1 ≤ n) (h8 : n ≤ 8) (W : World) :
    Calls Try.prog 8 #[.int .i64 n] W fun e w' => e = .returned (.tuple #[.pointer (some ⟨W.heap.size, 0, none⟩), .int .i64 0]) ∧ Hid (NewI W n (.int .i64 n) w') := by
  obtain ⟨i0, hi, hz0, hz1, hz2⟩ := info_parts Try.info65
  have hmc := mk16
  go_enter Try.func8, Try.ntmps8
  go_wp2
  go_loopw [14] (fun vk wr => NewI W n vk wr) (fun v _ => n - (intOf v).toNat)
  case atStart => 
    refine ⟨0, none, 0, fun _ => 0, fun _ => 0, Nat.zero_le _, rfl, ⟨heap_alloc_new W _, World.ownsRow_nil _ _ _ _, fun i hi => absurd hi (by omega), fun i hi => absurd hi (by omega), by simp, fun i hi => absurd hi (by omega), fun i j hi => absurd hi (by omega)⟩, (Fr.refl _ W).alloc _, fun i hi => absurd hi (by omega), fun g hg => by cases hg⟩
  case round =>
    obtain ⟨k, sa, cap, cb, ch, hk, rfl, hL, hF, hB, hS⟩ := hrel
    have c0 := cell_at (o := 0) hL.l
    simp at c0
    have f0 := thawed (o := 0) hL.l
    by_cases hlt : k < n
    · have hlb := heap_lt hL.l
      have hrow : Hid (∀ wa : World, wa.heap = (((wr.alloc (.chan 16 #[] false 0 0 false)).alloc (.cells #[.chan (some wr.heap.size), .int .u64 0, .int .u64 0, .bool false] 68)).alloc (.cells #[.pointer (some ⟨wr.heap.size + 1, 0, none⟩)] 65)).heap →
          wa.ownsRow 0 65 1 (.slice sa k cap) k (ptrs cb k) ∧ ∀ ad, some (⟨wr.heap.size + 1 + 1, 0, none⟩ : Addr) = some ad → ∀ j u, [Value.pointer (some ⟨wr.heap.size + 1, 0, none⟩)][j]? = some u → wa.cell? (ad.add j) = some u) := by
        intro wa hwa
        refine ⟨owns_of_heap hL.row (fun g hg => ?_), fun ad had j u hu => ?_⟩
        · rw [ownBlock_slice] at hg
          have := owns_lt hL.row g hg
          rw [hwa, Below.heap_alloc _ _ _ (by simp; omega), Below.heap_alloc _ _ _ (by simp; omega), Below.heap_alloc _ _ _ this]
        · obtain rfl := Option.some.inj had
          have h3 := heap3 wr (.chan 16 #[] false 0 0 false) (.cells #[.chan (some wr.heap.size), .int .u64 0, .int .u64 0, .bool false] 68) (.cells #[.pointer (some ⟨wr.heap.size + 1, 0, none⟩)] 65)
          rw [← hwa] at h3
          rw [Addr.add_lit, cell_at h3.2.2]
          match j, hu with
          | 0, hu => simpa using hu
      have hend : Hid (∀ (wa w1 : World) (sa' : Option Addr) (cap' : Nat), wa.heap = (((wr.alloc (.chan 16 #[] false 0 0 false)).alloc (.cells #[.chan (some wr.heap.size), .int .u64 0, .int .u64 0, .bool false] 68)).alloc (.cells #[.pointer (some ⟨wr.heap.size + 1, 0, none⟩)] 65)).heap →
          (wa.os = wr.os ∧ wa.tape = wr.tape ∧ wa.output = wr.output) → w1.ownsRow 0 65 1 (.slice sa' (k + 1) cap') (k + 1) (ptrs cb k ++ [.pointer (some ⟨wr.heap.size + 1, 0, none⟩)]) → wa.grownBy w1 (blk sa) → (∀ g, blk sa' = some g → blk sa = some g ∨ g = wa.heap.size) →
          (w1.cell? ⟨W.heap.size, 0, none⟩ = some (.slice sa k cap) ∧ w1.frozen? ⟨W.heap.size, 0, none⟩ = false) ∧ Hid (NewI W n (.int .i64 ((k : Int) + 1)) (w1.setCell ⟨W.heap.size, 0, none⟩ (.slice sa' (k + 1) cap')))) := by
        intro wa w1 sa' cap' e1 e2 e3 e4 e5
        obtain ⟨cb', ch', r1, r2, r3, r4⟩ := new_end W wr w1 k sa sa' cap cap' cb ch hL hF hB hS wa e1 e2 e3 e4 e5
        have hl : w1.heap[W.heap.size]? = some (.cells #[.slice sa k cap] 37 (0, 0)) := by
          rw [e4.block _ (by rw [e1]; simp; omega) (fun e => hL.lne e.symm), e1, Below.heap_alloc _ _ _ (by simp; omega), Below.heap_alloc _ _ _ (by simp; omega), Below.heap_alloc _ _ _ hlb]
          exact hL.l
        exact ⟨⟨cell_at hl, thawed hl⟩, k + 1, sa', cap', cb', ch', by omega, by go_num, r1, r2, r3, r4⟩
      have hlb1 : W.heap.size < wr.heap.size + 1 := by omega
      have hlb2 : W.heap.size < wr.heap.size + 1 + 1 := by omega
      clear hL hF hB hS
      go_wp2
      go_region_law (refine step_append_gen rfl (.tmp 20) (.tmp 24) 35 rfl 65 i0 (.pointer none) 1 8 Try.underlying35 hi hz0 hz1 hz2 rfl (by decide) 0 sa k cap (ptrs cb k) (by simp [Act.eval]) (hrow.out _ rfl).1 _ 1 1 [.pointer (some ⟨wr.heap.size + 1, 0, none⟩)] (by simp [Act.eval]) rfl (fun e => by cases e) (hrow.out _ rfl).2 (by simp [Value.oneCell']) (by unfold maxLen; omega) (by omega) (Nat.zero_le _) ?_; intro sa' cap' w1 hown hgr hat; obtain ⟨⟨q0, g0⟩, HN⟩ := hend.out _ w1 sa' cap' (by rfl) ⟨by rfl, by rfl, by rfl⟩ hown hgr hat; clear hown hgr hat)
      all_goals go_wp2
      all_goals exact ⟨HN.out, by simp [intOf]; omega⟩
    · have hN : Hid (NewI W n (.int .i64 n) wr) := by
        obtain rfl : k = n := by omega
        exact ⟨k, sa, cap, cb, ch, hk, rfl, hL, hF, hB, hS⟩
      clear hL hF hB hS
      go_wp2
      go_ret2
      exact ⟨rfl, hN⟩
end Go.Proofs.Ytmnomjeiijpinaa

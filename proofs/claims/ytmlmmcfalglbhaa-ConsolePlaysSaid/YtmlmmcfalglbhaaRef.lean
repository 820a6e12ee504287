/-
  The reference's console, each function walked once: it does to its strings what the console does to its bytes. No conditions.
-/
import Derived.Test.YtmlmmcfalglbhaaBackW
namespace Go.Proofs.Ytmlmmcfalglbhaa
open Go.RowKit

/-- The reference's console at block rb, in state s. -/
def RefAt (w : World) (rb : Nat) (s : Con) : Prop :=
  ∃ bw bo : ByteArray, bw.data.toList = s.waits ∧ bo.data.toList = s.out ∧ w.heap[rb]? = some (.cells #[.string bw, .string bo, .int .i64 s.came, .int .i64 s.dropped, .int .i64 s.read] 46 (0, 0))

theorem size_of_list {b : ByteArray} {l : List UInt8} (h : b.data.toList = l) : b.size = l.length := by
  rw [← h]; simp

theorem arr_append (a : ByteArray) (l x : List UInt8) (h : a.data.toList = l) : (a ++ (⟨x.toArray⟩ : ByteArray)).data.toList = l ++ x := by
  simp [h]

theorem wrap_drop (d l n : Int) : wrap64 (wrap64 (d + l) - n) = wrap64 (d + (l - n)) := by
  unfold wrap64; omega

set_option maxHeartbeats 1000000 in
set_option maxRecDepth 100000 in
theorem rinput_any (w : World) (rb : Nat) (s : Con) (h : RefAt w rb s) (bo : Option Addr) (bl bc : Nat) (b : List UInt8) (hb : Src w bo b) (hbl : b.length = bl) (h1 : s.waits.length ≤ 4096) (h2 : bl ≤ bc) (h3 : bc ≤ 9223372036854775807) :
    Calls Try.prog 13 #[.pointer (some ⟨rb, 0, none⟩), .slice bo bl bc] w fun e w' => e = .returned (.int .i64 (s.taken b)) ∧ Hid (RefAt w' rb (s.input b)) ∧ Hid (Fr (fun k => k = rb) w w') := by
  obtain ⟨bw, bt, ew, et, hc⟩ := h
  have c0 := cell_at (o := 0) hc
  have c2 := cell_at (o := 2) hc
  have c3 := cell_at (o := 3) hc
  simp at c0 c2 c3
  have f0 := thawed (o := 0) hc
  have f2 := thawed (o := 2) hc
  have f3 := thawed (o := 3) hc
  have hrb := heap_lt hc
  have hsz := size_of_list ew
  obtain ⟨n, en⟩ : ∃ n, n = s.taken b := ⟨_, rfl⟩
  have hn : n = min bl (4096 - bw.size) := by rw [en, hsz]; unfold Con.taken; rw [hbl]
  have hb1 : bw.size ≤ 4096 := by omega
  obtain ⟨d, hd⟩ : ∃ d : ByteArray, d = ⟨(b.take n).toArray⟩ := ⟨_, rfl⟩
  have hdl : (b.take n).length = n := by rw [List.length_take]; omega
  have hds : d.size = n := by rw [hd]; show (b.take n).toArray.size = n; rw [List.size_toArray, hdl]
  have hdz : d.size ≤ 4096 := by omega
  have hcv := run_conv w.drew bo (b.take n) (show Src w.drew bo (b.take n) from ⟨(hb.take n).nil, (hb.take n).cells⟩) n bc hdl
  rw [← hd] at hcv
  have fin : ∀ W' : World, W'.heap[rb]? = some (.cells #[.string (bw ++ d), .string bt, .int .i64 (wrap64 (s.came + n)), .int .i64 (wrap64 (wrap64 (s.dropped + bl) - n)), .int .i64 s.read] 46 (0, 0)) → RefAt W' rb (s.input b) := by
    intro W' h'
    refine ⟨bw ++ d, bt, ?_, et, ?_⟩
    · rw [hd, arr_append _ _ _ ew, en]; rfl
    · rw [h']
      simp only [Con.input, ← en, hbl, wrap_drop]
  have hset : Hid (∀ v0 v2 v3 : Value, (((w.setCell ⟨rb, 0, none⟩ v0).setCell ⟨rb, 2, none⟩ v2).setCell ⟨rb, 3, none⟩ v3).heap[rb]? = some (.cells #[v0, .string bt, v2, v3, .int .i64 s.read] 46 (0, 0)) ∧
      Fr (fun k => k = rb) w (((w.setCell ⟨rb, 0, none⟩ v0).setCell ⟨rb, 2, none⟩ v2).setCell ⟨rb, 3, none⟩ v3)) := by
    intro v0 v2 v3
    have F0 : Fr (fun k => k = rb) w w := Fr.refl _ w
    refine ⟨?_, ((F0.setCell (p := ⟨rb, 0, none⟩) (fun _ => rfl) _).setCell (p := ⟨rb, 2, none⟩) (fun _ => rfl) _).setCell (p := ⟨rb, 3, none⟩) (fun _ => rfl) _⟩
    rw [heap_set (heap_set (heap_set hc v0) v2) v3]
    simp
  have Fin := hid fin
  have Hc := hid hc
  have En := hid en
  rw [← en]
  have hnc : n ≤ bc := by omega
  have hb0 : n ≤ bl := by omega
  by_cases hle : (bl : Int) < 4096 - (bw.size : Int)
  · obtain rfl : n = bl := by omega
    clear fin hc en ew et hsz hn hd hds hb hdl hbl
    go_enter Try.func13, Try.ntmps13
    go_wp2
    go_region
    go_wp2
    go_ret
    exact ⟨rfl, Fin.out _ (hset.out _ _ _).1, Fr.drew (hset.out _ _ _).2⟩
  · have e5 : (4096 : Int) - bw.size = n := by omega
    clear fin hc en ew et hsz hn hd hds hb hdl hbl hle
    go_enter Try.func13, Try.ntmps13
    go_wp2
    go_region
    go_wp2
    go_ret
    exact ⟨rfl, Fin.out _ (hset.out _ _ _).1, Fr.drew (hset.out _ _ _).2⟩

set_option maxHeartbeats 1000000 in
set_option maxRecDepth 100000 in
theorem rwrite_any (w : World) (rb : Nat) (s : Con) (h : RefAt w rb s) (bo : Option Addr) (bl bc : Nat) (b : List UInt8) (hb : Src w bo b) (hbl : b.length = bl) (h1 : s.out.length ≤ 1048576) (h2 : bl ≤ bc) (h3 : bc ≤ 9223372036854775807) :
    Calls Try.prog 15 #[.pointer (some ⟨rb, 0, none⟩), .slice bo bl bc] w fun e w' => e = .returned (.int .i64 (s.put b)) ∧ Hid (RefAt w' rb (s.write b)) ∧ Hid (Fr (fun k => k = rb) w w') := by
  obtain ⟨bt, bw, et, ew, hc⟩ := h
  have c0 := cell_at (o := 1) hc
  simp at c0
  have f0 := thawed (o := 1) hc
  have hrb := heap_lt hc
  have hsz := size_of_list ew
  obtain ⟨n, en⟩ : ∃ n, n = s.put b := ⟨_, rfl⟩
  have hn : n = min bl (1048576 - bw.size) := by rw [en, hsz]; unfold Con.put; rw [hbl]
  have hb1 : bw.size ≤ 1048576 := by omega
  obtain ⟨d, hd⟩ : ∃ d : ByteArray, d = ⟨(b.take n).toArray⟩ := ⟨_, rfl⟩
  have hdl : (b.take n).length = n := by rw [List.length_take]; omega
  have hds : d.size = n := by rw [hd]; show (b.take n).toArray.size = n; rw [List.size_toArray, hdl]
  have hdz : d.size ≤ 1048576 := by omega
  have hcv := run_conv w.drew bo (b.take n) (show Src w.drew bo (b.take n) from ⟨(hb.take n).nil, (hb.take n).cells⟩) n bc hdl
  rw [← hd] at hcv
  have fin : ∀ W' : World, W'.heap[rb]? = some (.cells #[.string bt, .string (bw ++ d), .int .i64 s.came, .int .i64 s.dropped, .int .i64 s.read] 46 (0, 0)) → RefAt W' rb (s.write b) := by
    intro W' h'
    refine ⟨bt, bw ++ d, et, ?_, ?_⟩
    · rw [hd, arr_append _ _ _ ew, en]; rfl
    · rw [h']
      simp only [Con.write]
  have hset : Hid (∀ v0 : Value, (w.setCell ⟨rb, 1, none⟩ v0).heap[rb]? = some (.cells #[.string bt, v0, .int .i64 s.came, .int .i64 s.dropped, .int .i64 s.read] 46 (0, 0)) ∧
      Fr (fun k => k = rb) w (w.setCell ⟨rb, 1, none⟩ v0)) := by
    intro v0
    have F0 : Fr (fun k => k = rb) w w := Fr.refl _ w
    refine ⟨?_, F0.setCell (p := ⟨rb, 1, none⟩) (fun _ => rfl) _⟩
    rw [heap_set hc v0]
    simp
  have Fin := hid fin
  have Hc := hid hc
  have En := hid en
  rw [← en]
  have hnc : n ≤ bc := by omega
  have hb0 : n ≤ bl := by omega
  by_cases hle : (bl : Int) < 1048576 - (bw.size : Int)
  · obtain rfl : n = bl := by omega
    clear fin hc en ew et hsz hn hd hds hb hdl hbl
    go_enter Try.func15, Try.ntmps15
    go_wp2
    go_region
    go_wp2
    go_ret
    exact ⟨rfl, Fin.out _ (hset.out _).1, Fr.drew (hset.out _).2⟩
  · have e5 : (1048576 : Int) - bw.size = n := by omega
    clear fin hc en ew et hsz hn hd hds hb hdl hbl hle
    go_enter Try.func15, Try.ntmps15
    go_wp2
    go_region
    go_wp2
    go_ret
    exact ⟨rfl, Fin.out _ (hset.out _).1, Fr.drew (hset.out _).2⟩

set_option maxHeartbeats 1000000 in
set_option maxRecDepth 100000 in
theorem rtake_any (w : World) (rb : Nat) (s : Con) (h : RefAt w rb s) (n : Int) :
    Calls Try.prog 14 #[.pointer (some ⟨rb, 0, none⟩), .int .i64 n] w fun e w' => ∃ d : ByteArray, e = .returned (.string d) ∧ Hid (d.data.toList = s.waits.take (s.reads n)) ∧ Hid (RefAt w' rb (s.rest n)) ∧ Hid (Fr (fun k => k = rb) w w') := by
  have H := hid h
  obtain ⟨bw, bo, ew, eo, hc⟩ := h
  have c0 := cell_at (o := 0) hc
  have c4 := cell_at (o := 4) hc
  simp at c0 c4
  have f0 := thawed (o := 0) hc
  have f4 := thawed (o := 4) hc
  have hsz := size_of_list ew
  by_cases hn : n < 1
  · clear hc ew eo hsz
    go_enter Try.func14, Try.ntmps14
    go_wp2
    go_ret
    have e0 : s.reads n = 0 := by simp [Con.reads, hn]
    have er : s.rest n = s := by simp [Con.rest, e0, hn]
    rw [er]
    exact ⟨_, rfl, by rw [e0]; rfl, H.out, Fr.refl _ _⟩
  · have fin : ∀ (k : Nat) (E1 E2 : ByteArray) (X : Int), k = s.reads n → E1.data.toList = s.waits.take k → E2.data.toList = s.waits.drop k → X = wrap64 (s.read + k) →
        E1.data.toList = s.waits.take (s.reads n) ∧ RefAt ((w.setCell ⟨rb, 0, none⟩ (.string E2)).setCell ⟨rb, 4, none⟩ (.int .i64 X)) rb (s.rest n) ∧ Fr (fun k => k = rb) w ((w.setCell ⟨rb, 0, none⟩ (.string E2)).setCell ⟨rb, 4, none⟩ (.int .i64 X)) := by
      intro k E1 E2 X hk h1 h2 hX
      have F0 : Fr (fun k => k = rb) w w := Fr.refl _ w
      refine ⟨by rw [← hk]; exact h1, ⟨E2, bo, by rw [h2, hk]; rfl, eo, ?_⟩, (F0.setCell (p := ⟨rb, 0, none⟩) (fun _ => rfl) _).setCell (p := ⟨rb, 4, none⟩) (fun _ => rfl) _⟩
      rw [heap_set (heap_set hc _) _, hX, hk]
      simp [Con.rest, hn]
    have Fin := hid fin
    have Ew := hid ew
    clear fin hc ew eo H
    obtain ⟨l, hl⟩ : ∃ l, l = s.waits.length := ⟨_, rfl⟩
    rw [← hl] at hsz
    have Hl := hid hl
    clear hl
    go_enter Try.func14, Try.ntmps14
    go_wp2
    · have hk : l = s.reads n := by have := Hl.out; unfold Con.reads; rw [if_neg (by omega)]; omega
      go_ret
      have hd0 : (bw.extract 0 l).data.toList = s.waits.take l := by rw [ByteArray.data_extract, Array.toList_extract, Ew.out]; simp [List.extract]
      have hd1 : (ByteArray.extract bw l l).data.toList = s.waits.drop l := by
        rw [ByteArray.data_extract, Array.toList_extract, Ew.out]
        simp [List.extract, Hl.out]
      refine ⟨_, rfl, ?_⟩
      first
        | exact Fin.out l _ (ByteArray.extract bw l l) _ hk hd0 hd1 rfl
        | exact Fin.out l _ _ _ hk hd0 (by rw [← hd1]; simp) rfl
    · have hk : n.toNat = s.reads n := by have := Hl.out; unfold Con.reads; rw [if_neg (by omega)]; omega
      have hnn : ((n.toNat : Nat) : Int) = n := Int.toNat_of_nonneg (by omega)
      go_ret
      exact ⟨_, rfl, Fin.out n.toNat _ _ _ hk (by rw [ByteArray.data_extract, Array.toList_extract, Ew.out]; simp [List.extract]) (by
        rw [ByteArray.data_extract, Array.toList_extract, Ew.out, List.extract, List.take_of_length_le]
        rw [List.length_drop, Hl.out]; omega) (by rw [hnn])⟩
end Go.Proofs.Ytmlmmcfalglbhaa

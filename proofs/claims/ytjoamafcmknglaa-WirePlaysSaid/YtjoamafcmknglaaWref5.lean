/-
  The reference's wire, made new. No conditions.
-/
import Derived.Test.YtjoamafcmknglaaWref3
import Derived.Deep.RegionLaw
namespace Go.Proofs.Ytjoamafcmknglaa
open Go.RowKit Go.Conc

theorem Try.info60 : (Try.prog.info? 60).map (fun i => (i.zero, i.size, i.bytes)) = some (some (.slice none 0 0), 1, 24) := by kernel_rfl

set_option maxHeartbeats 400000 in
theorem v_new_bad (w : World) (po : Option Addr) (n pc : Nat) (h : n < 1 ∨ 32 < n) : Calls Try.prog 13 #[.slice po n pc] w fun e w' => e = .returned (.tuple #[.pointer none, .int .i64 2]) ∧ w = w' := by
  rcases h with h | h
  · go_enter Try.func13, Try.ntmps13
    go_wp2
    go_ret2
    exact ⟨rfl, rfl⟩
  · have h' : ¬ n < 1 := by omega
    go_enter Try.func13, Try.ntmps13
    go_wp2
    go_ret2
    exact ⟨rfl, rfl⟩

theorem made1 (z : Value) (n i : Nat) (hi : i < n) : (madeCells #[z] (n * 1))[i]? = some z := by
  have h1 : i < n * 1 := by omega
  simp only [madeCells, Array.getElem?_map, Array.getElem?_range, if_pos h1, Option.map_some, List.size_toArray, List.length_cons, List.length_nil, Nat.zero_add, Nat.mod_one]
  rfl

theorem v_fin (S : Nat → Prop) (w w' : World) (hS : ∀ k, w.heap.size ≤ k → S k) (rb ab : Nat) (ga : Option Addr) (gc n : Nat) (zs : Nat → Int) (h1 : 1 ≤ n) (hrb : w'.heap[rb]? = some (.cells #[.slice ga n gc, .slice (some ⟨ab, 0, none⟩) n n] 63 (0, 0)))
    (hab : w'.heap[ab]? = some (.cells (madeCells #[.slice none 0 0] (n * 1)) 60 (0, 0))) (hg : w'.ownsRow w.heap.size 3 1 (.slice ga n gc) n (zv zs n)) (l1 : w.heap.size ≤ rb) (l2 : w.heap.size ≤ ab) : VP S w' rb n zs (fun _ => []) := by
  obtain ⟨gb, gcap, e1, b1, _⟩ := hg.form (by omega)
  simp only [Value.slice.injEq] at e1
  obtain ⟨rfl, _, rfl⟩ := e1
  obtain ⟨_, cur, hgc⟩ := owns_ge hg gb rfl
  refine ⟨gb, gc, ab, fun _ => none, fun _ => 0, hrb, ⟨cur, hgc, fun i hi => ?_⟩, ⟨_, hab, fun i hi => made1 _ n i hi⟩, fun i hi => Seg.nil _ _ _, fun i hi => by simp, ⟨fun e => ?_, fun e => ?_, fun e => ?_, fun i hi => ⟨by simp, by simp, by simp⟩⟩, fun i j _ _ _ g hg => (by cases hg), hS _ l1, hS _ b1, hS _ l2, fun i hi g hg => by cases hg⟩
  · have := hg.cells (g := gb) rfl i (.int .i64 (zs i)) (by simp [zv, hi])
    rw [Addr.add_lit, Nat.zero_add, cell_at hgc] at this
    exact this
  · rw [e, hgc] at hrb; exact absurd (Obj.cells.inj (Option.some.inj hrb)).2.1 (by decide)
  · rw [e, hab] at hrb; exact absurd (Obj.cells.inj (Option.some.inj hrb)).2.1 (by decide)
  · rw [e, hab] at hgc; exact absurd (Obj.cells.inj (Option.some.inj hgc)).2.1 (by decide)

set_option maxHeartbeats 1000000 in
theorem v_new (S : Nat → Prop) (w : World) (hS : ∀ k, w.heap.size ≤ k → S k) (po : Option Addr) (n pc : Nat) (zs : Nat → Int) (h : Grp w po n pc zs) (h1 : 1 ≤ n) (h32 : n ≤ 32) :
    Calls Try.prog 13 #[.slice po n pc] w fun e w' => ∃ rb, e = .returned (.tuple #[.pointer (some ⟨rb, 0, none⟩), .int .i64 0]) ∧ Hid (VP S w' rb n zs (fun _ => [])) ∧ Hid (Fr (fun _ => False) w w') := by
  obtain ⟨i0, hi, hz0, hz1, hz2⟩ := info_parts Try.info60
  obtain ⟨i3, hi3, hz30, hz31, hz32⟩ := info_parts Try.info3
  have hmk := fun w : World => run_make (P := Try.prog) w 61 60 i0 _ Try.underlying61 hi hz0 .i64 .i64 n n (by omega) (Int.le_refl _) (by rw [hz2]; omega) (by omega)
  simp only [Int.toNat_natCast, hz1] at hmk
  obtain ⟨T, eT⟩ : ∃ T : Obj, T = .cells (madeCells (Value.slice none 0 0).cells (n * 1)) 60 := ⟨_, rfl⟩
  have pre : ∀ (wb : World) (eb : Nat), wb.heap[eb]? = some (.cells #[] 3 (0, 0)) → w.heap.size ≤ eb → (∀ k, k < w.heap.size → wb.heap[k]? = w.heap[k]?) →
      wb.ownsRow w.heap.size 3 1 (.slice (some ⟨eb, 0, none⟩) 0 0) 0 [] ∧ ∀ ad, po = some ad → ∀ j u, (zv zs n)[j]? = some u → wb.cell? (ad.add j) = some u := by
    intro wb eb h2 h3 h4
    refine ⟨⟨by simp, .inr ⟨eb, 0, #[], rfl, h3, h2, by omega, by simp, by simp, by simp⟩⟩, fun ad e j u hu => ?_⟩
    have hc := h.cells ad e j u hu
    rw [World.cell?_of_block (h4 _ (block_lt_of_cell hc))]
    exact hc
  have preA : Hid (∀ wb : World, wb.heap = (w.alloc (.cells #[] 3)).heap → wb.ownsRow w.heap.size 3 1 (.slice (some ⟨w.heap.size, 0, none⟩) 0 0) 0 [] ∧ ∀ ad, po = some ad → ∀ j u, (zv zs n)[j]? = some u → wb.cell? (ad.add j) = some u) :=
    fun wb e => pre wb _ (by rw [e]; exact heap_alloc_new w _) (Nat.le_refl _) (fun k hk => by rw [e]; exact Below.heap_alloc _ _ _ hk)
  have preB : Hid (∀ wb : World, wb.heap = ((w.alloc (.cells #[] 3)).alloc T).heap → wb.ownsRow w.heap.size 3 1 (.slice (some ⟨w.heap.size, 0, none⟩) 0 0) 0 [] ∧ ∀ ad, po = some ad → ∀ j u, (zv zs n)[j]? = some u → wb.cell? (ad.add j) = some u) :=
    fun wb e => pre wb _ (by rw [e]; exact (heap2 w _ _).1) (Nat.le_refl _) (fun k hk => by rw [e, Below.heap_alloc _ _ _ (by rw [World.size_alloc]; omega)]; exact Below.heap_alloc _ _ _ hk)
  have preC : Hid (∀ wb : World, wb.heap = ((w.alloc T).alloc (.cells #[] 3)).heap → wb.ownsRow w.heap.size 3 1 (.slice (some ⟨w.heap.size + 1, 0, none⟩) 0 0) 0 [] ∧ ∀ ad, po = some ad → ∀ j u, (zv zs n)[j]? = some u → wb.cell? (ad.add j) = some u) :=
    fun wb e => pre wb _ (by rw [e]; exact (heap2 w _ _).2) (by omega) (fun k hk => by rw [e, Below.heap_alloc _ _ _ (by rw [World.size_alloc]; omega)]; exact Below.heap_alloc _ _ _ hk)
  have finA : Hid (∀ (w0 w1 : World) (ga : Option Addr) (gc : Nat), w0.heap = (w.alloc (.cells #[] 3)).heap → (w0.os = w.os ∧ w0.tape = w.tape ∧ w0.output = w.output) → w1.ownsRow w.heap.size 3 1 (.slice ga n gc) n (zv zs n) → w0.grownBy w1 (some w.heap.size) →
      VP S ((w1.alloc T).alloc (.cells #[.slice ga n gc, .slice (some ⟨w1.heap.size, 0, none⟩) n n] 63)) (w1.heap.size + 1) n zs (fun _ => []) ∧ Fr (fun _ => False) w ((w1.alloc T).alloc (.cells #[.slice ga n gc, .slice (some ⟨w1.heap.size, 0, none⟩) n n] 63))) := by
    intro w0 w1 ga gc e0 e1 hown hgr
    have F0 : Fr (fun _ => False) w w0 := ⟨e1.1, e1.2.1, e1.2.2, by rw [e0]; simp, fun k hk _ => by rw [e0]; exact Below.heap_alloc _ _ _ hk⟩
    have F1 : Fr (fun _ => False) w w1 := F0.grown hgr (fun k e hk => by cases e; omega)
    have h2 := heap2 w1 T (.cells #[.slice ga n gc, .slice (some ⟨w1.heap.size, 0, none⟩) n n] 63)
    refine ⟨v_fin S w _ hS _ w1.heap.size ga gc n zs h1 h2.2 (by rw [h2.1, eT]; rfl) (owns_of_heap hown (fun g hg => ?_)) (by have := F1.size; omega) F1.size, (F1.alloc _).alloc _⟩
    rw [ownBlock_slice] at hg
    have := owns_lt hown g hg
    rw [Below.heap_alloc _ _ _ (by rw [World.size_alloc]; omega), Below.heap_alloc _ _ _ this]
  have finB : Hid (∀ (w0 w1 : World) (ga : Option Addr) (gc tb eb : Nat), Fr (fun _ => False) w w0 → w0.heap[tb]? = some T → tb ≠ eb → w.heap.size ≤ tb → w.heap.size ≤ eb → w1.ownsRow w.heap.size 3 1 (.slice ga n gc) n (zv zs n) → w0.grownBy w1 (some eb) →
      VP S (w1.alloc (.cells #[.slice ga n gc, .slice (some ⟨tb, 0, none⟩) n n] 63)) w1.heap.size n zs (fun _ => []) ∧ Fr (fun _ => False) w (w1.alloc (.cells #[.slice ga n gc, .slice (some ⟨tb, 0, none⟩) n n] 63))) := by
    intro w0 w1 ga gc tb eb F0 hT hne l1 l2 hown hgr
    have F1 : Fr (fun _ => False) w w1 := F0.grown hgr (fun k e hk => by cases e; omega)
    have hT1 : w1.heap[tb]? = some T := by rw [hgr.block tb (heap_lt hT) (fun e => hne (Option.some.inj e))]; exact hT
    refine ⟨v_fin S w _ hS _ tb ga gc n zs h1 (heap_alloc_new w1 _) (by rw [Below.heap_alloc _ _ _ (heap_lt hT1), hT1, eT]; rfl) (owns_of_heap hown (fun g hg => ?_)) F1.size l1, F1.alloc _⟩
    rw [ownBlock_slice] at hg
    exact Below.heap_alloc _ _ _ (owns_lt hown g hg)
  have hT1 := hid (heap2 w (.cells #[] 3) T)
  have hT2 := hid (heap2 w T (.cells #[] 3))
  have F2 : Hid (∀ w0 : World, w0.heap = ((w.alloc (.cells #[] 3)).alloc T).heap ∨ w0.heap = ((w.alloc T).alloc (.cells #[] 3)).heap → (w0.os = w.os ∧ w0.tape = w.tape ∧ w0.output = w.output) → Fr (fun _ => False) w w0) := by
    intro w0 e0 e1
    rcases e0 with e0 | e0
    · exact ⟨e1.1, e1.2.1, e1.2.2, by rw [e0]; simp; omega, fun k hk _ => by rw [e0, Below.heap_alloc _ _ _ (by rw [World.size_alloc]; omega)]; exact Below.heap_alloc _ _ _ hk⟩
    · exact ⟨e1.1, e1.2.1, e1.2.2, by rw [e0]; simp; omega, fun k hk _ => by rw [e0, Below.heap_alloc _ _ _ (by rw [World.size_alloc]; omega)]; exact Below.heap_alloc _ _ _ hk⟩
  obtain ⟨ad, rfl⟩ : ∃ ad, po = some ad := by
    cases po with
    | none => have := (h.nil rfl).1; omega
    | some ad => exact ⟨ad, rfl⟩
  rw [← eT] at hmk
  clear h hS pre eT
  go_enter Try.func13, Try.ntmps13
  go_wp2
  go_region_law (refine step_append_gen rfl (.tmp 12) (.tmp 13) 23 rfl 3 i3 (.int .i64 0) 1 8 Try.underlying23 hi3 hz30 hz31 hz32 rfl (by decide) w.heap.size _ 0 0 [] rfl (by first | exact (preA.out _ rfl).1 | exact (preB.out _ rfl).1 | exact (preC.out _ rfl).1) (some ad) n pc (zv zs n) rfl (by simp [zv]) (fun e => by cases e) (by first | exact (preA.out _ rfl).2 | exact (preB.out _ rfl).2 | exact (preC.out _ rfl).2) (by simp [zv, Value.oneCell']) (by unfold maxLen; omega) (by omega) (by simp; try omega) ?_; intro ga gc w1 hown hgr hat; rw [Nat.zero_add, List.nil_append] at hown
                 first
                   | (have HA := hid (finA.out (w.alloc (.cells #[] 3)).drew w1 ga gc rfl ⟨rfl, rfl, rfl⟩ hown hgr))
                   | (have HB := hid (finB.out ((w.alloc (.cells #[] 3)).alloc T).drew w1 ga gc (w.heap.size + 1) w.heap.size (F2.out _ (.inl rfl) ⟨rfl, rfl, rfl⟩) hT1.out.2 (Nat.succ_ne_self _) (Nat.le_succ _) (Nat.le_refl _) hown hgr))
                   | (have HB := hid (finB.out ((w.alloc T).alloc (.cells #[] 3)).drew w1 ga gc w.heap.size (w.heap.size + 1) (F2.out _ (.inr rfl) ⟨rfl, rfl, rfl⟩) hT2.out.1 (Ne.symm (Nat.succ_ne_self _)) (Nat.le_refl _) (Nat.le_succ _) hown hgr))
                 clear hown hgr hat)
  all_goals go_wp2
  all_goals go_ret2
  all_goals first
    | exact ⟨_, rfl, HA.out.1.same rfl, HA.out.2⟩
    | exact ⟨_, rfl, HB.out.1.same rfl, HB.out.2⟩
end Go.Proofs.Ytjoamafcmknglaa

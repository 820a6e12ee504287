/-
  The making of wires. No conditions.
-/
import Derived.Test.YtjoamafcmknglaaWir4
namespace Go.Proofs.Ytjoamafcmknglaa
open Go.RowKit Go.Conc

theorem Try.info34 : (Try.prog.info? 34).map (fun i => (i.zero, i.size, i.bytes)) = some (some (.agg #[.int .i64 0, .slice none 0 0]), 2, 32) := by kernel_rfl
theorem Try.info66 : (Try.prog.info? 66).map (fun i => (i.zero, i.size, i.bytes)) = some (some (.chan none), 1, 8) := by kernel_rfl

theorem mk16 (w : World) : (Instr.makeChan 66 (.int .i64 16)).run Try.prog w = .ok (.chan (some w.heap.size)) (w.alloc (.chan 16 #[] false 0 0 false)) := by
  obtain ⟨i0, hi, hz0, hz1, hz2⟩ := info_parts Try.info34
  simpa using run_makeChan (P := Try.prog) (w := w) Try.underlying66 hi .i64 16 (by omega) (by rw [hz2]; omega)

def zv (zs : Nat → Int) (n : Nat) : List Value := (List.range n).map fun i => Value.int .i64 (zs i)
def chs (ch : Nat → Nat) (n : Nat) : List Value := (List.range n).map fun i => Value.chan (some (ch i))

/-- A slice of groups. -/
structure Grp (w : World) (po : Option Addr) (n pc : Nat) (zs : Nat → Int) : Prop where
  nil : po = none → n = 0 ∧ pc = 0
  cells : ∀ ad, po = some ad → ∀ (j : Nat) u, (zv zs n)[j]? = some u → w.cell? (ad.add j) = some u

set_option maxHeartbeats 400000 in
theorem cloneG (w : World) (ao : Option Addr) (l c : Nat) (zs : Nat → Int) (h : Grp w ao l c zs) (hc : l ≤ 17592186044416) :
    Calls Try.prog 20 #[.slice ao l c] w fun e w' => ∃ ro cap, e = .returned (.slice ro l cap) ∧ Hid (w'.ownsRow w.heap.size 3 1 (.slice ro l cap) l (zv zs l)) ∧ Hid (Fr (fun _ => False) w w') := by
  obtain ⟨i0, hi, hz0, hz1, hz2⟩ := info_parts Try.info3
  cases ao with
  | none =>
    obtain ⟨rfl, rfl⟩ := h.nil rfl
    have he := fun (w : World) => Lib.run_eql_slice_nil (P := Try.prog) w 23 3 none 0 0 0 0 Try.underlying23
    go_enter Try.func20, Try.ntmps20
    go_wp2
    go_ret
    exact ⟨none, 0, rfl, World.ownsRow_nil _ _ _ _, Fr.refl _ _⟩
  | some ad =>
    have he := fun (w : World) => Lib.run_eql_slice_nil (P := Try.prog) w 23 3 (some ad) l c 0 0 Try.underlying23
    have hrow : Hid ((w.alloc (.cells #[] 3)).ownsRow w.heap.size 3 1 (.slice (some ⟨w.heap.size, 0, none⟩) 0 0) 0 []) := World.ownsRow_made w #[] 0 (Nat.le_refl _) (Nat.zero_le _) rfl
    have hsrc : Hid (∀ a, some ad = some a → ∀ j u, (zv zs l)[j]? = some u → (w.alloc (.cells #[] 3)).cell? (a.add j) = some u) := by
      intro a ha j u hu
      have hc := h.cells a ha j u hu
      rw [World.cell?_of_block (Below.heap_alloc _ _ _ (block_lt_of_cell hc))]
      exact hc
    have hlen : Hid ((zv zs l).length = l * 1) := by unfold Hid zv; rw [List.length_map, List.length_range, Nat.mul_one]
    have hone : Hid (∀ u ∈ zv zs l, u.oneCell' = true) := by
      intro u hu
      obtain ⟨x, _, rfl⟩ := List.mem_map.1 hu
      rfl
    clear h
    go_enter Try.func20, Try.ntmps20
    go_wp2_with (at_builtin; refine wpList_append_gen rfl (.tmp 5) (.tmp 6) 23 rfl 3 i0 (.int .i64 0) 1 8 Try.underlying23 hi hz0 hz1 hz2 rfl (by decide) w.heap.size _ 0 0 [] (by simp [Act.eval]) hrow.out (some ad) l c (zv zs l) (by simp [Act.eval]) hlen.out (fun e => by cases e) hsrc.out hone.out (by unfold maxLen; omega) (by omega) (by simp) ?_; intro ro cap w' hown hgr hat; have Hown := hid hown; have Hgr := hid hgr; clear hown hgr hat)
    go_ret
    refine ⟨ro, cap, by simp, by unfold Hid; simpa using Hown.out, ?_⟩
    exact ((Fr.refl _ w).alloc _).grown Hgr.out (fun k e hk => by simp at e; omega)

set_option maxHeartbeats 400000 in
theorem new_bad (w : World) (po : Option Addr) (n pc : Nat) (h : n < 1 ∨ 32 < n) : Calls Try.prog 7 #[.slice po n pc] w fun e w' => e = .returned (.tuple #[.pointer none, .int .i64 2]) ∧ w = w' := by
  rcases h with h | h
  · go_enter Try.func7, Try.ntmps7
    go_wp2
    go_ret2
    exact ⟨rfl, rfl⟩
  · have h' : ¬ n < 1 := by omega
    go_enter Try.func7, Try.ntmps7
    go_wp2
    go_ret2
    exact ⟨rfl, rfl⟩

/-- What the loop has made. -/
structure NewW (w : World) (lb : Nat) (ga : Option Addr) (gc n : Nat) (zs : Nat → Int) (k : Nat) (pa : Option Addr) (cap : Nat) (ch : Nat → Nat) (wr : World) : Prop where
  l : wr.heap[lb]? = some (.cells #[.slice ga n gc, .slice pa k cap] 42 (0, 0))
  grp : wr.ownsRow w.heap.size 3 1 (.slice ga n gc) n (zv zs n)
  prt : wr.ownsRow w.heap.size 66 1 (.slice pa k cap) k (chs ch k)
  chan : ∀ i, i < k → wr.heap[ch i]? = some (.chan 16 #[] false 0 0 false) ∧ w.heap.size ≤ ch i
  inj : ∀ i j, i < k → j < k → i ≠ j → ch i ≠ ch j
  fr : Fr (fun k => w.heap.size ≤ k) w wr
  le : w.heap.size ≤ lb
def NewI (w : World) (lb : Nat) (ga : Option Addr) (gc n : Nat) (zs : Nat → Int) (g : Nat) (vk : Value) (wr : World) : Prop :=
  ∃ k pa cap ch, k ≤ n ∧ g = n - k ∧ vk = .int .i64 k ∧ NewW w lb ga gc n zs k pa cap ch wr

theorem owns_ge {w : World} {base e size n : Nat} {a : Option Addr} {l c : Nat} {xs : List Value} (h : w.ownsRow base e size (.slice a l c) n xs) : ∀ g, blk a = some g → base ≤ g ∧ ∃ cur, w.heap[g]? = some (.cells cur e (0, 0)) := by
  intro g hg
  rcases h.2 with ⟨hv, _⟩ | ⟨g', cp, cur, hv, hb, hg', _⟩
  · simp only [Value.slice.injEq] at hv; rw [hv.1] at hg; cases hg
  · simp only [Value.slice.injEq] at hv
    rw [hv.1] at hg
    cases hg
    exact ⟨hb, cur, hg'⟩

theorem NewW.step {w wr wa w1 : World} {lb : Nat} {ga : Option Addr} {gc n : Nat} {zs : Nat → Int} {k : Nat} {pa pa' : Option Addr} {cap cap' : Nat} {ch : Nat → Nat} (h : NewW w lb ga gc n zs k pa cap ch wr)
    (hwa : wa.heap = ((wr.alloc (.chan 16 #[] false 0 0 false)).alloc (.cells #[.chan (some wr.heap.size)] 66)).heap) (hwo : wa.os = wr.os ∧ wa.tape = wr.tape ∧ wa.output = wr.output)
    (hown : w1.ownsRow w.heap.size 66 1 (.slice pa' (k + 1) cap') (k + 1) (chs ch k ++ [.chan (some wr.heap.size)])) (hgr : wa.grownBy w1 (blk pa)) :
    (w1.cell? ⟨lb, 1, none⟩ = some (.slice pa k cap) ∧ w1.frozen? ⟨lb, 1, none⟩ = false) ∧ NewW w lb ga gc n zs (k + 1) pa' cap' (fun i => if i < k then ch i else wr.heap.size) (w1.setCell ⟨lb, 1, none⟩ (.slice pa' (k + 1) cap')) := by
  have hsz : wa.heap.size = wr.heap.size + 1 + 1 := by rw [hwa]; simp
  have hWr := h.fr.size
  have h2 := heap2 wr (.chan 16 #[] false 0 0 false) (.cells #[.chan (some wr.heap.size)] 66)
  rw [← hwa] at h2
  have old : ∀ g, g < wr.heap.size → wa.heap[g]? = wr.heap[g]? := fun g hg => by
    rw [hwa, Below.heap_alloc _ _ _ (by simp; omega), Below.heap_alloc _ _ _ hg]
  have kept : ∀ g, g < wr.heap.size → blk pa ≠ some g → w1.heap[g]? = wr.heap[g]? := fun g hg hne => (hgr.block g (by omega) (fun e => hne e.symm)).trans (old g hg)
  have pane : ∀ g o, wr.heap[g]? = some o → (∀ c, o ≠ .cells c 66 (0, 0)) → blk pa ≠ some g := by
    intro g o hg ho e
    obtain ⟨_, cur, hc⟩ := owns_ge h.prt g e
    rw [hg] at hc
    exact ho cur (Option.some.inj hc)
  have hlb := heap_lt h.l
  have hl1 : w1.heap[lb]? = some (.cells #[.slice ga n gc, .slice pa k cap] 42 (0, 0)) := (kept lb hlb (pane lb _ h.l (fun _ e => by cases e))).trans h.l
  have new1 : w1.heap[wr.heap.size]? = some (.chan 16 #[] false 0 0 false) := (hgr.block _ (by omega) (fun e => by have := owns_lt h.prt _ e.symm; omega)).trans h2.1
  have lbne : ∀ g o, w1.heap[g]? = some o → (∀ c fr, o ≠ .cells c 42 fr) → g ≠ lb := by
    intro g o hg ho e
    subst e
    rw [hl1] at hg
    exact ho _ _ (Option.some.inj hg).symm
  have chlt : ∀ i, i < k → ch i < wr.heap.size := fun i hi => heap_lt (h.chan i hi).1
  refine ⟨⟨(cell_at hl1).trans rfl, thawed hl1⟩, ⟨?_, ?_, ?_, fun i hi => ?_, fun i j hi hj hij => ?_, ?_, h.le⟩⟩
  · rw [heap_set hl1]; simp
  · refine owns_of_heap h.grp (fun g hg => ?_)
    rw [ownBlock_slice] at hg
    obtain ⟨_, cur, hc⟩ := owns_ge h.grp g hg
    have e1 := kept g (heap_lt hc) (pane g _ hc (fun _ e => by cases e))
    rw [heap_set_ne (lbne g _ (e1.trans hc) (fun _ _ e => by cases e))]
    exact e1
  · have e : chs (fun i => if i < k then ch i else wr.heap.size) (k + 1) = chs ch k ++ [.chan (some wr.heap.size)] := by
      unfold chs
      rw [List.range_succ, List.map_append]
      congr 1
      · apply List.map_congr_left
        intro i hi
        rw [List.mem_range] at hi
        simp [hi]
      · simp
    rw [e]
    refine owns_of_heap hown (fun g hg => ?_)
    rw [ownBlock_slice] at hg
    obtain ⟨_, cur, hc⟩ := owns_ge hown g hg
    exact heap_set_ne (lbne g _ hc (fun _ _ e => by cases e)) _
  · by_cases hik : i < k
    · simp only [if_pos hik]
      have hc := (h.chan i hik).1
      have e1 := kept (ch i) (chlt i hik) (pane _ _ hc (fun _ e => by cases e))
      exact ⟨by rw [heap_set_ne (lbne _ _ (e1.trans hc) (fun _ _ e => by cases e))]; exact e1.trans hc, (h.chan i hik).2⟩
    · simp only [if_neg hik]
      exact ⟨by rw [heap_set_ne (lbne _ _ new1 (fun _ _ e => by cases e))]; exact new1, hWr⟩
  · by_cases hik : i < k <;> by_cases hjk : j < k
    · simp only [if_pos hik, if_pos hjk]; exact h.inj i j hik hjk hij
    · simp only [if_pos hik, if_neg hjk]; have := chlt i hik; omega
    · simp only [if_neg hik, if_pos hjk]; have := chlt j hjk; omega
    · exact absurd (by omega) hij
  · have F1 : Fr (fun k => w.heap.size ≤ k) w wa := h.fr.then (T := fun _ => False) ⟨hwo.1, hwo.2.1, hwo.2.2, by omega, fun k hk _ => old k hk⟩ (fun _ _ h => h.elim)
    exact (F1.grown hgr (fun g e hk => (owns_ge h.prt g e).1)).setCell (fun _ => h.le) _

theorem NewW.wire {w wr : World} {lb : Nat} {ga : Option Addr} {gc n : Nat} {zs : Nat → Int} {pa : Option Addr} {cap : Nat} {ch : Nat → Nat} (h : NewW w lb ga gc n zs n pa cap ch wr) (h1 : 1 ≤ n) : WIRE (fun k => w.heap.size ≤ k) wr lb n zs (fun _ => []) := by
  obtain ⟨gb, gcap, e1, b1, _⟩ := h.grp.form (by omega)
  obtain ⟨pb, pcap, e2, b2, _⟩ := h.prt.form (by omega)
  simp only [Value.slice.injEq] at e1 e2
  obtain ⟨rfl, _, rfl⟩ := e1
  obtain ⟨rfl, _, rfl⟩ := e2
  obtain ⟨_, g1, a1⟩ := owns_ge h.grp gb rfl
  obtain ⟨_, p1, a2⟩ := owns_ge h.prt pb rfl
  refine ⟨gb, gc, pb, cap, ch, fun _ => [], ⟨h.l, ⟨g1, a1, fun i hi => ?_⟩, ⟨p1, a2, fun i hi => ?_⟩, fun i hi => ⟨0, 0, (h.chan i hi).1⟩, fun i _ m hm => (by cases hm), h.inj, fun _ _ => List.Pairwise.nil, fun i j _ _ _ m hm => (by cases hm), h.le, b1, b2, fun i hi => ⟨(h.chan i hi).2, fun m hm => (by cases hm)⟩⟩, fun _ _ => rfl⟩
  · have := h.grp.cells (g := gb) rfl i (.int .i64 (zs i)) (by simp [zv, hi])
    rw [Addr.add_lit, Nat.zero_add, cell_at a1] at this
    exact this
  · have := h.prt.cells (g := pb) rfl i (.chan (some (ch i))) (by simp [chs, hi])
    rw [Addr.add_lit, Nat.zero_add, cell_at a2] at this
    exact this

set_option maxHeartbeats 1000000 in
set_option maxRecDepth 100000 in
theorem new_any (w : World) (po : Option Addr) (n pc : Nat) (zs : Nat → Int) (h : Grp w po n pc zs) (h1 : 1 ≤ n) (h32 : n ≤ 32) :
    Calls Try.prog 7 #[.slice po n pc] w fun e w' => ∃ lb, e = .returned (.tuple #[.pointer (some ⟨lb, 0, none⟩), .int .i64 0]) ∧ Hid (WIRE (fun k => w.heap.size ≤ k) w' lb n zs (fun _ => [])) ∧ Hid (Fr (fun _ => False) w w') := by
  obtain ⟨i0, hi, hz0, hz1, hz2⟩ := info_parts Try.info66
  have hmc := mk16
  have HC := hid (cloneG w po n pc zs h (by omega))
  clear h
  go_enter Try.func7, Try.ntmps7
  go_wp2_with (go_at_call 20; refine HC.out.mono ?_; rintro e wg ⟨ga, gc, rfl, Hg, HF⟩)
  have hst : Hid (NewI w wg.heap.size ga gc n zs n (.int .i64 0) (wg.alloc (.cells #[.slice ga n gc, .slice none 0 0] 42))) := by
    refine ⟨0, none, 0, fun _ => 0, Nat.zero_le _, rfl, rfl, ⟨heap_alloc_new wg _, ?_, World.ownsRow_nil _ _ _ _, fun i hi => absurd hi (by omega), fun i j hi => absurd hi (by omega), (HF.out.mono (fun _ _ h => h.elim)).alloc _, HF.out.size⟩⟩
    refine owns_of_heap Hg.out (fun g hg => ?_)
    rw [ownBlock_slice] at hg
    exact Below.heap_alloc _ _ _ (owns_lt Hg.out g hg)
  generalize wg.heap.size = lb at *
  clear Hg HF HC
  go_loopg [19] n (fun g vk wr => NewI w lb ga gc n zs g vk wr)
  case atStart => exact hst.out
  case round =>
    obtain ⟨k, pa, cap, ch, hk, rfl, rfl, hN⟩ := hrel
    have c0 := (cell_at (o := 1) hN.l).trans rfl
    by_cases hlt : k < n
    · have hlb := heap_lt hN.l
      have hrow : Hid (∀ wa : World, wa.heap = ((wr.alloc (.chan 16 #[] false 0 0 false)).alloc (.cells #[.chan (some wr.heap.size)] 66)).heap →
          wa.ownsRow w.heap.size 66 1 (.slice pa k cap) k (chs ch k) ∧ ∀ ad, some (⟨wr.heap.size + 1, 0, none⟩ : Addr) = some ad → ∀ j u, [Value.chan (some wr.heap.size)][j]? = some u → wa.cell? (ad.add j) = some u) := by
        intro wa hwa
        refine ⟨owns_of_heap hN.prt (fun g hg => ?_), fun ad had j u hu => ?_⟩
        · rw [ownBlock_slice] at hg
          have := owns_lt hN.prt g hg
          rw [hwa, Below.heap_alloc _ _ _ (by simp; omega), Below.heap_alloc _ _ _ this]
        · obtain rfl := Option.some.inj had
          have h2 := heap2 wr (.chan 16 #[] false 0 0 false) (.cells #[.chan (some wr.heap.size)] 66)
          rw [← hwa] at h2
          rw [Addr.add_lit, cell_at h2.2]
          match j, hu with
          | 0, hu => simpa using hu
      have hend : Hid (∀ (wa w1 : World) (pa' : Option Addr) (cap' : Nat), wa.heap = ((wr.alloc (.chan 16 #[] false 0 0 false)).alloc (.cells #[.chan (some wr.heap.size)] 66)).heap → (wa.os = wr.os ∧ wa.tape = wr.tape ∧ wa.output = wr.output) →
          w1.ownsRow w.heap.size 66 1 (.slice pa' (k + 1) cap') (k + 1) (chs ch k ++ [.chan (some wr.heap.size)]) → wa.grownBy w1 (blk pa) → (∀ g, blk pa' = some g → blk pa = some g ∨ g = wa.heap.size) →
          (w1.cell? ⟨lb, 1, none⟩ = some (.slice pa k cap) ∧ w1.frozen? ⟨lb, 1, none⟩ = false) ∧ Hid (NewI w lb ga gc n zs (n - (k + 1)) (.int .i64 ((k : Int) + 1)) (w1.setCell ⟨lb, 1, none⟩ (.slice pa' (k + 1) cap')))) := by
        intro wa w1 pa' cap' e1 e2 e3 e4 _
        obtain ⟨r1, r2⟩ := hN.step e1 e2 e3 e4
        exact ⟨r1, k + 1, pa', cap', _, by omega, rfl, by go_num, r2⟩
      have hbase := hN.fr.size
      clear hN hst
      go_wp2
      go_region_law (refine step_append_gen rfl (.tmp 25) (.tmp 27) 40 rfl 66 i0 (.chan none) 1 8 Try.underlying40 hi hz0 hz1 hz2 rfl (by decide) w.heap.size pa k cap (chs ch k) (by simp [Act.eval]) (hrow.out _ (by rfl)).1 _ 1 1 [.chan (some wr.heap.size)] (by simp [Act.eval]) rfl (fun e => by cases e) (hrow.out _ (by rfl)).2 (by simp [Value.oneCell']) (by unfold maxLen; omega) (by omega) (by simp; omega) ?_; intro pa' cap' w1 hown hgr hat; obtain ⟨⟨q0, g0⟩, HN⟩ := hend.out _ w1 pa' cap' (by rfl) ⟨by rfl, by rfl, by rfl⟩ hown hgr hat; clear hown hgr hat)
      all_goals go_wp2
      all_goals go_roundg (n - (k + 1))
      all_goals first
        | exact HN.out
        | omega
    · obtain rfl : k = n := by omega
      have hfin : Hid (WIRE (fun k => w.heap.size ≤ k) wr lb k zs (fun _ => []) ∧ Fr (fun _ => False) w wr) := ⟨hN.wire h1, ⟨hN.fr.os, hN.fr.tape, hN.fr.output, hN.fr.size, fun k hk _ => hN.fr.block k hk (by omega)⟩⟩
      clear hN hst
      go_wp2
      go_ret2
      exact ⟨lb, rfl, hfin.out⟩
end Go.Proofs.Ytjoamafcmknglaa

/-
  A wire's functions, more of them. No conditions.
-/
import Derived.Test.YtjoamafcmknglaaWir
namespace Go.Proofs.Ytjoamafcmknglaa
open Go.RowKit Go.Conc

section
variable (S : Nat → Prop) (w : World) (lb n : Nat) (G : Nat → Int) (Q : Nat → List (Int × List UInt8)) (h : WIRE S w lb n G Q)
include h

theorem wrong_in (i : Nat) (hi : i < n) : Hid (Calls Try.prog 21 #[.pointer (some ⟨lb, 0, none⟩), .int .i64 i] w fun e w' => e = .returned (.int .i64 0) ∧ w = w') := by
  obtain ⟨gb, gc, pb, pc, ch, q, hW, hQ⟩ := h
  exact wrong_ok w lb _ n pc hW.cellsP.2.1 i (by omega) (by omega)
theorem wrong_out (i : Int) (hi : i < 0 ∨ (n : Int) ≤ i) : Hid (Calls Try.prog 21 #[.pointer (some ⟨lb, 0, none⟩), .int .i64 i] w fun e w' => e = .returned (.int .i64 2) ∧ w = w') := by
  obtain ⟨gb, gc, pb, pc, ch, q, hW, hQ⟩ := h
  exact wrong_bad w lb _ n pc hW.cellsP.2.1 i hi

set_option maxHeartbeats 400000 in
theorem waiting_in (i : Nat) (hi : i < n) : Calls Try.prog 10 #[.pointer (some ⟨lb, 0, none⟩), .int .i64 i] w fun e w' => e = .returned (.int .i64 (Q i).length) ∧ w = w' := by
  have HW := wrong_in S w lb n G Q h i hi
  obtain ⟨gb, gc, pb, pc, ch, q, hW, hQ⟩ := h
  obtain ⟨c0, c1, c2, c3⟩ := hW.cellsP
  replace c3 := c3 i hi
  have hin : ((i : Int) < (n : Int)) := by omega
  obtain ⟨s, r, hc⟩ := hW.chan i hi
  have hlen := fun ty => run_len_chan (P := Try.prog) 66 ty Try.underlying66 hc
  rw [vals_size, ← List.length_map (f := Msg.told), ← hQ i hi] at hlen
  clear hW hQ c0 c2 hc
  go_enter Try.func10, Try.ntmps10
  go_wp2_with (go_at_call 21; refine HW.out.mono ?_; rintro e w' ⟨rfl, rfl⟩)
  go_ret
  exact ⟨rfl, rfl⟩

set_option maxHeartbeats 400000 in
theorem waiting_out (i : Int) (hi : i < 0 ∨ (n : Int) ≤ i) : Calls Try.prog 10 #[.pointer (some ⟨lb, 0, none⟩), .int .i64 i] w fun e w' => e = .returned (.int .i64 0) ∧ w = w' := by
  have HW := wrong_out S w lb n G Q h i hi
  clear h hi
  go_enter Try.func10, Try.ntmps10
  go_wp2_with (go_at_call 21; refine HW.out.mono ?_; rintro e w' ⟨rfl, rfl⟩)
  go_ret
  exact ⟨rfl, rfl⟩

set_option maxHeartbeats 400000 in
theorem join_out (i : Int) (hi : i < 0 ∨ (n : Int) ≤ i) (x : Value) : Calls Try.prog 12 #[.pointer (some ⟨lb, 0, none⟩), .int .i64 i, x] w fun e w' => e = .returned (.int .i64 2) ∧ w = w' := by
  have HW := wrong_out S w lb n G Q h i hi
  clear h hi
  go_enter Try.func12, Try.ntmps12
  go_wp2_with (go_at_call 21; refine HW.out.mono ?_; rintro e w' ⟨rfl, rfl⟩)
  go_ret
  exact ⟨rfl, rfl⟩

set_option maxHeartbeats 400000 in
theorem join_in (i : Nat) (hi : i < n) (x : Int) : Calls Try.prog 12 #[.pointer (some ⟨lb, 0, none⟩), .int .i64 i, .int .i64 x] w fun e w' => e = .returned (.int .i64 0) ∧ Hid (WIRE S w' lb n (updA G i x) Q) ∧ Hid (Fr S w w') := by
  have HW := wrong_in S w lb n G Q h i hi
  obtain ⟨gb, gc, pb, pc, ch, q, hW, hQ⟩ := h
  obtain ⟨c0, c1, c2, c3⟩ := hW.cellsP
  replace c2 := c2 i hi
  have hin : ((i : Int) < (n : Int)) := by omega
  have f2 : w.frozen? ⟨gb, i, none⟩ = false := by obtain ⟨g1, h1, h2⟩ := hW.grp; exact thawed h1
  have hfin : Hid (WIRE S (w.setCell ⟨gb, i, none⟩ (.int .i64 x)) lb n (updA G i x) Q ∧ Fr S w (w.setCell ⟨gb, i, none⟩ (.int .i64 x))) := by
    obtain ⟨g1, h1, h2⟩ := hW.grp
    obtain ⟨p1, h3, h4⟩ := hW.prt
    have far : ∀ (k : Nat) (o : Obj), w.heap[k]? = some o → (∀ c fr, o ≠ .cells c 3 fr) → (w.setCell ⟨gb, i, none⟩ (.int .i64 x)).heap[k]? = w.heap[k]? := by
      intro k o hk ho
      refine heap_set_ne (fun e => ?_) _
      subst e
      rw [h1] at hk
      exact ho _ _ (Option.some.inj hk).symm
    refine ⟨⟨gb, gc, pb, pc, ch, q, ⟨?_, ⟨_, heap_set h1 _, fun j hj => ?_⟩, ⟨p1, ?_, h4⟩, fun j hj => ?_, fun j hj m hm => ⟨?_, (hW.msgs j hj m hm).2⟩, hW.inj, hW.pw, hW.cross, hW.mine⟩, hQ⟩, (Fr.refl S w).setCell (fun _ => hW.mine.2.1) _⟩
    · rw [far _ _ hW.l (fun _ _ e => by cases e)]; exact hW.l
    · rw [Array.getElem?_setIfInBounds]
      unfold updA
      have hs : i < g1.size := by
        rcases Nat.lt_or_ge i g1.size with h' | h'
        · exact h'
        · have := h2 i hi
          rw [Array.getElem?_eq_none h'] at this; cases this
      by_cases e : i = j
      · subst e; simp [hs]
      · rw [if_neg e, if_neg (Ne.symm e)]; exact h2 j hj
    · rw [far _ _ h3 (fun _ _ e => by cases e)]; exact h3
    · obtain ⟨s, r, hc⟩ := hW.chan j hj
      exact ⟨s, r, by rw [far _ _ hc (fun _ _ e => by cases e)]; exact hc⟩
    · refine owns_of_heap (hW.msgs j hj m hm).1 (fun g hg => ?_)
      rcases (hW.msgs j hj m hm).1.2 with ⟨hv, _⟩ | ⟨g', cp, cur, hv, _, hg', _⟩
      · rw [hv] at hg; cases hg
      · rw [hv] at hg
        cases hg
        exact far _ _ hg' (fun _ _ e => by cases e)
  clear hW hQ c3 c1
  go_enter Try.func12, Try.ntmps12
  go_wp2_with (go_at_call 21; refine HW.out.mono ?_; rintro e w' ⟨rfl, rfl⟩)
  go_ret
  exact ⟨rfl, hfin.out⟩

set_option maxHeartbeats 400000 in
theorem receive_out (i : Int) (hi : i < 0 ∨ (n : Int) ≤ i) : Calls Try.prog 9 #[.pointer (some ⟨lb, 0, none⟩), .int .i64 i] w fun e w' => e = .returned (.tuple #[.agg #[.int .i64 0, .slice none 0 0], .bool false]) ∧ Hid (Fr (fun _ => False) w w') := by
  obtain ⟨gb, gc, pb, pc, ch, q, hW, hQ⟩ := h
  have hp := hW.cellsP.2.1
  have HW : Hid (∀ w' : World, w'.heap = (w.alloc (.cells #[.int .i64 0, .slice none 0 0] 34)).heap → Calls Try.prog 21 #[.pointer (some ⟨lb, 0, none⟩), .int .i64 i] w' fun e w'' => e = .returned (.int .i64 2) ∧ w' = w'') := by
    intro w' hw'
    refine wrong_bad w' lb ⟨pb, 0, none⟩ n pc ?_ i hi
    rw [World.cell?_of_block (w := w) (a := ⟨lb, 1, none⟩) (by rw [hw']; exact Below.heap_alloc _ _ _ (heap_lt hW.l))]
    exact hp
  clear hW hQ hi hp
  go_enter Try.func9, Try.ntmps9
  go_wp2_with (go_at_call 21; refine (HW.out _ (by rfl)).mono ?_; rintro e w' ⟨rfl, rfl⟩)
  refine bodyPost_ret (v := .tuple #[.agg #[.int .i64 0, .slice none 0 0], .bool false]) (by simp [results, Try.results9, go_sem]) rfl ⟨rfl, (Fr.refl _ _).alloc _⟩

end

/-- The first message of a port is taken out: its block is no more the wire's. -/
theorem WAt.take {S : Nat → Prop} {w : World} {lb gb gc pb pc n : Nat} {G : Nat → Int} {ch : Nat → Nat} {q : Nat → List Msg} (h : WAt S w lb gb gc pb pc n G ch q) {i : Nat} (hi : i < n) (m : Msg) (l : List Msg) (hl : q i = m :: l) (s r : Nat) :
    WAt (fun k => S k ∧ blk m.ro ≠ some k) (w.setChan (ch i) 16 (vals l) false s r false) lb gb gc pb pc n G ch (updA q i l) ∧ Fr S w (w.setChan (ch i) 16 (vals l) false s r false) := by
  have hmi : m ∈ q i := by rw [hl]; exact List.mem_cons_self
  have hpw := h.pw i hi
  rw [hl, List.pairwise_cons] at hpw
  have hsub : ∀ m' ∈ l, m' ∈ q i := fun m' hm' => by rw [hl]; exact List.mem_cons_of_mem _ hm'
  obtain ⟨t1, t2⟩ := h.turn hi l s r (fun m' hm' => ⟨h.msgs i hi m' (hsub m' hm'), fun g hg => (h.mine.2.2.2 i hi).2 m' (hsub m' hm') g hg⟩) hpw.2
    (fun j hj hji m1 hm1 m2 hm2 => ⟨h.cross i j hi hj (Ne.symm hji) m1 (hsub m1 hm1) m2 hm2, h.cross j i hj hi hji m2 hm2 m1 (hsub m1 hm1)⟩)
  have hcell : ∀ g, blk m.ro = some g → ∃ c, w.heap[g]? = some (.cells c 5 (0, 0)) := by
    intro g hg
    rcases (h.msgs i hi m hmi).1.2 with ⟨hv, _⟩ | ⟨g', cp, cur, hv, _, hg', _⟩
    · simp only [Value.slice.injEq] at hv; rw [hv.1] at hg; cases hg
    · simp only [Value.slice.injEq] at hv
      rw [hv.1] at hg
      cases hg
      exact ⟨cur, hg'⟩
  have other : ∀ (k : Nat) (o : Obj), w.heap[k]? = some o → (∀ c, o ≠ .cells c 5 (0, 0)) → blk m.ro ≠ some k := by
    intro k o hk ho e
    obtain ⟨c, hc⟩ := hcell k e
    rw [hk] at hc
    exact ho c (Option.some.inj hc)
  obtain ⟨g1, a1, _⟩ := h.grp
  obtain ⟨p1, a3, _⟩ := h.prt
  refine ⟨⟨t1.l, t1.grp, t1.prt, t1.chan, t1.msgs, t1.inj, t1.pw, t1.cross, ⟨h.mine.1, other _ _ h.l (fun _ e => by cases e)⟩, ⟨h.mine.2.1, other _ _ a1 (fun _ e => by cases e)⟩, ⟨h.mine.2.2.1, other _ _ a3 (fun _ e => by cases e)⟩, fun j hj => ⟨⟨(h.mine.2.2.2 j hj).1, ?_⟩, fun m' hm' g hg => ⟨(t1.mine.2.2.2 j hj).2 m' hm' g hg, fun e => ?_⟩⟩⟩, t2⟩
  · obtain ⟨s', r', hc⟩ := h.chan j hj
    exact other _ _ hc (fun _ e => by cases e)
  · by_cases e' : j = i
    · simp only [updA, if_pos e'] at hm'
      exact hpw.1 m' hm' g e hg
    · simp only [updA, if_neg e'] at hm'
      exact h.cross i j hi hj (Ne.symm e') m hmi m' hm' g e hg

section
variable (S : Nat → Prop) (w : World) (lb n : Nat) (G : Nat → Int) (Q : Nat → List (Int × List UInt8)) (h : WIRE S w lb n G Q)
include h

set_option maxHeartbeats 400000 in
theorem receive_none (i : Nat) (hi : i < n) (hq : Q i = []) : Calls Try.prog 9 #[.pointer (some ⟨lb, 0, none⟩), .int .i64 i] w fun e w' => e = .returned (.tuple #[.agg #[.int .i64 0, .slice none 0 0], .bool false]) ∧ Hid (Fr (fun k => w.heap.size ≤ k) w w') := by
  obtain ⟨gb, gc, pb, pc, ch, q, hW0, hQ⟩ := h
  have hqi : q i = [] := by have := hQ i hi; rw [hq] at this; exact List.map_eq_nil_iff.1 this.symm
  obtain ⟨w1, hw1⟩ : ∃ w1, w1 = w.alloc (.cells #[.int .i64 0, .slice none 0 0] 34) := ⟨_, rfl⟩
  have F1 : Fr (fun _ => False) w w1 := by rw [hw1]; exact (Fr.refl _ _).alloc _
  have hW : WAt S w1 lb gb gc pb pc n G ch q := hW0.of_heap (fun k hk _ => F1.block k hk (fun h => h))
  obtain ⟨c0, c1, c2, c3⟩ := hW.cellsP
  replace c3 := c3 i hi
  have hin : ((i : Int) < (n : Int)) := by omega
  have HW := hid (wrong_ok w1 lb ⟨pb, 0, none⟩ n pc c1 i (by omega) hin)
  obtain ⟨s, r, hc⟩ := hW.chan i hi
  rw [hqi] at hc
  have hcl := heap_lt hc
  have hRh : w1.heap[w.heap.size]? = some (.cells #[.int .i64 0, .slice none 0 0] 34 (0, 0)) := by rw [hw1]; exact heap_alloc_new w _
  have cR := cell_at (o := 0) hRh
  have cR1 := cell_at (o := 1) hRh
  have fR := thawed (o := 0) hRh
  have fR1 := thawed (o := 1) hRh
  simp at cR cR1
  have HF := hid F1
  clear hW hW0 hQ c0 c2 hq hqi F1
  refine calls_of_wpN Try.func9 rfl ?_
  simp only [Try.ntmps9, List.size_toArray, List.length_cons, List.length_nil, Nat.reduceAdd, Nat.reduceSub, Array.replicate_succ, Array.replicate_zero, List.push_toArray, List.append_toArray, List.nil_append, List.cons_append]
  refine wpN_seq_k (fun K HK => ?_)
  go_wp2_with fail
  rw [← hw1]
  clear hw1
  refine HK.out _ _ ?_
  clear HK K
  refine wpN_seq_k (fun K HK => ?_)
  go_wp2_with (go_at_call 21; refine HW.out.mono ?_; rintro e w' ⟨rfl, rfl⟩)
  refine HK.out _ _ ?_
  clear HK K
  refine wpN_seq_k (fun K HK => ?_)
  go_wp2_with fail
  refine HK.out _ _ ?_
  clear HK K
  refine wpN_seqN ?_
  refine wpN_recv_none (z := .agg #[.int .i64 0, .slice none 0 0]) rfl (by simp [go_sem, execOp, rcase, Act.eval]) hc ?_
  go_wp2
  refine wpN_of_wp ?_
  go_wp2
  refine bodyPost_ret (v := .tuple #[.agg #[.int .i64 0, .slice none 0 0], .bool false]) (by simp [results, Try.results9, go_sem, *]) rfl ⟨rfl, ?_⟩
  have F2 : Fr (fun k => w.heap.size ≤ k) w w1 := HF.out.mono (fun _ _ h => h.elim)
  exact (F2.setCell (fun _ => Nat.le_refl _) _).setCell (fun _ => Nat.le_refl _) _

set_option maxHeartbeats 400000 in
theorem receive_some (hS : ∀ k, w.heap.size ≤ k → S k) (i : Nat) (hi : i < n) (src : Int) (bs : List UInt8) (rest : List (Int × List UInt8)) (hq : Q i = (src, bs) :: rest) :
    Calls Try.prog 9 #[.pointer (some ⟨lb, 0, none⟩), .int .i64 i] w fun e w' => ∃ ro cap, e = .returned (.tuple #[.agg #[.int .i64 src, .slice ro bs.length cap], .bool true]) ∧ Hid (w'.ownsRow 0 5 1 (.slice ro bs.length cap) bs.length (bv bs)) ∧ bs.length ≤ 2048 ∧
      Hid (∀ g, blk ro = some g → S g) ∧ Hid (WIRE (fun k => S k ∧ blk ro ≠ some k) w' lb n G (updA Q i rest)) ∧ Hid (Fr S w w') := by
  obtain ⟨gb, gc, pb, pc, ch, q, hW0, hQ⟩ := h
  obtain ⟨m, l, hqi, hm1, hm2⟩ : ∃ m l, q i = m :: l ∧ m.told = (src, bs) ∧ l.map Msg.told = rest := by
    have := hQ i hi
    rw [hq] at this
    obtain ⟨m, l, e1, e2, e3⟩ := List.map_eq_cons_iff.1 this.symm
    exact ⟨m, l, e1, e2, e3⟩
  obtain ⟨w1, hw1⟩ : ∃ w1, w1 = w.alloc (.cells #[.int .i64 0, .slice none 0 0] 34) := ⟨_, rfl⟩
  have F1 : Fr (fun _ => False) w w1 := by rw [hw1]; exact (Fr.refl _ _).alloc _
  have hW : WAt S w1 lb gb gc pb pc n G ch q := hW0.of_heap (fun k hk _ => F1.block k hk (fun h => h))
  obtain ⟨c0, c1, c2, c3⟩ := hW.cellsP
  replace c3 := c3 i hi
  have hin : ((i : Int) < (n : Int)) := by omega
  have HW := hid (wrong_ok w1 lb ⟨pb, 0, none⟩ n pc c1 i (by omega) hin)
  obtain ⟨s, r, hc⟩ := hW.chan i hi
  rw [hqi] at hc
  have hcl := heap_lt hc
  have hRh : w1.heap[w.heap.size]? = some (.cells #[.int .i64 0, .slice none 0 0] 34 (0, 0)) := by rw [hw1]; exact heap_alloc_new w _
  have cR := cell_at (o := 0) hRh
  have cR1 := cell_at (o := 1) hRh
  have fR := thawed (o := 0) hRh
  have fR1 := thawed (o := 1) hRh
  simp at cR cR1
  have HF := hid F1
  have hmi : m ∈ q i := by rw [hqi]; exact List.mem_cons_self
  obtain ⟨hmo, hm48⟩ := hW.msgs i hi m hmi
  have hmS := (hW.mine.2.2.2 i hi).2 m hmi
  obtain ⟨t1, t2⟩ := hW.take hi m l hqi s (r + 1)
  obtain ⟨msrc, ro, cap, mbs⟩ := m
  simp only [Msg.told, Prod.mk.injEq] at hm1
  obtain ⟨rfl, rfl⟩ := hm1
  dsimp only at hmo hm48 hmS
  have hold : ∀ g, blk ro = some g → g < w.heap.size := by
    intro g hg
    exact owns_lt (hW0.msgs i hi _ hmi).1 g hg
  obtain ⟨w2, hw2⟩ : ∃ w2, w2 = w1.setChan (ch i) 16 (vals l) false s (r + 1) false := ⟨_, rfl⟩
  rw [← hw2] at t1 t2
  have hci : ch i ≠ w.heap.size := fun e => by rw [e, hRh] at hc; cases hc
  have hR2 : w2.heap[w.heap.size]? = some (.cells #[.int .i64 0, .slice none 0 0] 34 (0, 0)) := by rw [hw2, setChan_ne _ _ _ _ _ _ _ _ _ hci]; exact hRh
  have h2s : w2.heap.size = w.heap.size + 1 := by rw [hw2, hw1]; simp [World.setChan]
  have dR := cell_at (o := 0) hR2
  have dR1 := cell_at (o := 1) hR2
  have gR := thawed (o := 0) hR2
  have gR1 := thawed (o := 1) hR2
  simp at dR dR1
  have hRl : w.heap.size < w2.heap.size := by omega
  have hsel : (w1.setChan (ch i) 16 ((vals (⟨msrc, ro, cap, mbs⟩ :: l)).extract 1 (vals (⟨msrc, ro, cap, mbs⟩ :: l)).size) false s (r + 1) false) = w2 := by rw [vals_pop, hw2]
  have hfin : Hid (∀ w' : World, Fr (fun k => k = w.heap.size) w2 w' → w'.ownsRow 0 5 1 (.slice ro mbs.length cap) mbs.length (bv mbs) ∧ WIRE (fun k => S k ∧ blk ro ≠ some k) w' lb n G (updA Q i rest) ∧ Fr S w w') := by
    intro w' hF
    have hRS : S w.heap.size := hS _ (Nat.le_refl _)
    have nR : ∀ (k : Nat) (o : Obj), w2.heap[k]? = some o → (∀ c fr, o ≠ Obj.cells c 34 fr) → w'.heap[k]? = w2.heap[k]? := by
      intro k o hk ho
      refine hF.block k (heap_lt hk) (fun e => ?_)
      subst e
      rw [hR2] at hk
      exact ho _ _ (Option.some.inj hk).symm
    have t1' : WAt (fun k => S k ∧ blk ro ≠ some k) w' lb gb gc pb pc n G ch (updA q i l) := by
      obtain ⟨g1, a1, a2⟩ := t1.grp
      obtain ⟨p1, a3, a4⟩ := t1.prt
      refine ⟨by rw [nR _ _ t1.l (fun _ _ e => by cases e)]; exact t1.l, ⟨g1, by rw [nR _ _ a1 (fun _ _ e => by cases e)]; exact a1, a2⟩, ⟨p1, by rw [nR _ _ a3 (fun _ _ e => by cases e)]; exact a3, a4⟩, fun j hj => ?_, fun j hj m hm => ⟨?_, (t1.msgs j hj m hm).2⟩, t1.inj, t1.pw, t1.cross, t1.mine⟩
      · obtain ⟨s', r', hc'⟩ := t1.chan j hj
        exact ⟨s', r', by rw [nR _ _ hc' (fun _ _ e => by cases e)]; exact hc'⟩
      · refine owns_of_heap (t1.msgs j hj m hm).1 (fun g hg => ?_)
        rcases (t1.msgs j hj m hm).1.2 with ⟨hv, _⟩ | ⟨g', cp, cur, hv, _, hg', _⟩
        · rw [hv] at hg; cases hg
        · rw [hv] at hg; cases hg
          exact nR _ _ hg' (fun _ _ e => by cases e)
    refine ⟨?_, ⟨gb, gc, pb, pc, ch, _, t1', fun j hj => ?_⟩, ?_⟩
    · refine owns_of_heap hmo (fun g hg => ?_)
      rw [ownBlock_slice] at hg
      have hgl := hold g hg
      rw [hF.block g (by omega) (by omega), hw2]
      refine setChan_ne _ _ _ _ _ _ _ _ _ (fun e => ?_)
      rcases hmo.2 with ⟨hv, _⟩ | ⟨g', cp, cur, hv, _, hg', _⟩
      · simp only [Value.slice.injEq] at hv; rw [hv.1] at hg; cases hg
      · simp only [Value.slice.injEq] at hv; rw [hv.1] at hg; cases hg
        have e2 : ch i = g' := e
        rw [← e2, hc] at hg'; cases hg'
    · unfold updA
      by_cases e : j = i
      · simp only [if_pos e, hm2]
      · simp only [if_neg e]; exact hQ j hj
    · have F2 : Fr S w w2 := (F1.mono (fun _ _ h => h.elim)).trans t2
      exact F2.trans (hF.mono (fun k _ e => e ▸ hRS))
  have HmS := hid hmS
  have Hsel := hid hsel
  clear hW hW0 hQ c0 c2 hq hqi F1 hmS t1 t2 hmo hS hsel hold hmi hm2 hR2 hRh hw2
  refine calls_of_wpN Try.func9 rfl ?_
  simp only [Try.ntmps9, List.size_toArray, List.length_cons, List.length_nil, Nat.reduceAdd, Nat.reduceSub, Array.replicate_succ, Array.replicate_zero, List.push_toArray, List.append_toArray, List.nil_append, List.cons_append]
  refine wpN_seq_k (fun K HK => ?_)
  go_wp2_with fail
  rw [← hw1]
  clear hw1
  refine HK.out _ _ ?_
  clear HK K
  refine wpN_seq_k (fun K HK => ?_)
  go_wp2_with (go_at_call 21; refine HW.out.mono ?_; rintro e w' ⟨rfl, rfl⟩)
  refine HK.out _ _ ?_
  clear HK K
  refine wpN_seq_k (fun K HK => ?_)
  go_wp2_with fail
  refine HK.out _ _ ?_
  clear HK K
  refine wpN_seqN ?_
  refine wpN_recv_buf (z := .agg #[.int .i64 0, .slice none 0 0]) rfl (by simp [go_sem, execOp, rcase, Act.eval]) hc (by simp [vals]) ?_
  rw [Hsel.out, show (vals (⟨msrc, ro, cap, mbs⟩ :: l)).getD 0 undef = .agg #[.int .i64 msrc, .slice ro mbs.length cap] from by simp [vals, Msg.val]]
  go_wp2
  refine wpN_of_wp ?_
  go_wp2
  obtain ⟨f1, f2, f3⟩ := hfin.out _ ((((Fr.refl (fun k => k = w.heap.size) w2).setCell (p := ⟨w.heap.size, 0, none⟩) (fun _ => rfl) (.int .i64 msrc)).setCell (p := ⟨w.heap.size, 1, none⟩) (fun _ => rfl) (.slice ro mbs.length cap)).alloc (.cells #[.int .i64 msrc, .slice ro mbs.length cap] 34))
  exact bodyPost_ret (v := .tuple #[.agg #[.int .i64 msrc, .slice ro mbs.length cap], .bool true]) (by simp [results, Try.results9, go_sem, *]) rfl ⟨ro, cap, rfl, f1, hm48, HmS.out, f2, f3⟩
end
end Go.Proofs.Ytjoamafcmknglaa

/-
  LinesPlay, walked. No conditions.
-/
import Derived.Test.YtmnomjeiijpinaaPlay0
import Derived.Deep.CutBlock
import Derived.Deep.LoopGhost
import Derived.Deep.RegionHeld3
namespace Go.Proofs.Ytmnomjeiijpinaa
open Go.RowKit Go.Conc

def actCells (x : Act4) : Array Value := #[.int .i64 x.kind, .int .i64 x.core, .int .i64 x.event, .int .u64 x.n]

def PlayI (W : World) (B n pl g : Nat) (vi : Value) (wr : World) : Prop :=
  ∃ (i : Nat) (st : Nat → LC), i ≤ pl ∧ g = pl - i ∧ vi = .int .i64 i ∧ LINB W B wr n st ∧ RP (fun k => B ≤ k) wr (B + 1) n st ∧ B ≤ wr.heap.size ∧ ∀ j, ClockOk (st j)

theorem Two.locs {W : World} {B rb n kb : Nat} {x : Act4} {w : World} {s t : Nat → LC} (h : Two W B rb n kb (actCells x) w s t) :
    w.cell? ⟨kb, 0, none⟩ = some (.int .i64 x.kind) ∧ w.cell? ⟨kb, 1, none⟩ = some (.int .i64 x.core) ∧ w.cell? ⟨kb, 2, none⟩ = some (.int .i64 x.event) ∧ w.cell? ⟨kb, 3, none⟩ = some (.int .u64 x.n) :=
  ⟨(cell_at h.loc).trans rfl, (cell_at h.loc).trans rfl, (cell_at h.loc).trans rfl, (cell_at h.loc).trans rfl⟩

theorem Two.round {W : World} {B n kb : Nat} {cs : Array Value} {w : World} {s : Nat → LC} (h : Two W B (B + 1) n kb cs w s s) : LINB W B w n s ∧ RP (fun k => B ≤ k) w (B + 1) n s ∧ B ≤ w.heap.size ∧ ∀ j, ClockOk (s j) :=
  ⟨h.lin, h.ref.mono (fun _ _ a => a.1), Nat.le_trans h.le (Nat.le_of_lt (heap_lt h.loc)), h.sOk⟩

set_option maxHeartbeats 1000000 in
theorem names_ok (w : World) : Calls Try.prog 17 #[] w fun e w' => e = .returned (.bool true) ∧ w = w' := by
  go_enter Try.func17, Try.ntmps17
  go_wp2
  go_ret
  exact ⟨rfl, rfl⟩

set_option maxHeartbeats 4000000 in
set_option maxRecDepth 100000 in
theorem play_walk (cores : Int) (po : Option Addr) (pl pc : Nat) (ac : Nat → Act4) (W : World) (hA : Acts W po pl pc ac) :
    Calls Try.prog 6 #[.int .i64 cores, .slice po pl pc] W fun e w' => e = .returned (.bool true) ∧ Below W.heap.size W w' := by
  have HA := hid hA
  have p1 := hA.1
  have p2 := hA.2.1
  clear hA
  by_cases hc : cores < 1 ∨ 8 < cores
  · have H1 := hid (l_new_bad cores hc W)
    have H2 := hid (r_new_bad cores hc W)
    clear hc
    go_enter Try.func6, Try.ntmps6
    go_wp2_with (first
      | (go_at_call 8; refine H1.out.mono ?_; rintro e w' ⟨rfl, rfl⟩)
      | (go_at_call 16; refine H2.out.mono ?_; rintro e w' ⟨rfl, rfl⟩)
      | (go_at_call 17; refine (names_ok _).mono ?_; rintro e w' ⟨rfl, rfl⟩)
      | fail)
    go_loopw [9] (fun vi wr => vi = .int .i64 0 ∧ wr = W) (fun _ _ => 0)
    case atStart => exact ⟨rfl, rfl⟩
    case round =>
      as_aux_lemma =>
        obtain ⟨rfl, rfl⟩ := hrel
        by_cases h0 : (0 : Int) < pl
        · go_wp2
          go_ret
          exact ⟨rfl, Below.refl _ _⟩
        · go_wp2
          go_ret
          exact ⟨rfl, Below.refl _ _⟩
  · obtain ⟨n, rfl⟩ : ∃ n : Nat, cores = n := ⟨cores.toNat, by omega⟩
    have hn1 : 1 ≤ n := by omega
    have hn8 : n ≤ 8 := by omega
    clear hc
    have H1 := hid (l_new n hn1 hn8 W)
    go_enter Try.func6, Try.ntmps6
    go_wp2_with (first
      | (go_at_call 8; refine H1.out.mono ?_; rintro e w0 ⟨rfl, L0⟩)
      | (go_at_call 16; refine (r_new n hn1 hn8 w0 (fun k => w0.heap.size ≤ k) (fun _ h => h)).mono ?_; rintro e w1 ⟨rfl, R1, F1⟩)
      | (go_at_call 17; refine (names_ok _).mono ?_; rintro e w' ⟨rfl, rfl⟩)
      | fail)
    have hst : Hid (PlayI W w0.heap.size n pl pl (.int .i64 0) w1) := ⟨0, _, Nat.zero_le _, rfl, rfl, (LINB.of L0.out).kept F1.out (fun _ h => h.elim), R1.out, F1.out.size, fun j => by simp [ClockOk, lc0]⟩
    clear L0 R1 F1 H1
    go_loopg [9] pl (fun g vi wr => PlayI W w0.heap.size n pl g vi wr)
    case atStart => exact hst.out
    case round =>
      as_aux_lemma =>
        obtain ⟨i, st, hi, rfl, rfl, hL, hR, hBs, hok⟩ := hrel
        by_cases hlt : i < pl
        · obtain ⟨b, off, hpo, k0, k1, k2, k3, hn⟩ := HA.out.2.2 i hlt
          subst hpo
          obtain ⟨x, hx⟩ : ∃ x, x = ac i := ⟨_, rfl⟩
          rw [← hx] at k0 k1 k2 k3 hn
          clear hx
          have kb := block_lt_of_cell k0
          replace k0 := hL.lin.cell k0
          replace k1 := hL.lin.cell k1
          replace k2 := hL.lin.cell k2
          replace k3 := hL.lin.cell k3
          have hsz := hL.lin.fr.size
          have T0 : Hid (Two W w0.heap.size (w0.heap.size + 1) n wr.heap.size (actCells x) (wr.alloc (.cells #[.int .i64 x.kind, .int .i64 x.core, .int .i64 x.event, .int .u64 x.n] 34)) st st) := Two.start hL hR hBs hn1 hn8 hok _
          clear hL hR hok hst HA
          go_upto_block 2 with fail
          generalize (wr.alloc (.cells #[.int .i64 x.kind, .int .i64 x.core, .int .i64 x.event, .int .u64 x.n] 34)) = wa at T0 ⊢
          generalize wr.heap.size = lb at *
          go_cut [] from 46 to 222 (fun wx => ∃ s, Two W w0.heap.size (w0.heap.size + 1) n lb (actCells x) wx s s)
          case first =>
            as_aux_lemma =>
              obtain ⟨l0, l1, l2, l3⟩ := T0.out.locs
              have T0d : Hid (Two W w0.heap.size (w0.heap.size + 1) n lb (actCells x) wa.drew st st) := T0.out.still (Fr.drew (Fr.refl _ _))
              have Hx := hid hn
              clear hn
              go_wp2_with fail
              · as_aux_lemma =>
                  go_region_held3 (fun w' => w'.cell? ⟨lb, 1, none⟩ = some (.int .i64 x.core) ∧ w'.cell? ⟨lb, 2, none⟩ = some (.int .i64 x.event)) (first | exact ⟨m1, m2⟩ | exact ⟨l1, l2⟩) (first
                    | (go_at_call 9; refine (t_send W _ _ n _ _ _ _ _ (by assumption) x.core x.event).mono ?_; rintro e w2 ⟨rfl, T2⟩; obtain ⟨m0, m1, m2, m3⟩ := T2.out.locs)
                    | (go_at_call 18; refine (u_send W _ _ n _ _ _ _ _ (by assumption) x.core x.event).mono ?_; rintro e w2 ⟨rfl, T2⟩; obtain ⟨m0, m1, m2, m3⟩ := T2.out.locs))
                  all_goals go_wp2_with fail
                  all_goals go_meet
                  all_goals exact ⟨_, T2.out⟩
              · as_aux_lemma =>
                  go_wp2_with (first
                    | (go_at_call 11; refine (t_take W _ _ n _ _ _ _ _ (by assumption) x.core).mono ?_; rintro e w2 ⟨rfl, T2⟩; obtain ⟨m0, m1, m2, m3⟩ := T2.out.locs)
                    | (go_at_call 19; refine (u_take W _ _ n _ _ _ _ _ (by assumption) x.core).mono ?_; rintro e w2 ⟨rfl, T2⟩; obtain ⟨m0, m1, m2, m3⟩ := T2.out.locs)
                    | fail)
                  go_meet
                  exact ⟨_, T2.out⟩
              · as_aux_lemma =>
                  go_region_held3 (fun w' => w'.cell? ⟨lb, 1, none⟩ = some (.int .i64 x.core) ∧ w'.cell? ⟨lb, 3, none⟩ = some (.int .u64 x.n)) (first | exact ⟨m1, m3⟩ | exact ⟨l1, l3⟩) (first
                    | (go_at_call 14; refine (t_set W _ _ n _ _ _ _ _ (by assumption) x.core x.n).mono ?_; rintro e w2 ⟨rfl, T2⟩; obtain ⟨m0, m1, m2, m3⟩ := T2.out.locs)
                    | (go_at_call 20; refine (u_set W _ _ n _ _ _ _ _ (by assumption) x.core x.n).mono ?_; rintro e w2 ⟨rfl, T2⟩; obtain ⟨m0, m1, m2, m3⟩ := T2.out.locs))
                  all_goals go_wp2_with fail
                  all_goals go_meet
                  all_goals exact ⟨_, T2.out⟩
              · as_aux_lemma =>
                  go_wp2_with (first
                    | (go_at_call 12; refine (t_tick W _ _ n _ _ _ _ _ (by assumption) x.core x.n Hx.out).mono ?_; rintro e w2 ⟨rfl, T2⟩; obtain ⟨m0, m1, m2, m3⟩ := T2.out.locs)
                    | (go_at_call 21; refine (u_tick W _ _ n _ _ _ _ _ (by assumption) x.core x.n Hx.out).mono ?_; rintro e w2 ⟨rfl, T2⟩; obtain ⟨m0, m1, m2, m3⟩ := T2.out.locs)
                    | fail)
                  go_meet
                  exact ⟨_, T2.out⟩
              · as_aux_lemma =>
                  go_meet
                  exact ⟨_, T0.out⟩
          case rest =>
            as_aux_lemma =>
              obtain ⟨s, hT⟩ := hcut
              have T := hid hT
              obtain ⟨l0, l1, l2, l3⟩ := hT.locs
              clear hT T0
              have A1 := hid (t_armed W _ _ n _ _ _ _ _ T x.core)
              have A2 := hid (t_waiting W _ _ n _ _ _ _ _ T x.core)
              have A3 := hid (t_now W _ _ n _ _ _ _ _ T x.core)
              have A4 := hid (u_has W _ _ n _ _ _ _ _ T x.core)
              cases hin : inR n x.core with
              | false =>
                as_aux_lemma =>
                  simp only [ofN, hin, Bool.false_eq_true, ↓reduceIte] at A1 A2 A3 A4
                  clear hin
                  go_wp2_with (first
                    | (go_at_call 13; refine A1.out.mono ?_; rintro e w' ⟨rfl, rfl⟩)
                    | (go_at_call 10; refine A2.out.mono ?_; rintro e w' ⟨rfl, rfl⟩)
                    | (go_at_call 15; refine A3.out.mono ?_; rintro e w' ⟨rfl, rfl⟩)
                    | (go_at_call 22; refine A4.out.mono ?_; rintro e w' ⟨rfl, rfl⟩)
                    | fail)
                  go_roundg (pl - (i + 1))
                  case measure => omega
                  case rel => exact ⟨i + 1, s, by omega, rfl, by go_num, T.out.round⟩
              | true =>
                obtain ⟨k, hk, hkn⟩ := inR_nat hin
                obtain ⟨ab, wa, wc', hR⟩ := T.out.ref
                have r0 := cell_at (o := 0) hR.l
                simp at r0
                obtain ⟨r1, r2, r3, r4, _⟩ := hR.cores hkn
                obtain ⟨q, hq⟩ : ∃ q, q = s k := ⟨_, rfl⟩
                have hqs : s x.core.toNat = q := by rw [hk, hq]; rfl
                rw [← hq] at r1 r2 r3 r4
                simp only [ofN, hin, ↓reduceIte, hqs] at A1 A4
                have A23 : Hid (∀ (o : Obj) (w' : World), SameW w' (wc.alloc o) →
                    (Calls Try.prog 10 #[.pointer (some ⟨W.heap.size, 0, none⟩), .int .i64 x.core] w' fun e w'' => e = .returned (.int .i64 q.ev.length) ∧ w' = w'') ∧
                    (Calls Try.prog 15 #[.pointer (some ⟨W.heap.size, 0, none⟩), .int .i64 x.core] w' fun e w'' => e = .returned (.int .u64 q.clock) ∧ w' = w'') ∧
                    Two W w0.heap.size (w0.heap.size + 1) n lb (actCells x) w' s s) := by
                  intro o w' hw
                  have T' := hid (T.out.still (hw.fr ((Fr.refl _ wc).alloc o)))
                  have B2 := t_waiting W _ _ n _ _ _ _ _ T' x.core
                  have B3 := t_now W _ _ n _ _ _ _ _ T' x.core
                  simp only [ofN, hin, ↓reduceIte, hqs] at B2 B3
                  exact ⟨B2, B3, T'.out⟩
                clear A2 A3 hR hq hqs hin T
                obtain ⟨l, hl⟩ : ∃ l, l = q.ev.length := ⟨_, rfl⟩
                rw [← hl] at r1 A23
                clear hl
                have hnk : ((k : Int) < (n : Int)) := by omega
                have b0 := block_lt_of_cell r0
                have b1 := block_lt_of_cell r1
                have b2 := block_lt_of_cell l1
                rw [hk] at l1 A1 A23 A4
                clear hk
                obtain ⟨ev, ck, du, ar⟩ := q
                dsimp only at r2 r3 r4 A23
                simp only [LC.armAt] at A1
                cases ar with
                | false =>
                  as_aux_lemma =>
                    simp only [Bool.false_eq_true, ↓reduceIte] at A1
                    have A5 := hid (A23.out (.cells #[.slice (wa k) l (wc' k), .int .u64 ck, .int .u64 du, .bool false] 59))
                    clear A23
                    go_wp2_with (first
                      | (go_at_call 13; refine A1.out.mono ?_; rintro e w' ⟨rfl, rfl⟩)
                      | (go_at_call 22; refine A4.out.mono ?_; rintro e w' ⟨rfl, rfl⟩)
                      | fail)
                    go_region
                    have hX : Hid (∃ wx, wx = (wc.alloc (.cells #[.slice (wa k) l (wc' k), .int .u64 ck, .int .u64 du, .bool false] 59)).drew ∧ wx.cell? ⟨wc.heap.size, 0, none⟩ = some (.slice (wa k) l (wc' k)) ∧ wx.cell? ⟨wc.heap.size, 1, none⟩ = some (.int .u64 ck) ∧
                        wx.cell? ⟨wc.heap.size, 2, none⟩ = some (.int .u64 du) ∧ wx.cell? ⟨wc.heap.size, 3, none⟩ = some (.bool false) ∧ wx.cell? ⟨lb, 1, none⟩ = some (.int .i64 k)) := by
                      have hn := heap_alloc_new wc (.cells #[.slice (wa k) l (wc' k), .int .u64 ck, .int .u64 du, .bool false] 59)
                      refine ⟨_, rfl, (cell_at (o := 0) hn).trans rfl, (cell_at (o := 1) hn).trans rfl, (cell_at (o := 2) hn).trans rfl, (cell_at (o := 3) hn).trans rfl, ?_⟩
                      exact (World.cell?_of_block (a := ⟨lb, 1, none⟩) (Below.heap_alloc wc _ _ b2)).trans l1
                    obtain ⟨wx, hwx, d0, d1, d2, d3, d4⟩ := hX.out
                    rw [← hwx]
                    have A6 := hid (fun (w' : World) (h : SameW w' wx) => A5.out w' (by rw [hwx] at h; exact ⟨h.1, h.2.1, h.2.2.1, h.2.2.2⟩))
                    clear hX hwx A5 A1 A4 l0 l1 l2 l3 r0 r1 r2 r3 r4
                    go_wp2_with fail
                    go_quiet (first
                      | (go_at_call 10; exact Calls.quiet_of_same ((A6.out (wx.drewN _) ⟨rfl, rfl, rfl, rfl⟩).1.mono fun _ _ h => ⟨h.1, h.2.symm⟩))
                      | (go_at_call 15; exact Calls.quiet_of_same ((A6.out (wx.drewN _) ⟨rfl, rfl, rfl, rfl⟩).2.1.mono fun _ _ h => ⟨h.1, h.2.symm⟩)))
                    go_wp2_with fail
                    go_roundg (pl - (i + 1))
                    case measure => omega
                    case rel => exact ⟨i + 1, s, by omega, rfl, by go_num, (A6.out (wx.drewN nq) ⟨rfl, rfl, rfl, rfl⟩).2.2.round⟩
                | true =>
                  as_aux_lemma =>
                    simp only [↓reduceIte] at A1
                    have A5 := hid (A23.out (.cells #[.slice (wa k) l (wc' k), .int .u64 ck, .int .u64 du, .bool true] 59))
                    clear A23
                    go_wp2_with (first
                      | (go_at_call 13; refine A1.out.mono ?_; rintro e w' ⟨rfl, rfl⟩)
                      | (go_at_call 22; refine A4.out.mono ?_; rintro e w' ⟨rfl, rfl⟩)
                      | fail)
                    go_region
                    have hX : Hid (∃ wx, wx = (wc.alloc (.cells #[.slice (wa k) l (wc' k), .int .u64 ck, .int .u64 du, .bool true] 59)).drew ∧ wx.cell? ⟨wc.heap.size, 0, none⟩ = some (.slice (wa k) l (wc' k)) ∧ wx.cell? ⟨wc.heap.size, 1, none⟩ = some (.int .u64 ck) ∧
                        wx.cell? ⟨wc.heap.size, 2, none⟩ = some (.int .u64 du) ∧ wx.cell? ⟨wc.heap.size, 3, none⟩ = some (.bool true) ∧ wx.cell? ⟨lb, 1, none⟩ = some (.int .i64 k)) := by
                      have hn := heap_alloc_new wc (.cells #[.slice (wa k) l (wc' k), .int .u64 ck, .int .u64 du, .bool true] 59)
                      refine ⟨_, rfl, (cell_at (o := 0) hn).trans rfl, (cell_at (o := 1) hn).trans rfl, (cell_at (o := 2) hn).trans rfl, (cell_at (o := 3) hn).trans rfl, ?_⟩
                      exact (World.cell?_of_block (a := ⟨lb, 1, none⟩) (Below.heap_alloc wc _ _ b2)).trans l1
                    obtain ⟨wx, hwx, d0, d1, d2, d3, d4⟩ := hX.out
                    rw [← hwx]
                    have A6 := hid (fun (w' : World) (h : SameW w' wx) => A5.out w' (by rw [hwx] at h; exact ⟨h.1, h.2.1, h.2.2.1, h.2.2.2⟩))
                    clear hX hwx A5 A1 A4 l0 l1 l2 l3 r0 r1 r2 r3 r4
                    go_wp2_with fail
                    go_quiet (first
                      | (go_at_call 10; exact Calls.quiet_of_same ((A6.out (wx.drewN _) ⟨rfl, rfl, rfl, rfl⟩).1.mono fun _ _ h => ⟨h.1, h.2.symm⟩))
                      | (go_at_call 15; exact Calls.quiet_of_same ((A6.out (wx.drewN _) ⟨rfl, rfl, rfl, rfl⟩).2.1.mono fun _ _ h => ⟨h.1, h.2.symm⟩)))
                    go_wp2_with fail
                    go_roundg (pl - (i + 1))
                    case measure => omega
                    case rel => exact ⟨i + 1, s, by omega, rfl, by go_num, (A6.out (wx.drewN nq) ⟨rfl, rfl, rfl, rfl⟩).2.2.round⟩
        · have hb := hid hL.lin.below
          clear hL hR hok hst HA
          go_wp2
          go_ret
          exact ⟨rfl, hb.out⟩
end Go.Proofs.Ytmnomjeiijpinaa

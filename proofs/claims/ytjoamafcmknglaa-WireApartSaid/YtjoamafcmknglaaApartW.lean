/-
  WireApart, walked. No conditions.
-/
import Derived.Test.YtjoamafcmknglaaApart1
import Derived.Test.YtjoamafcmknglaaActs
import Derived.Deep.CutBlock
import Derived.Deep.LoopGhost
namespace Go.Proofs.Ytjoamafcmknglaa
open Go.RowKit Go.Conc

def ApI (W : World) (lw lo pl g : Nat) (vi : Value) (wr : World) : Prop :=
  ∃ (i : Nat) (Q Q' : QS), i ≤ pl ∧ g = pl - i ∧ vi = .int .i64 i ∧ PAIR W wr lw lo Q Q' (fun _ => False) ∧ Even Q Q'

theorem PAIR.fr {W w : World} {lw lo : Nat} {Q Q' : QS} {K : Nat → Prop} (h : PAIR W w lw lo Q Q' K) : Fr (fun k => W.heap.size ≤ k) W w := by
  obtain ⟨A, B, h1, h2, h3, h4, h5, h6, _⟩ := h
  exact h6

theorem PAIR.start {W w0 w1 w2 : World} {lw lo : Nat} {Q Q' : QS} (hF0 : Fr (fun k => W.heap.size ≤ k) W w0) (h1 : WIRE (fun k => w0.heap.size ≤ k) w1 lw 4 gg Q) (hF1 : Fr (fun _ => False) w0 w1) (h2 : WIRE (fun k => w1.heap.size ≤ k) w2 lo 4 gg Q') (hF2 : Fr (fun _ => False) w1 w2) : PAIR W w2 lw lo Q Q' (fun _ => False) := by
  have s0 := hF0.size
  have s1 := hF1.size
  exact ⟨fun k => w0.heap.size ≤ k ∧ k < w1.heap.size, fun k => w1.heap.size ≤ k, ((h1.mono (fun k hk a => ⟨a, hk⟩)).kept hF2 (fun _ _ h => h)), h2, fun k a b => by omega, fun k a => by omega, fun k a => by omega, (hF0.then hF1 (fun _ _ h => h.elim)).then hF2 (fun _ _ h => h.elim), fun k h => h.elim⟩

def actCells (x : ActM) : Array Value := #[.int .i64 x.kind, .int .i64 x.src, .int .i64 x.dst, .slice x.bo x.bl x.bc]

theorem act_locs {w : World} {lb : Nat} {x : ActM} (h : w.heap[lb]? = some (.cells (actCells x) 30 (0, 0))) :
    w.cell? ⟨lb, 0, none⟩ = some (.int .i64 x.kind) ∧ w.cell? ⟨lb, 1, none⟩ = some (.int .i64 x.src) ∧ w.cell? ⟨lb, 2, none⟩ = some (.int .i64 x.dst) ∧ w.cell? ⟨lb, 3, none⟩ = some (.slice x.bo x.bl x.bc) :=
  ⟨(cell_at h).trans rfl, (cell_at h).trans rfl, (cell_at h).trans rfl, (cell_at h).trans rfl⟩

/-- x & 3, in both of the walk's spellings, and its parity. -/
theorem mask3 (x : Int) : ∃ f : Nat, bits .and .i64 x 3 = (f : Int) ∧ x % 4 = (f : Int) ∧ f < 4 := by
  obtain ⟨f, h1, h2, h3⟩ := and_mask64_nat x 2 3 (by omega) (by decide)
  exact ⟨f, h1, by omega, by omega⟩
theorem mask1 (f : Nat) : ∃ p : Nat, bits .and .i64 (f : Int) 1 = (p : Int) ∧ (f : Int) % 2 = (p : Int) ∧ p < 2 ∧ p = f % 2 := by
  obtain ⟨p, h1, h2, h3⟩ := and_mask64_nat (f : Int) 1 1 (by omega) (by decide)
  exact ⟨p, h1, by omega, by omega, by omega⟩

set_option maxHeartbeats 4000000 in
set_option maxRecDepth 100000 in
theorem apart_walk (po : Option Addr) (pl pc : Nat) (ac : Nat → ActM) (W : World) (hA : Acts W po pl pc ac) :
    Calls Try.prog 3 #[.slice po pl pc] W fun e w' => e = .returned (.bool true) ∧ Below W.heap.size W w' := by
  have HA := hid hA
  have p1 := hA.1
  have p2 := hA.2.1
  clear hA
  have hG : Hid (Grp (W.alloc (.cells #[.int .i64 1, .int .i64 2, .int .i64 1, .int .i64 2] 3)) (some ⟨W.heap.size, 0, none⟩) 4 4 gg) := by
    refine ⟨fun e => (by cases e), fun ad e j u hu => ?_⟩
    cases e
    have hn := cell_at (o := j) (heap_alloc_new W (.cells #[.int .i64 1, .int .i64 2, .int .i64 1, .int .i64 2] 3))
    simp only [Addr.add_lit, Nat.zero_add]
    rw [hn, ← hu]
    have hj : j < 4 ∨ 4 ≤ j := by omega
    rcases hj with hj | hj
    · have : j = 0 ∨ j = 1 ∨ j = 2 ∨ j = 3 := by omega
      rcases this with rfl | rfl | rfl | rfl <;> rfl
    · rw [List.getElem?_eq_none (by simp [zv]; omega), Array.getElem?_eq_none (by simpa using hj)]
  go_enter Try.func3, Try.ntmps3
  go_wp2_with (first
    | (go_at_call 7; refine (new_any _ _ 4 4 gg hG.out (by omega) (by omega)).mono ?_; rintro e w1 ⟨lw, rfl, W1, F1⟩)
    | (go_at_call 7; refine (new_any _ _ 4 4 gg (show Grp w1 _ 4 4 gg from ⟨hG.out.nil, fun ad e j u hu => ((F1.out.cell (p := ad.add j) (block_lt_of_cell (hG.out.cells ad e j u hu)) (fun h => h)).trans (hG.out.cells ad e j u hu))⟩) (by omega) (by omega)).mono ?_; rintro e w2 ⟨lo, rfl, W2, F2⟩)
    | fail)
  have hst : Hid (ApI W lw lo pl pl (.int .i64 0) w2) := ⟨0, fun _ => [], fun _ => [], Nat.zero_le _, rfl, rfl, PAIR.start ((Fr.refl _ W).alloc _) W1.out F1.out W2.out F2.out, ⟨⟨rfl, rfl⟩, (fun m hm => by cases hm), (fun m hm => by cases hm)⟩⟩
  clear W1 F1 W2 F2 hG
  go_loopg [8] pl (fun g vi wr => ApI W lw lo pl g vi wr)
  case atStart => exact hst.out
  case round =>
    as_aux_lemma =>
      obtain ⟨i, Q, Q', hi, rfl, rfl, hP, hE⟩ := hrel
      clear hst
      have HE := hid hE
      have HP := hid hP
      clear hE hP
      by_cases hlt : i < pl
      · obtain ⟨b, off, hpo, k0, k1, k2, k3, hb, _⟩ := HA.out.2.2 i hlt
        subst hpo
        obtain ⟨x, hx⟩ : ∃ x, x = ac i := ⟨_, rfl⟩
        rw [← hx] at k0 k1 k2 k3 hb
        clear hx HA
        have kb := block_lt_of_cell k0
        have kT : ∀ o, wr.cell? ⟨b, o, none⟩ = W.cell? ⟨b, o, none⟩ := fun o => HP.out.fr.cell (p := ⟨b, o, none⟩) kb (Nat.not_le_of_lt kb)
        rw [← kT] at k0 k1 k2 k3
        clear kT
        have Hb := hid hb
        clear hb
        obtain ⟨f, hf1, hf2, hf4⟩ := mask3 x.src
        obtain ⟨t, ht1, ht2, ht4⟩ := mask3 x.dst
        obtain ⟨kd, hk1, hk2, hk4⟩ := mask3 x.kind
        obtain ⟨fp, hfp1, hfp2, hfp3, hfp4⟩ := mask1 f
        obtain ⟨tp, htp1, htp2, htp3, htp4⟩ := mask1 t
        have T00 : Hid (∃ wa, wa = wr.alloc (.cells #[.int .i64 x.kind, .int .i64 x.src, .int .i64 x.dst, .slice x.bo x.bl x.bc] 30) ∧ PAIR W wa lw lo Q Q' (fun k => k = wr.heap.size) ∧ wa.heap[wr.heap.size]? = some (.cells (actCells x) 30 (0, 0))) :=
          ⟨_, rfl, (HP.out.alloc _).1.less (fun k hk => .inr hk), heap_alloc_new wr _⟩
        have hfp := hid hfp4
        have htp := hid htp4
        clear hfp4 htp4
        go_upto_block 1 with fail
        go_cut [] from 55 to 173 (fun wx => ∃ Q Q', PAIR W wx lw lo Q Q' (fun _ => False) ∧ Even Q Q')
        case first =>
         as_aux_lemma =>
          go_wp2_with fail
          obtain ⟨wa, hwa, T0', l'⟩ := T00.out
          obtain ⟨l0, l1, l2, l3⟩ := act_locs l'
          rw [← hwa]
          have T0 := hid T0'
          have L := hid l'
          clear T00 hwa T0' l' k0 k1 k2 k3
          generalize wr.heap.size = lb at *
          go_quiet (fail)
          have T1 : Hid (PAIR W (wa.drewN nq) lw lo Q Q' (fun k => k = lb)) := (T0.out.still (Fr.drewN' _ _)).1
          clear T0
          go_upto_block 2 with fail
          rcases (show kd = 0 ∨ kd = 1 ∨ kd = 2 ∨ kd = 3 by omega) with rfl | rfl | rfl | rfl
          all_goals clear hk1 hk2
          · -- 0
            rcases (show fp = 0 ∨ fp = 1 by omega) with rfl | rfl
            · as_aux_lemma =>
                rw [show ((0 : Nat) : Int) = 0 from rfl] at hfp1 hfp2
                have hE1 := HE.out.send f (by have := hfp.out; omega) t (by omega) x.b
                obtain ⟨nx, ny, hxy⟩ : ∃ nx ny, (nx, ny) = (sendR 4 gg Q f t x.b).1 := ⟨_, _, rfl⟩
                have Hxy := hid hxy
                have Hxy' := hid (hxy.trans hE1.1)
                have HE1 := hid hE1.2
                clear hxy hE1
                go_wp2_with (first
                  | (go_at_call 8; (with_reducible refine (p_send W _ lw lo Q Q' _ T1 x.bo x.bl x.bc x.b Hb f t nx ny Hxy).mono ?_); rintro e w3 ⟨rfl, T2, K2⟩; have n3 := (K2.out.cell (p := ⟨lb, 3, none⟩) rfl).trans l3)
                  | (go_at_call 8; (with_reducible refine (p_send W _ lo lw Q' _ _ (hid T2.out.swap) x.bo x.bl x.bc x.b Hb f t nx ny Hxy').mono ?_); rintro e w4 ⟨rfl, T3, K3⟩)
                  | fail)
                go_meet
                exact ⟨_, _, T3.out.swap.less (fun _ h => h.elim), HE1.out⟩
            · as_aux_lemma =>
                rw [show ((1 : Nat) : Int) = 1 from rfl] at hfp1 hfp2
                have HE1 := hid (HE.out.sendOdd f (by have := hfp.out; omega) t (by omega) x.b)
                obtain ⟨nx, ny, hxy⟩ : ∃ nx ny, (nx, ny) = (sendR 4 gg Q f t x.b).1 := ⟨_, _, rfl⟩
                have Hxy := hid hxy
                clear hxy
                go_wp2_with (first
                  | (go_at_call 8; (with_reducible refine (p_send W _ lw lo Q Q' _ T1 x.bo x.bl x.bc x.b Hb f t nx ny Hxy).mono ?_); rintro e w3 ⟨rfl, T2, K2⟩)
                  | fail)
                go_meet
                exact ⟨_, _, T2.out.less (fun _ h => h.elim), HE1.out⟩
          · -- 0
            rcases (show fp = 0 ∨ fp = 1 by omega) with rfl | rfl
            · as_aux_lemma =>
                rw [show ((0 : Nat) : Int) = 0 from rfl] at hfp1 hfp2
                have hE1 := HE.out.send f (by have := hfp.out; omega) t (by omega) x.b
                obtain ⟨nx, ny, hxy⟩ : ∃ nx ny, (nx, ny) = (sendR 4 gg Q f t x.b).1 := ⟨_, _, rfl⟩
                have Hxy := hid hxy
                have Hxy' := hid (hxy.trans hE1.1)
                have HE1 := hid hE1.2
                clear hxy hE1
                go_wp2_with (first
                  | (go_at_call 8; (with_reducible refine (p_send W _ lw lo Q Q' _ T1 x.bo x.bl x.bc x.b Hb f t nx ny Hxy).mono ?_); rintro e w3 ⟨rfl, T2, K2⟩; have n3 := (K2.out.cell (p := ⟨lb, 3, none⟩) rfl).trans l3)
                  | (go_at_call 8; (with_reducible refine (p_send W _ lo lw Q' _ _ (hid T2.out.swap) x.bo x.bl x.bc x.b Hb f t nx ny Hxy').mono ?_); rintro e w4 ⟨rfl, T3, K3⟩)
                  | fail)
                go_meet
                exact ⟨_, _, T3.out.swap.less (fun _ h => h.elim), HE1.out⟩
            · as_aux_lemma =>
                rw [show ((1 : Nat) : Int) = 1 from rfl] at hfp1 hfp2
                have HE1 := hid (HE.out.sendOdd f (by have := hfp.out; omega) t (by omega) x.b)
                obtain ⟨nx, ny, hxy⟩ : ∃ nx ny, (nx, ny) = (sendR 4 gg Q f t x.b).1 := ⟨_, _, rfl⟩
                have Hxy := hid hxy
                clear hxy
                go_wp2_with (first
                  | (go_at_call 8; (with_reducible refine (p_send W _ lw lo Q Q' _ T1 x.bo x.bl x.bc x.b Hb f t nx ny Hxy).mono ?_); rintro e w3 ⟨rfl, T2, K2⟩)
                  | fail)
                go_meet
                exact ⟨_, _, T2.out.less (fun _ h => h.elim), HE1.out⟩
          · -- 2
            rcases (show fp = 0 ∨ fp = 1 by omega) with rfl | rfl
            · as_aux_lemma =>
                rw [show ((0 : Nat) : Int) = 0 from rfl] at hfp1 hfp2
                have hE1 := HE.out.send f (by have := hfp.out; omega) (-1) (by omega) x.b
                obtain ⟨nx, ny, hxy⟩ : ∃ nx ny, (nx, ny) = (sendR 4 gg Q f (-1) x.b).1 := ⟨_, _, rfl⟩
                have Hxy := hid hxy
                have Hxy' := hid (hxy.trans hE1.1)
                have HE1 := hid hE1.2
                clear hxy hE1
                go_wp2_with (first
                  | (go_at_call 8; (with_reducible refine (p_send W _ lw lo Q Q' _ T1 x.bo x.bl x.bc x.b Hb f (-1) nx ny Hxy).mono ?_); rintro e w3 ⟨rfl, T2, K2⟩; have n3 := (K2.out.cell (p := ⟨lb, 3, none⟩) rfl).trans l3)
                  | (go_at_call 8; (with_reducible refine (p_send W _ lo lw Q' _ _ (hid T2.out.swap) x.bo x.bl x.bc x.b Hb f (-1) nx ny Hxy').mono ?_); rintro e w4 ⟨rfl, T3, K3⟩)
                  | fail)
                go_meet
                exact ⟨_, _, T3.out.swap.less (fun _ h => h.elim), HE1.out⟩
            · as_aux_lemma =>
                rw [show ((1 : Nat) : Int) = 1 from rfl] at hfp1 hfp2
                have HE1 := hid (HE.out.sendOdd f (by have := hfp.out; omega) (-1) (by omega) x.b)
                obtain ⟨nx, ny, hxy⟩ : ∃ nx ny, (nx, ny) = (sendR 4 gg Q f (-1) x.b).1 := ⟨_, _, rfl⟩
                have Hxy := hid hxy
                clear hxy
                go_wp2_with (first
                  | (go_at_call 8; (with_reducible refine (p_send W _ lw lo Q Q' _ T1 x.bo x.bl x.bc x.b Hb f (-1) nx ny Hxy).mono ?_); rintro e w3 ⟨rfl, T2, K2⟩)
                  | fail)
                go_meet
                exact ⟨_, _, T2.out.less (fun _ h => h.elim), HE1.out⟩
          · rcases (show tp = 0 ∨ tp = 1 by omega) with rfl | rfl
            · as_aux_lemma =>
                rw [show ((0 : Nat) : Int) = 0 from rfl] at htp1 htp2
                obtain ⟨e1, e2, e3, e4, e5⟩ := HE.out.rcv t (by have := htp.out; omega)
                obtain ⟨src, hsrc⟩ : ∃ z, z = rcvF Q t := ⟨_, rfl⟩
                obtain ⟨xs, hxs⟩ : ∃ z, z = rcvB Q t := ⟨_, rfl⟩
                obtain ⟨ok, hok⟩ : ∃ z, z = rcvO Q t := ⟨_, rfl⟩
                have HE1 := hid e1
                have A1 := hid hsrc
                have A2 := hid hxs
                have A3 := hid hok
                have B1 := hid (hsrc.trans e2)
                have B2 := hid (hxs.trans e3)
                have B3 := hid (hok.trans e4)
                rw [← hsrc] at e5
                have s1 : bits .and .i64 src 1 = 0 := by rcases e5 with rfl | rfl <;> decide
                have s2 : src % 2 = 0 := by omega
                obtain ⟨d, hd⟩ : ∃ d : ByteArray, d = ⟨xs.toArray⟩ := ⟨_, rfl⟩
                have Hd := hid hd
                clear hsrc hxs hok e1 e2 e3 e4 e5 hd
                cases ok with
                | true =>
                  as_aux_lemma =>
                    go_wp2_with (first
                      | (go_at_call 9; (with_reducible refine (p_recv W _ lw lo Q Q' _ T1 t ht4 src xs _ A1 A2 A3).mono ?_); rintro e w3 ⟨r, cap, rfl, T2, S2, K2⟩)
                      | (go_at_call 9; (with_reducible refine (p_recv2 W _ lw lo _ Q' _ r xs.length cap T2 xs S2 t ht4 src _ B1 B2 B3).mono ?_); rintro e w4 ⟨r2, cap2, rfl, T3⟩; have x0 := T3.out.x0; have x1 := T3.out.x1; have hxb := block_lt_of_cell x0; have cv1 := fun o => run_conv (w4.alloc o) r xs (T3.out.one.alloc o) xs.length cap rfl; have cv2 := fun o => run_conv (w4.alloc o) r2 xs (T3.out.two.alloc o) xs.length cap2 rfl; rw [← Hd.out] at cv1 cv2)
                      | fail)
                    go_meet
                    exact ⟨_, _, (T3.out.pair.alloc _).1.less (fun _ h => h.elim), HE1.out⟩
                | false =>
                  as_aux_lemma =>
                    go_wp2_with (first
                      | (go_at_call 9; (with_reducible refine (p_recv W _ lw lo Q Q' _ T1 t ht4 src xs _ A1 A2 A3).mono ?_); rintro e w3 ⟨r, cap, rfl, T2, S2, K2⟩)
                      | (go_at_call 9; (with_reducible refine (p_recv2 W _ lw lo _ Q' _ r xs.length cap T2 xs S2 t ht4 src _ B1 B2 B3).mono ?_); rintro e w4 ⟨r2, cap2, rfl, T3⟩; have x0 := T3.out.x0; have x1 := T3.out.x1; have hxb := block_lt_of_cell x0; have cv1 := fun o => run_conv (w4.alloc o) r xs (T3.out.one.alloc o) xs.length cap rfl; have cv2 := fun o => run_conv (w4.alloc o) r2 xs (T3.out.two.alloc o) xs.length cap2 rfl; rw [← Hd.out] at cv1 cv2)
                      | fail)
                    go_meet
                    exact ⟨_, _, (T3.out.pair.alloc _).1.less (fun _ h => h.elim), HE1.out⟩
            · as_aux_lemma =>
                rw [show ((1 : Nat) : Int) = 1 from rfl] at htp1 htp2
                have HE1 := hid (HE.out.rcvOdd t (by have := htp.out; omega))
                obtain ⟨src, hsrc⟩ : ∃ z, z = rcvF Q t := ⟨_, rfl⟩
                obtain ⟨xs, hxs⟩ : ∃ z, z = rcvB Q t := ⟨_, rfl⟩
                obtain ⟨ok, hok⟩ : ∃ z, z = rcvO Q t := ⟨_, rfl⟩
                have A1 := hid hsrc
                have A2 := hid hxs
                have A3 := hid hok
                clear hsrc hxs hok
                go_wp2_with (first
                  | (go_at_call 9; (with_reducible refine (p_recv W _ lw lo Q Q' _ T1 t ht4 src xs ok A1 A2 A3).mono ?_); rintro e w3 ⟨r, cap, rfl, T2, S2, K2⟩)
                  | fail)
                go_meet
                exact ⟨_, _, (T2.out.alloc _).1.less (fun _ h => h.elim), HE1.out⟩
        case rest =>
          as_aux_lemma =>
            obtain ⟨Q1, Q2, hP, hE⟩ := hcut
            have HP1 := hid hP
            have HE1 := hid hE
            clear hP hE
            go_wp2_with fail
            go_roundg (pl - (i + 1))
            case measure => omega
            case rel => exact ⟨i + 1, Q1, Q2, by omega, rfl, by go_num, HP1.out, HE1.out⟩
      · have w0 := p_wait W wr lw lo Q Q' _ HP 0 (by omega)
        have w2 := p_wait W wr lw lo Q Q' _ HP 2 (by omega)
        have o0 := p_wait W wr lo lw Q' Q _ (hid HP.out.swap) 0 (by omega)
        have o2 := p_wait W wr lo lw Q' Q _ (hid HP.out.swap) 2 (by omega)
        rw [← HE.out.1.1] at o0
        rw [← HE.out.1.2] at o2
        rw [show ((0 : Nat) : Int) = 0 from rfl] at w0 o0
        rw [show ((2 : Nat) : Int) = 2 from rfl] at w2 o2
        have hb := hid (HP.out.fr.below (Nat.le_refl _) (fun k hk h => Nat.not_le_of_lt hk h))
        generalize (Q 0).length = n0 at *
        generalize (Q 2).length = n2 at *
        clear HA HP HE
        go_wp2_with (first
          | (go_at_call 10; (with_reducible refine w0.out.mono ?_); rintro e w' ⟨rfl, rfl⟩)
          | (go_at_call 10; (with_reducible refine w2.out.mono ?_); rintro e w' ⟨rfl, rfl⟩)
          | (go_at_call 10; (with_reducible refine o0.out.mono ?_); rintro e w' ⟨rfl, rfl⟩)
          | (go_at_call 10; (with_reducible refine o2.out.mono ?_); rintro e w' ⟨rfl, rfl⟩)
          | fail)
        go_ret
        exact ⟨by simp, hb.out⟩
end Go.Proofs.Ytjoamafcmknglaa

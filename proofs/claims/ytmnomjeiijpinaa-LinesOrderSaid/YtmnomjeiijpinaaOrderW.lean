/-
  LinesOrder, walked. No conditions.
-/
import Derived.Test.YtmnomjeiijpinaaFullW
namespace Go.Proofs.Ytmnomjeiijpinaa
open Go.RowKit Go.Conc


def evsFrom (zs : Nat → Int) (j m : Nat) : List Int := (List.range' j (m - j)).map zs
theorem evsFrom_zero (zs : Nat → Int) (m : Nat) : evsFrom zs 0 m = evsOf zs m := by simp [evsFrom, evsOf, List.range_eq_range']
theorem evsFrom_step (zs : Nat → Int) (j m : Nat) (h : j < m) : evsFrom zs j m = zs j :: evsFrom zs (j + 1) m := by
  unfold evsFrom
  rw [show m - j = (m - (j + 1)) + 1 from by omega, List.range'_succ]
  rfl
theorem evsFrom_end (zs : Nat → Int) (j m : Nat) (h : m ≤ j) : evsFrom zs j m = [] := by
  unfold evsFrom
  rw [show m - j = 0 from by omega]
  rfl

/-- The three loops' relations. -/
def SendI (W : World) (m : Nat) (zs : Nat → Int) (vi : Value) (wr : World) : Prop :=
  ∃ (i : Nat) (st : Nat → LC), i ≤ m ∧ vi = .int .i64 i ∧ LIN W wr 2 st ∧ (st 1).ev = evsOf zs i ∧ st 0 = lc0
def TakeI (W : World) (m : Nat) (zs : Nat → Int) (vi : Value) (wr : World) : Prop :=
  ∃ (i : Nat) (st : Nat → LC), i ≤ m ∧ vi = .int .i64 i ∧ LIN W wr 2 st ∧ (st 1).ev = evsFrom zs i m ∧ st 0 = lc0
def TickI (W : World) (sl : Nat) (at' : Int) (vnow vtold vi : Value) (wr : World) : Prop :=
  ∃ (i : Nat) (st : Nat → LC) (k : Int) (ar : Bool), i ≤ sl ∧ i ≤ 1000 ∧ vi = .int .i64 i ∧ vnow = .int .u64 k ∧ vtold = .bool (!ar) ∧ 0 ≤ k ∧ k ≤ 1099511627775 * i ∧ LIN W wr 2 st ∧ st 0 = ⟨[], k, if ar then at' else 0, ar⟩


theorem tick_clk (k y t : Int) (ar : Bool) (h : y ≤ 4611686018427387904 - k) : (⟨[], k, t, ar⟩ : LC).tickClock y = k + y := by
  unfold LC.tickClock topC
  rw [if_pos (by show y ≤ 4611686018427387904 - k; exact h)]
theorem tick_off (k y : Int) (h : y ≤ 4611686018427387904 - k) : (⟨[], k, 0, false⟩ : LC).isDue y = false ∧ (⟨[], k, 0, false⟩ : LC).tick y = ⟨[], k + y, 0, false⟩ := by
  have hd : (⟨[], k, 0, false⟩ : LC).isDue y = false := by simp [LC.isDue]
  exact ⟨hd, by simp [LC.tick, hd, tick_clk k y 0 false h]⟩
theorem tick_due (k y t : Int) (h : y ≤ 4611686018427387904 - k) (h2 : t ≤ k + y) : (⟨[], k, t, true⟩ : LC).isDue y = true ∧ (⟨[], k, t, true⟩ : LC).tick y = ⟨[], k + y, 0, false⟩ := by
  have hd : (⟨[], k, t, true⟩ : LC).isDue y = true := by simp only [LC.isDue, tick_clk k y t true h, Bool.true_and]; simpa using h2
  exact ⟨hd, by simp [LC.tick, hd, tick_clk k y t true h]⟩
theorem tick_wait (k y t : Int) (h : y ≤ 4611686018427387904 - k) (h2 : ¬ t ≤ k + y) : (⟨[], k, t, true⟩ : LC).isDue y = false ∧ (⟨[], k, t, true⟩ : LC).tick y = ⟨[], k + y, t, true⟩ := by
  have hd : (⟨[], k, t, true⟩ : LC).isDue y = false := by simp only [LC.isDue, tick_clk k y t true h, Bool.true_and]; simpa using h2
  exact ⟨hd, by simp [LC.tick, hd, tick_clk k y t true h]⟩

set_option maxHeartbeats 4000000 in
set_option maxRecDepth 100000 in
theorem order_lt (to : Option Addr) (tl tc : Nat) (zs : Nat → Int) (att : Int) (so : Option Addr) (sl sc : Nat) (ys : Nat → Int) (W : World) (hT : Ints W to tl tc .i64 zs) (hS : Ints W so sl sc .u64 ys) (hlt16 : tl < 16) :
    Calls Try.prog 5 #[.slice to tl tc, .int .u64 att, .slice so sl sc] W fun e w' => e = .returned (.bool true) ∧ Below W.heap.size W w' := by
  obtain ⟨t, hbt, ht⟩ := and_maskU0 att 40 1099511627775 (by omega) (by decide)
  rw [show ((1099511627775 : Nat) : Int) = 1099511627775 from rfl] at hbt
  have hnew := l_new 2 (by omega) (by omega) W
  rw [show ((2 : Nat) : Int) = 2 from rfl] at hnew
  have Hnew := hid hnew
  have HT := hid hT
  have HS := hid hS
  have t1 := hT.1
  have t2 := hT.2.1
  have s1 := hS.1
  have s2 := hS.2.1
  clear hnew hT hS
  have hne : ((tl : Int) == 16) = false := by simp; omega
  go_enter Try.func5, Try.ntmps5
  go_wp2_with (go_at_call 8; refine Hnew.out.mono ?_; rintro e w0 ⟨rfl, L0⟩)
  go_loopw [10] (fun vi wr => SendI W tl zs vi wr) (fun i _ => tl - (intOf i).toNat)
  case atStart => exact ⟨0, _, Nat.zero_le _, rfl, L0.out, rfl, rfl⟩
  case round =>
    obtain ⟨i, st, hi, rfl, hL, hev, hst0⟩ := hrel
    have HL := hid hL
    have Hev := hid hev
    have Hs0 := hid hst0
    clear hL hev hst0
    by_cases hlt : i < tl
    · obtain ⟨b, off, hto, hz, _⟩ := HT.out.2.2 i (by omega)
      subst hto
      have kz := HL.out.cell hz
      clear hz
      have hsd := l_send_room W wr 2 st HL.out 1 (by omega) (zs i) (by rw [Hev.out, evsOf_len]; omega)
      rw [show ((1 : Nat) : Int) = 1 from rfl] at hsd
      have Hsd := hid hsd
      clear hsd
      go_wp2_with (go_at_call 9; refine Hsd.out.mono ?_; rintro e w1 ⟨rfl, L1⟩)
      go_roundw
      case rel => exact ⟨i + 1, _, by omega, by go_num, L1.out, by simp [upd, Hev.out, evsOf_succ], by simp [upd, Hs0.out]⟩
      case measure => simp [intOf]; omega
    · have hiM : i = tl := by omega
      have Hev2 : Hid ((st 1).ev = evsFrom zs 0 tl) := by unfold Hid; rw [Hev.out, hiM, evsFrom_zero]
      have hwt := l_waiting W wr 2 st HL.out 0 (by omega)
      rw [Hs0.out, show ((0 : Nat) : Int) = 0 from rfl, show ((lc0.ev.length : Nat) : Int) = 0 from rfl] at hwt
      have Hw := hid hwt
      clear hwt hiM
      go_wp2_with (first
        | (go_at_call 10; refine Hw.out.mono ?_; rintro e w' ⟨rfl, rfl⟩)
        | fail)
      go_loopw [11] (fun vi wr => TakeI W tl zs vi wr) (fun i _ => tl - (intOf i).toNat)
      case atStart => exact ⟨0, _, Nat.zero_le _, rfl, HL.out, Hev2.out, Hs0.out⟩
      case round =>
        obtain ⟨j, st2, hj, rfl, hL, hev, hst0⟩ := hrel
        have KL := hid hL
        have Kev := hid hev
        have Ks0 := hid hst0
        clear hL hev hst0
        by_cases hjt : j < tl
        · obtain ⟨b, off, hto, hz, _⟩ := HT.out.2.2 j (by omega)
          subst hto
          have htk := l_take_some W _ 2 st2 KL.out 1 (by omega) (zs j) (evsFrom zs (j + 1) tl) (by rw [Kev.out]; exact evsFrom_step zs j tl hjt)
          rw [show ((1 : Nat) : Int) = 1 from rfl] at htk
          have Htk := hid htk
          have Hz := hid hz
          clear htk hz
          go_wp2_with (go_at_call 11; refine Htk.out.mono ?_; rintro e w1 ⟨rfl, L1⟩; have kz := L1.out.cell Hz.out)
          go_roundw
          case rel => exact ⟨j + 1, _, by omega, by go_num, L1.out, by simp [upd], by simp [upd, Ks0.out]⟩
          case measure => simp [intOf]; omega
        · have htn := l_take_none W _ 2 st2 KL.out 1 (by omega) (by rw [Kev.out]; exact evsFrom_end zs j tl (by omega))
          rw [show ((1 : Nat) : Int) = 1 from rfl] at htn
          have Htn := hid htn
          have hse := l_set W _ 2 st2 KL.out 0 (by omega) t
          rw [show ((0 : Nat) : Int) = 0 from rfl, Ks0.out] at hse
          have Hse := hid hse
          clear htn hse
          go_wp2_with (first
            | (go_at_call 11; refine Htn.out.mono ?_; rintro e w' ⟨rfl, rfl⟩)
            | (go_at_call 14; refine Hse.out.mono ?_; rintro e w2 ⟨rfl, L2⟩)
            | fail)
          go_loopw [16, 17, 18] (fun vn vt vi wr => TickI W sl t vn vt vi wr) (fun _ _ i _ => 1000 - (intOf i).toNat)
          case atStart => exact ⟨0, _, 0, true, Nat.zero_le _, by omega, rfl, rfl, rfl, by omega, by omega, L2.out, by simp [upd, lc0]⟩
          case round =>
            obtain ⟨q, st3, k, ar, hq, hq2, rfl, rfl, rfl, hk0, hk1, hL, hst⟩ := hrel
            have GL := hid hL
            have Gs := hid hst
            clear hL hst
            by_cases hqt : q < sl ∧ q < 1000
            · obtain ⟨hqt, hqt2⟩ := hqt
              obtain ⟨b2, off2, hso, hy, _⟩ := HS.out.2.2 q hqt
              subst hso
              have ky := GL.out.cell hy
              have Hy := hid hy
              clear hy
              obtain ⟨y, hby, hy1⟩ := and_maskU0 (ys q) 40 1099511627775 (by omega) (by decide)
              rw [show ((1099511627775 : Nat) : Int) = 1099511627775 from rfl] at hby
              have htc := l_tick W _ 2 st3 GL.out 0 (by omega) y (by omega) (by rw [Gs.out]; exact hk0) (by rw [Gs.out]; show k ≤ _; omega)
              rw [show ((0 : Nat) : Int) = 0 from rfl, Gs.out] at htc
              have hyk : (y : Int) ≤ 4611686018427387904 - k := by omega
              cases ar with
              | false =>
                obtain ⟨hd, htk⟩ := tick_off k y hyk
                simp only [Bool.false_eq_true, ↓reduceIte] at htc
                rw [hd, htk] at htc
                have Htc := hid htc
                clear htc hd htk
                go_wp2_with (first
                  | (go_at_call 12; refine Htc.out.mono ?_; rintro e w5 ⟨rfl, L5⟩; have hnw := l_now W w5 2 _ L5.out 0 (by omega); rw [show ((0 : Nat) : Int) = 0 from rfl, show upd st3 0 _ 0 = _ from if_pos rfl] at hnw; have Hnw := hid hnw; clear hnw; have ky5 := L5.out.cell Hy.out)
                  | (go_at_call 15; refine Hnw.out.mono ?_; rintro e w' ⟨rfl, rfl⟩)
                  | fail)
                go_roundw
                case rel => exact ⟨q + 1, _, k + y, false, by omega, by omega, by go_num, rfl, rfl, by omega, by omega, L5.out, by simp [upd]⟩
                case measure => simp [intOf]; omega
              | true =>
                by_cases hdue : (t : Int) ≤ k + y
                · obtain ⟨hd, htk⟩ := tick_due k y t hyk hdue
                  simp only [↓reduceIte] at htc
                  rw [hd, htk] at htc
                  have Htc := hid htc
                  clear htc hd htk
                  go_wp2_with (first
                    | (go_at_call 12; refine Htc.out.mono ?_; rintro e w5 ⟨rfl, L5⟩; have hnw := l_now W w5 2 _ L5.out 0 (by omega); rw [show ((0 : Nat) : Int) = 0 from rfl, show upd st3 0 _ 0 = _ from if_pos rfl] at hnw; have Hnw := hid hnw; clear hnw; have ky5 := L5.out.cell Hy.out)
                    | (go_at_call 15; refine Hnw.out.mono ?_; rintro e w' ⟨rfl, rfl⟩)
                    | fail)
                  go_roundw
                  case rel => exact ⟨q + 1, _, k + y, false, by omega, by omega, by go_num, rfl, rfl, by omega, by omega, L5.out, by simp [upd]⟩
                  case measure => simp [intOf]; omega
                · obtain ⟨hd, htk⟩ := tick_wait k y t hyk hdue
                  simp only [↓reduceIte] at htc
                  rw [hd, htk] at htc
                  have Htc := hid htc
                  clear htc hd htk
                  go_wp2_with (first
                    | (go_at_call 12; refine Htc.out.mono ?_; rintro e w5 ⟨rfl, L5⟩; have hnw := l_now W w5 2 _ L5.out 0 (by omega); rw [show ((0 : Nat) : Int) = 0 from rfl, show upd st3 0 _ 0 = _ from if_pos rfl] at hnw; have Hnw := hid hnw; clear hnw; have ky5 := L5.out.cell Hy.out)
                    | (go_at_call 15; refine Hnw.out.mono ?_; rintro e w' ⟨rfl, rfl⟩)
                    | fail)
                  go_roundw
                  case rel => exact ⟨q + 1, _, k + y, true, by omega, by omega, by go_num, rfl, rfl, by omega, by omega, L5.out, by simp [upd]⟩
                  case measure => simp [intOf]; omega
            · have hb := hid GL.out.below
              go_wp2
              all_goals go_ret
              all_goals exact ⟨rfl, hb.out⟩

set_option maxHeartbeats 4000000 in
set_option maxRecDepth 100000 in
theorem order_gt (to : Option Addr) (tl tc : Nat) (zs : Nat → Int) (att : Int) (so : Option Addr) (sl sc : Nat) (ys : Nat → Int) (W : World) (hT : Ints W to tl tc .i64 zs) (hS : Ints W so sl sc .u64 ys) (h16 : 16 < tl) :
    Calls Try.prog 5 #[.slice to tl tc, .int .u64 att, .slice so sl sc] W fun e w' => e = .returned (.bool true) ∧ Below W.heap.size W w' := by
  obtain ⟨t, hbt, ht⟩ := and_maskU0 att 40 1099511627775 (by omega) (by decide)
  rw [show ((1099511627775 : Nat) : Int) = 1099511627775 from rfl] at hbt
  have hnew := l_new 2 (by omega) (by omega) W
  rw [show ((2 : Nat) : Int) = 2 from rfl] at hnew
  have Hnew := hid hnew
  have HT := hid hT
  have HS := hid hS
  have t1 := hT.1
  have t2 := hT.2.1
  have s1 := hS.1
  have s2 := hS.2.1
  clear hnew hT hS
  go_enter Try.func5, Try.ntmps5
  go_wp2_with (go_at_call 8; refine Hnew.out.mono ?_; rintro e w0 ⟨rfl, L0⟩)
  go_loopw [10] (fun vi wr => SendI W 16 zs vi wr) (fun i _ => 16 - (intOf i).toNat)
  case atStart => exact ⟨0, _, Nat.zero_le _, rfl, L0.out, rfl, rfl⟩
  case round =>
    obtain ⟨i, st, hi, rfl, hL, hev, hst0⟩ := hrel
    have HL := hid hL
    have Hev := hid hev
    have Hs0 := hid hst0
    clear hL hev hst0
    by_cases hlt : i < 16
    · obtain ⟨b, off, hto, hz, _⟩ := HT.out.2.2 i (by omega)
      subst hto
      have kz := HL.out.cell hz
      clear hz
      have hsd := l_send_room W wr 2 st HL.out 1 (by omega) (zs i) (by rw [Hev.out, evsOf_len]; omega)
      rw [show ((1 : Nat) : Int) = 1 from rfl] at hsd
      have Hsd := hid hsd
      clear hsd
      go_wp2_with (go_at_call 9; refine Hsd.out.mono ?_; rintro e w1 ⟨rfl, L1⟩)
      go_roundw
      case rel => exact ⟨i + 1, _, by omega, by go_num, L1.out, by simp [upd, Hev.out, evsOf_succ], by simp [upd, Hs0.out]⟩
      case measure => simp [intOf]; omega
    · have hiM : i = 16 := by omega
      have Hev2 : Hid ((st 1).ev = evsFrom zs 0 16) := by unfold Hid; rw [Hev.out, hiM, evsFrom_zero]
      have hsf := l_send_full W wr 2 st HL.out 1 (by omega) 5 (by rw [Hev.out, evsOf_len]; omega)
      rw [show ((1 : Nat) : Int) = 1 from rfl] at hsf
      have Hsf := hid hsf
      clear hsf
      have hwt := l_waiting W wr 2 st HL.out 0 (by omega)
      rw [Hs0.out, show ((0 : Nat) : Int) = 0 from rfl, show ((lc0.ev.length : Nat) : Int) = 0 from rfl] at hwt
      have Hw := hid hwt
      clear hwt hiM
      go_wp2_with (first
        | (go_at_call 10; refine Hw.out.mono ?_; rintro e w' ⟨rfl, rfl⟩)
        | (go_at_call 9; refine Hsf.out.mono ?_; rintro e w' ⟨rfl, rfl⟩)
        | fail)
      go_loopw [11] (fun vi wr => TakeI W 16 zs vi wr) (fun i _ => 16 - (intOf i).toNat)
      case atStart => exact ⟨0, _, Nat.zero_le _, rfl, HL.out, Hev2.out, Hs0.out⟩
      case round =>
        obtain ⟨j, st2, hj, rfl, hL, hev, hst0⟩ := hrel
        have KL := hid hL
        have Kev := hid hev
        have Ks0 := hid hst0
        clear hL hev hst0
        by_cases hjt : j < 16
        · obtain ⟨b, off, hto, hz, _⟩ := HT.out.2.2 j (by omega)
          subst hto
          have htk := l_take_some W _ 2 st2 KL.out 1 (by omega) (zs j) (evsFrom zs (j + 1) 16) (by rw [Kev.out]; exact evsFrom_step zs j 16 hjt)
          rw [show ((1 : Nat) : Int) = 1 from rfl] at htk
          have Htk := hid htk
          have Hz := hid hz
          clear htk hz
          go_wp2_with (go_at_call 11; refine Htk.out.mono ?_; rintro e w1 ⟨rfl, L1⟩; have kz := L1.out.cell Hz.out)
          go_roundw
          case rel => exact ⟨j + 1, _, by omega, by go_num, L1.out, by simp [upd], by simp [upd, Ks0.out]⟩
          case measure => simp [intOf]; omega
        · have htn := l_take_none W _ 2 st2 KL.out 1 (by omega) (by rw [Kev.out]; exact evsFrom_end zs j 16 (by omega))
          rw [show ((1 : Nat) : Int) = 1 from rfl] at htn
          have Htn := hid htn
          have hse := l_set W _ 2 st2 KL.out 0 (by omega) t
          rw [show ((0 : Nat) : Int) = 0 from rfl, Ks0.out] at hse
          have Hse := hid hse
          clear htn hse
          go_wp2_with (first
            | (go_at_call 11; refine Htn.out.mono ?_; rintro e w' ⟨rfl, rfl⟩)
            | (go_at_call 14; refine Hse.out.mono ?_; rintro e w2 ⟨rfl, L2⟩)
            | fail)
          go_loopw [16, 17, 18] (fun vn vt vi wr => TickI W sl t vn vt vi wr) (fun _ _ i _ => 1000 - (intOf i).toNat)
          case atStart => exact ⟨0, _, 0, true, Nat.zero_le _, by omega, rfl, rfl, rfl, by omega, by omega, L2.out, by simp [upd, lc0]⟩
          case round =>
            obtain ⟨q, st3, k, ar, hq, hq2, rfl, rfl, rfl, hk0, hk1, hL, hst⟩ := hrel
            have GL := hid hL
            have Gs := hid hst
            clear hL hst
            by_cases hqt : q < sl ∧ q < 1000
            · obtain ⟨hqt, hqt2⟩ := hqt
              obtain ⟨b2, off2, hso, hy, _⟩ := HS.out.2.2 q hqt
              subst hso
              have ky := GL.out.cell hy
              have Hy := hid hy
              clear hy
              obtain ⟨y, hby, hy1⟩ := and_maskU0 (ys q) 40 1099511627775 (by omega) (by decide)
              rw [show ((1099511627775 : Nat) : Int) = 1099511627775 from rfl] at hby
              have htc := l_tick W _ 2 st3 GL.out 0 (by omega) y (by omega) (by rw [Gs.out]; exact hk0) (by rw [Gs.out]; show k ≤ _; omega)
              rw [show ((0 : Nat) : Int) = 0 from rfl, Gs.out] at htc
              have hyk : (y : Int) ≤ 4611686018427387904 - k := by omega
              cases ar with
              | false =>
                obtain ⟨hd, htk⟩ := tick_off k y hyk
                simp only [Bool.false_eq_true, ↓reduceIte] at htc
                rw [hd, htk] at htc
                have Htc := hid htc
                clear htc hd htk
                go_wp2_with (first
                  | (go_at_call 12; refine Htc.out.mono ?_; rintro e w5 ⟨rfl, L5⟩; have hnw := l_now W w5 2 _ L5.out 0 (by omega); rw [show ((0 : Nat) : Int) = 0 from rfl, show upd st3 0 _ 0 = _ from if_pos rfl] at hnw; have Hnw := hid hnw; clear hnw; have ky5 := L5.out.cell Hy.out)
                  | (go_at_call 15; refine Hnw.out.mono ?_; rintro e w' ⟨rfl, rfl⟩)
                  | fail)
                go_roundw
                case rel => exact ⟨q + 1, _, k + y, false, by omega, by omega, by go_num, rfl, rfl, by omega, by omega, L5.out, by simp [upd]⟩
                case measure => simp [intOf]; omega
              | true =>
                by_cases hdue : (t : Int) ≤ k + y
                · obtain ⟨hd, htk⟩ := tick_due k y t hyk hdue
                  simp only [↓reduceIte] at htc
                  rw [hd, htk] at htc
                  have Htc := hid htc
                  clear htc hd htk
                  go_wp2_with (first
                    | (go_at_call 12; refine Htc.out.mono ?_; rintro e w5 ⟨rfl, L5⟩; have hnw := l_now W w5 2 _ L5.out 0 (by omega); rw [show ((0 : Nat) : Int) = 0 from rfl, show upd st3 0 _ 0 = _ from if_pos rfl] at hnw; have Hnw := hid hnw; clear hnw; have ky5 := L5.out.cell Hy.out)
                    | (go_at_call 15; refine Hnw.out.mono ?_; rintro e w' ⟨rfl, rfl⟩)
                    | fail)
                  go_roundw
                  case rel => exact ⟨q + 1, _, k + y, false, by omega, by omega, by go_num, rfl, rfl, by omega, by omega, L5.out, by simp [upd]⟩
                  case measure => simp [intOf]; omega
                · obtain ⟨hd, htk⟩ := tick_wait k y t hyk hdue
                  simp only [↓reduceIte] at htc
                  rw [hd, htk] at htc
                  have Htc := hid htc
                  clear htc hd htk
                  go_wp2_with (first
                    | (go_at_call 12; refine Htc.out.mono ?_; rintro e w5 ⟨rfl, L5⟩; have hnw := l_now W w5 2 _ L5.out 0 (by omega); rw [show ((0 : Nat) : Int) = 0 from rfl, show upd st3 0 _ 0 = _ from if_pos rfl] at hnw; have Hnw := hid hnw; clear hnw; have ky5 := L5.out.cell Hy.out)
                    | (go_at_call 15; refine Hnw.out.mono ?_; rintro e w' ⟨rfl, rfl⟩)
                    | fail)
                  go_roundw
                  case rel => exact ⟨q + 1, _, k + y, true, by omega, by omega, by go_num, rfl, rfl, by omega, by omega, L5.out, by simp [upd]⟩
                  case measure => simp [intOf]; omega
            · have hb := hid GL.out.below
              go_wp2
              all_goals go_ret
              all_goals exact ⟨rfl, hb.out⟩

set_option maxHeartbeats 4000000 in
set_option maxRecDepth 100000 in
theorem order_eq (to : Option Addr) (tl tc : Nat) (zs : Nat → Int) (att : Int) (so : Option Addr) (sl sc : Nat) (ys : Nat → Int) (W : World) (hT : Ints W to tl tc .i64 zs) (hS : Ints W so sl sc .u64 ys) (h16 : tl = 16) :
    Calls Try.prog 5 #[.slice to tl tc, .int .u64 att, .slice so sl sc] W fun e w' => e = .returned (.bool true) ∧ Below W.heap.size W w' := by
  obtain ⟨t, hbt, ht⟩ := and_maskU0 att 40 1099511627775 (by omega) (by decide)
  rw [show ((1099511627775 : Nat) : Int) = 1099511627775 from rfl] at hbt
  have hnew := l_new 2 (by omega) (by omega) W
  rw [show ((2 : Nat) : Int) = 2 from rfl] at hnew
  have Hnew := hid hnew
  have HT := hid hT
  have HS := hid hS
  have t1 := hT.1
  have t2 := hT.2.1
  have s1 := hS.1
  have s2 := hS.2.1
  clear hnew hT hS
  subst h16
  go_enter Try.func5, Try.ntmps5
  go_wp2_with (go_at_call 8; refine Hnew.out.mono ?_; rintro e w0 ⟨rfl, L0⟩)
  go_loopw [10] (fun vi wr => SendI W 16 zs vi wr) (fun i _ => 16 - (intOf i).toNat)
  case atStart => exact ⟨0, _, Nat.zero_le _, rfl, L0.out, rfl, rfl⟩
  case round =>
    obtain ⟨i, st, hi, rfl, hL, hev, hst0⟩ := hrel
    have HL := hid hL
    have Hev := hid hev
    have Hs0 := hid hst0
    clear hL hev hst0
    by_cases hlt : i < 16
    · obtain ⟨b, off, hto, hz, _⟩ := HT.out.2.2 i (by omega)
      subst hto
      have kz := HL.out.cell hz
      clear hz
      have hsd := l_send_room W wr 2 st HL.out 1 (by omega) (zs i) (by rw [Hev.out, evsOf_len]; omega)
      rw [show ((1 : Nat) : Int) = 1 from rfl] at hsd
      have Hsd := hid hsd
      clear hsd
      go_wp2_with (go_at_call 9; refine Hsd.out.mono ?_; rintro e w1 ⟨rfl, L1⟩)
      go_roundw
      case rel => exact ⟨i + 1, _, by omega, by go_num, L1.out, by simp [upd, Hev.out, evsOf_succ], by simp [upd, Hs0.out]⟩
      case measure => simp [intOf]; omega
    · have hiM : i = 16 := by omega
      have Hev2 : Hid ((st 1).ev = evsFrom zs 0 16) := by unfold Hid; rw [Hev.out, hiM, evsFrom_zero]
      have hsf := l_send_full W wr 2 st HL.out 1 (by omega) 5 (by rw [Hev.out, evsOf_len]; omega)
      rw [show ((1 : Nat) : Int) = 1 from rfl] at hsf
      have Hsf := hid hsf
      clear hsf
      have hwt := l_waiting W wr 2 st HL.out 0 (by omega)
      rw [Hs0.out, show ((0 : Nat) : Int) = 0 from rfl, show ((lc0.ev.length : Nat) : Int) = 0 from rfl] at hwt
      have Hw := hid hwt
      clear hwt hiM
      go_wp2_with (first
        | (go_at_call 10; refine Hw.out.mono ?_; rintro e w' ⟨rfl, rfl⟩)
        | (go_at_call 9; refine Hsf.out.mono ?_; rintro e w' ⟨rfl, rfl⟩)
        | fail)
      go_loopw [11] (fun vi wr => TakeI W 16 zs vi wr) (fun i _ => 16 - (intOf i).toNat)
      case atStart => exact ⟨0, _, Nat.zero_le _, rfl, HL.out, Hev2.out, Hs0.out⟩
      case round =>
        obtain ⟨j, st2, hj, rfl, hL, hev, hst0⟩ := hrel
        have KL := hid hL
        have Kev := hid hev
        have Ks0 := hid hst0
        clear hL hev hst0
        by_cases hjt : j < 16
        · obtain ⟨b, off, hto, hz, _⟩ := HT.out.2.2 j (by omega)
          subst hto
          have htk := l_take_some W _ 2 st2 KL.out 1 (by omega) (zs j) (evsFrom zs (j + 1) 16) (by rw [Kev.out]; exact evsFrom_step zs j 16 hjt)
          rw [show ((1 : Nat) : Int) = 1 from rfl] at htk
          have Htk := hid htk
          have Hz := hid hz
          clear htk hz
          go_wp2_with (go_at_call 11; refine Htk.out.mono ?_; rintro e w1 ⟨rfl, L1⟩; have kz := L1.out.cell Hz.out)
          go_roundw
          case rel => exact ⟨j + 1, _, by omega, by go_num, L1.out, by simp [upd], by simp [upd, Ks0.out]⟩
          case measure => simp [intOf]; omega
        · have htn := l_take_none W _ 2 st2 KL.out 1 (by omega) (by rw [Kev.out]; exact evsFrom_end zs j 16 (by omega))
          rw [show ((1 : Nat) : Int) = 1 from rfl] at htn
          have Htn := hid htn
          have hse := l_set W _ 2 st2 KL.out 0 (by omega) t
          rw [show ((0 : Nat) : Int) = 0 from rfl, Ks0.out] at hse
          have Hse := hid hse
          clear htn hse
          go_wp2_with (first
            | (go_at_call 11; refine Htn.out.mono ?_; rintro e w' ⟨rfl, rfl⟩)
            | (go_at_call 14; refine Hse.out.mono ?_; rintro e w2 ⟨rfl, L2⟩)
            | fail)
          go_loopw [16, 17, 18] (fun vn vt vi wr => TickI W sl t vn vt vi wr) (fun _ _ i _ => 1000 - (intOf i).toNat)
          case atStart => exact ⟨0, _, 0, true, Nat.zero_le _, by omega, rfl, rfl, rfl, by omega, by omega, L2.out, by simp [upd, lc0]⟩
          case round =>
            obtain ⟨q, st3, k, ar, hq, hq2, rfl, rfl, rfl, hk0, hk1, hL, hst⟩ := hrel
            have GL := hid hL
            have Gs := hid hst
            clear hL hst
            by_cases hqt : q < sl ∧ q < 1000
            · obtain ⟨hqt, hqt2⟩ := hqt
              obtain ⟨b2, off2, hso, hy, _⟩ := HS.out.2.2 q hqt
              subst hso
              have ky := GL.out.cell hy
              have Hy := hid hy
              clear hy
              obtain ⟨y, hby, hy1⟩ := and_maskU0 (ys q) 40 1099511627775 (by omega) (by decide)
              rw [show ((1099511627775 : Nat) : Int) = 1099511627775 from rfl] at hby
              have htc := l_tick W _ 2 st3 GL.out 0 (by omega) y (by omega) (by rw [Gs.out]; exact hk0) (by rw [Gs.out]; show k ≤ _; omega)
              rw [show ((0 : Nat) : Int) = 0 from rfl, Gs.out] at htc
              have hyk : (y : Int) ≤ 4611686018427387904 - k := by omega
              cases ar with
              | false =>
                obtain ⟨hd, htk⟩ := tick_off k y hyk
                simp only [Bool.false_eq_true, ↓reduceIte] at htc
                rw [hd, htk] at htc
                have Htc := hid htc
                clear htc hd htk
                go_wp2_with (first
                  | (go_at_call 12; refine Htc.out.mono ?_; rintro e w5 ⟨rfl, L5⟩; have hnw := l_now W w5 2 _ L5.out 0 (by omega); rw [show ((0 : Nat) : Int) = 0 from rfl, show upd st3 0 _ 0 = _ from if_pos rfl] at hnw; have Hnw := hid hnw; clear hnw; have ky5 := L5.out.cell Hy.out)
                  | (go_at_call 15; refine Hnw.out.mono ?_; rintro e w' ⟨rfl, rfl⟩)
                  | fail)
                go_roundw
                case rel => exact ⟨q + 1, _, k + y, false, by omega, by omega, by go_num, rfl, rfl, by omega, by omega, L5.out, by simp [upd]⟩
                case measure => simp [intOf]; omega
              | true =>
                by_cases hdue : (t : Int) ≤ k + y
                · obtain ⟨hd, htk⟩ := tick_due k y t hyk hdue
                  simp only [↓reduceIte] at htc
                  rw [hd, htk] at htc
                  have Htc := hid htc
                  clear htc hd htk
                  go_wp2_with (first
                    | (go_at_call 12; refine Htc.out.mono ?_; rintro e w5 ⟨rfl, L5⟩; have hnw := l_now W w5 2 _ L5.out 0 (by omega); rw [show ((0 : Nat) : Int) = 0 from rfl, show upd st3 0 _ 0 = _ from if_pos rfl] at hnw; have Hnw := hid hnw; clear hnw; have ky5 := L5.out.cell Hy.out)
                    | (go_at_call 15; refine Hnw.out.mono ?_; rintro e w' ⟨rfl, rfl⟩)
                    | fail)
                  go_roundw
                  case rel => exact ⟨q + 1, _, k + y, false, by omega, by omega, by go_num, rfl, rfl, by omega, by omega, L5.out, by simp [upd]⟩
                  case measure => simp [intOf]; omega
                · obtain ⟨hd, htk⟩ := tick_wait k y t hyk hdue
                  simp only [↓reduceIte] at htc
                  rw [hd, htk] at htc
                  have Htc := hid htc
                  clear htc hd htk
                  go_wp2_with (first
                    | (go_at_call 12; refine Htc.out.mono ?_; rintro e w5 ⟨rfl, L5⟩; have hnw := l_now W w5 2 _ L5.out 0 (by omega); rw [show ((0 : Nat) : Int) = 0 from rfl, show upd st3 0 _ 0 = _ from if_pos rfl] at hnw; have Hnw := hid hnw; clear hnw; have ky5 := L5.out.cell Hy.out)
                    | (go_at_call 15; refine Hnw.out.mono ?_; rintro e w' ⟨rfl, rfl⟩)
                    | fail)
                  go_roundw
                  case rel => exact ⟨q + 1, _, k + y, true, by omega, by omega, by go_num, rfl, rfl, by omega, by omega, L5.out, by simp [upd]⟩
                  case measure => simp [intOf]; omega
            · have hb := hid GL.out.below
              go_wp2
              all_goals go_ret
              all_goals exact ⟨rfl, hb.out⟩

theorem order_walk (to : Option Addr) (tl tc : Nat) (zs : Nat → Int) (att : Int) (so : Option Addr) (sl sc : Nat) (ys : Nat → Int) (W : World) (hT : Ints W to tl tc .i64 zs) (hS : Ints W so sl sc .u64 ys) :
    Calls Try.prog 5 #[.slice to tl tc, .int .u64 att, .slice so sl sc] W fun e w' => e = .returned (.bool true) ∧ Below W.heap.size W w' := by
  rcases Nat.lt_trichotomy tl 16 with h | h | h
  · exact order_lt to tl tc zs att so sl sc ys W hT hS h
  · exact order_eq to tl tc zs att so sl sc ys W hT hS h
  · exact order_gt to tl tc zs att so sl sc ys W hT hS h
end Go.Proofs.Ytmnomjeiijpinaa

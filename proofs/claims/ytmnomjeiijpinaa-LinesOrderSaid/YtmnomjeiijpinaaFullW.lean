/-
  LinesFull, walked. No conditions.
-/
import Derived.Test.YtmnomjeiijpinaaLaw0
namespace Go.Proofs.Ytmnomjeiijpinaa
open Go.RowKit Go.Conc

def evsOf (zs : Nat → Int) (m : Nat) : List Int := (List.range m).map zs
def stOf (c : Nat) (L : List Int) : Nat → LC := fun j => if j = c then ⟨L, 0, 0, false⟩ else lc0

theorem evsOf_len (zs : Nat → Int) (m : Nat) : (evsOf zs m).length = m := by simp [evsOf]
theorem evsOf_succ (zs : Nat → Int) (m : Nat) : evsOf zs (m + 1) = evsOf zs m ++ [zs m] := by simp [evsOf, List.range_succ]
theorem evsOf_head (zs : Nat → Int) (m : Nat) : evsOf zs (m + 1) = zs 0 :: ((List.range m).map fun i => zs (i + 1)) := by
  simp [evsOf, List.range_succ_eq_map, Function.comp_def]
theorem stOf_self (c : Nat) (L : List Int) : stOf c L c = ⟨L, 0, 0, false⟩ := by simp [stOf]
theorem stOf_upd (c : Nat) (L L' : List Int) : upd (stOf c L) c { stOf c L c with ev := L' } = stOf c L' := by
  funext j
  by_cases h : j = c <;> simp [upd, stOf, h]
theorem stOf_nil (c : Nat) : stOf c [] = fun _ => lc0 := by
  funext j
  by_cases h : j = c <;> simp [stOf, lc0, h]

/-- What holds at each round's head. -/
def FullI (W : World) (tl c : Nat) (zs : Nat → Int) (vi : Value) (wr : World) : Prop :=
  ∃ i : Nat, i ≤ tl ∧ i ≤ 100 ∧ vi = .int .i64 i ∧ LIN W wr 4 (stOf c (evsOf zs (min i 16)))

set_option maxHeartbeats 600000 in
set_option maxRecDepth 100000 in
theorem full_walk (to : Option Addr) (tl tc : Nat) (zs : Nat → Int) (core : Int) (W : World) (hT : Ints W to tl tc .i64 zs) :
    Calls Try.prog 3 #[.slice to tl tc, .int .i64 core] W fun e w' => e = .returned (.bool true) ∧ Below W.heap.size W w' := by
  obtain ⟨c, hbc, hc3, hcm⟩ := and_mask64_nat core 2 3 (by omega) (by decide)
  clear hcm
  rw [show ((3 : Nat) : Int) = 3 from rfl] at hbc
  have hc4 : c < 4 := by omega
  have HT := hid hT
  have t1 := hT.1
  have t2 := hT.2.1
  clear hT
  have hnew := l_new 4 (by omega) (by omega) W
  rw [show ((4 : Nat) : Int) = 4 from rfl] at hnew
  have Hnew := hid hnew
  clear hnew
  go_enter Try.func3, Try.ntmps3
  go_wp2_with (go_at_call 8; refine Hnew.out.mono ?_; rintro e w0 ⟨rfl, L0⟩)
  go_loopw [7] (fun vi wr => FullI W tl c zs vi wr) (fun i _ => 100 - (intOf i).toNat)
  case atStart => exact ⟨0, Nat.zero_le _, by omega, rfl, by rw [show evsOf zs (min 0 16) = [] from rfl, stOf_nil]; exact L0.out⟩
  case round =>
    obtain ⟨i, hi, hi100, rfl, hL⟩ := hrel
    have HL := hid hL
    clear hL
    by_cases hlt : i < tl ∧ i < 100
    · obtain ⟨hlt, hlt2⟩ := hlt
      obtain ⟨b, off, hto, hz, _⟩ := HT.out.2.2 i hlt
      subst hto
      have kz := HL.out.cell hz
      clear hz
      by_cases h16 : i < 16
      · have e1 : min i 16 = i := by omega
        have e2 : min (i + 1) 16 = i + 1 := by omega
        have HL1 := HL.out
        rw [e1] at HL1
        have HL2 := hid HL1
        have E2 := hid e2
        clear HL1 e1 e2
        go_wp2_with fail
        refine (l_send_room W wr 4 _ HL2.out c hc4 (zs i) (by rw [stOf_self]; rw [evsOf_len]; exact h16)).mono ?_
        rintro e w1 ⟨rfl, L1⟩
        rw [stOf_upd, stOf_self] at L1
        simp only [← evsOf_succ] at L1
        have hwt := l_waiting W w1 4 _ L1.out c hc4
        rw [stOf_self] at hwt
        simp only [evsOf_len] at hwt
        have Hw := hid hwt
        clear hwt
        go_wp2_with (go_at_call 10; refine Hw.out.mono ?_; rintro e w' ⟨rfl, rfl⟩)
        go_roundw
        case rel => exact ⟨i + 1, by omega, by omega, by go_num, by rw [E2.out]; exact L1.out⟩
        case measure => simp [intOf]; omega
      · have e1 : min i 16 = 16 := by omega
        have e2 : min (i + 1) 16 = 16 := by omega
        have HL1 := HL.out
        rw [e1] at HL1
        have HL2 := hid HL1
        have E2 := hid e2
        clear HL1 e1 e2
        go_wp2_with fail
        refine (l_send_full W wr 4 _ HL2.out c hc4 (zs i) (by rw [stOf_self]; exact Nat.le_of_eq (evsOf_len _ _).symm)).mono ?_
        rintro e w1 ⟨rfl, rfl⟩
        have hwt := l_waiting W wr 4 _ HL2.out c hc4
        rw [stOf_self] at hwt
        simp only [evsOf_len] at hwt
        have Hw := hid hwt
        clear hwt
        go_wp2_with (go_at_call 10; refine Hw.out.mono ?_; rintro e w' ⟨rfl, rfl⟩)
        go_roundw
        case rel => exact ⟨i + 1, by omega, by omega, by go_num, by rw [E2.out]; exact HL2.out⟩
        case measure => simp [intOf]; omega
    · by_cases h17 : tl < 17
      · have hit : i = tl := by omega
        have hb := hid HL.out.below
        have hnl : ¬ i < tl := by omega
        clear hit hlt
        go_wp2
        go_ret
        exact ⟨rfl, hb.out⟩
      · have e1 : min i 16 = 16 := by omega
        have HL1 := HL.out
        rw [e1] at HL1
        have HL2 := hid HL1
        obtain ⟨b, off, hto, hz, _⟩ := HT.out.2.2 0 (by omega)
        subst hto
        rw [Nat.add_zero] at hz
        obtain ⟨T, hTe⟩ : ∃ T : List Int, T = (List.range 15).map fun i => zs (i + 1) := ⟨_, rfl⟩
        have hTl : T.length = 15 := by rw [hTe]; simp
        have hhead : evsOf zs 16 = zs 0 :: T := by rw [hTe]; exact evsOf_head zs 15
        have Hhead := hid hhead
        have HTl := hid hTl
        have Hz := hid hz
        clear HL1 e1 hz hhead hTl hTe
        go_wp2_with fail
        all_goals
          refine (l_take_some W wr 4 _ HL2.out c hc4 (zs 0) T (by rw [stOf_self]; exact Hhead.out)).mono ?_
          rintro e w1 ⟨rfl, L1⟩
          rw [stOf_upd] at L1
          have kz := L1.out.cell Hz.out
          have hwt := l_waiting W w1 4 _ L1.out c hc4
          rw [stOf_self] at hwt
          simp only [HTl.out] at hwt
          rw [show ((15 : Nat) : Int) = 15 from rfl] at hwt
          have Hw := hid hwt
          clear hwt
          go_wp2_with (go_at_call 10; refine Hw.out.mono ?_; rintro e w' ⟨rfl, rfl⟩)
        all_goals
          refine (l_send_room W w1 4 _ L1.out c hc4 5 (by rw [stOf_self]; show T.length < 16; rw [HTl.out]; omega)).mono ?_
          rintro e w2 ⟨rfl, L2⟩
          rw [stOf_upd, stOf_self] at L2
          go_wp2_with fail
        all_goals
          refine (l_send_full W w2 4 _ L2.out c hc4 6 (by rw [stOf_self]; show 16 ≤ (T ++ [5]).length; rw [List.length_append, HTl.out]; exact Nat.le_refl _)).mono ?_
          rintro e w3 ⟨rfl, rfl⟩
          have hb := hid L2.out.below
          go_wp2_with fail
          go_ret
          exact ⟨rfl, hb.out⟩
end Go.Proofs.Ytmnomjeiijpinaa

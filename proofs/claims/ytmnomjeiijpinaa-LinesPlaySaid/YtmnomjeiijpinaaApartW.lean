/-
  LinesApart, walked. No conditions.
-/
import Derived.Test.YtmnomjeiijpinaaActs
namespace Go.Proofs.Ytmnomjeiijpinaa
open Go.RowKit Go.Conc

def ClockOk (c : LC) : Prop := 0 ≤ c.clock ∧ c.clock ≤ 4611686018427387904

theorem ClockOk.tick {c : LC} (h : ClockOk c) (x : Int) (hx : 0 ≤ x) : ClockOk (c.tick x) := by
  have ht : 0 ≤ c.tickClock x ∧ c.tickClock x ≤ 4611686018427387904 := by
    unfold LC.tickClock topC
    unfold ClockOk at h
    split <;> omega
  unfold LC.tick ClockOk
  split <;> exact ht

/-- Behind a call at core i: the others are as they were. -/
def After (W w' : World) (n : Nat) (st : Nat → LC) (i : Nat) : Prop :=
  ∃ st', LIN W w' n st' ∧ (∀ j, j ≠ i → st' j = st j) ∧ ((∀ j, ClockOk (st j)) → ∀ j, ClockOk (st' j))

theorem After.upd {W w' : World} {n : Nat} {st : Nat → LC} {i : Nat} {c : LC} (h : LIN W w' n (upd st i c)) (hc : ClockOk (st i) → ClockOk c) : After W w' n st i :=
  ⟨_, h, fun j hj => by simp [Go.Proofs.Ytmnomjeiijpinaa.upd, hj], fun ho j => by
    by_cases e : j = i
    · subst e; simpa [Go.Proofs.Ytmnomjeiijpinaa.upd] using hc (ho j)
    · simpa [Go.Proofs.Ytmnomjeiijpinaa.upd, e] using ho j⟩

section
variable (W w : World) (n : Nat) (st : Nat → LC) (h : LIN W w n st) (i : Nat) (hi : i < n)
include h hi

theorem a_send (x : Int) : Calls Try.prog 9 #[.pointer (some ⟨W.heap.size, 0, none⟩), .int .i64 i, .int .i64 x] w fun e w' => ∃ v, e = .returned v ∧ Hid (After W w' n st i) := by
  by_cases hl : (st i).ev.length < 16
  · refine (l_send_room W w n st h i hi x hl).mono ?_
    rintro e w' ⟨rfl, h'⟩
    exact ⟨_, rfl, After.upd h'.out id⟩
  · refine (l_send_full W w n st h i hi x (by omega)).mono ?_
    rintro e w' ⟨rfl, rfl⟩
    exact ⟨_, rfl, st, h, fun _ _ => rfl, fun h => h⟩

theorem a_take : Calls Try.prog 11 #[.pointer (some ⟨W.heap.size, 0, none⟩), .int .i64 i] w fun e w' => ∃ v, e = .returned v ∧ Hid (After W w' n st i) := by
  cases hl : (st i).ev with
  | nil =>
    refine (l_take_none W w n st h i hi hl).mono ?_
    rintro e w' ⟨rfl, rfl⟩
    exact ⟨_, rfl, st, h, fun _ _ => rfl, fun h => h⟩
  | cons x l =>
    refine (l_take_some W w n st h i hi x l hl).mono ?_
    rintro e w' ⟨rfl, h'⟩
    exact ⟨_, rfl, After.upd h'.out id⟩

theorem a_set (x : Int) : Calls Try.prog 14 #[.pointer (some ⟨W.heap.size, 0, none⟩), .int .i64 i, .int .u64 x] w fun e w' => ∃ v, e = .returned v ∧ Hid (After W w' n st i) := by
  refine (l_set W w n st h i hi x).mono ?_
  rintro e w' ⟨rfl, h'⟩
  exact ⟨_, rfl, After.upd h'.out id⟩

theorem a_tick (x : Int) (hx : 0 ≤ x) (hc : ∀ j, ClockOk (st j)) : Calls Try.prog 12 #[.pointer (some ⟨W.heap.size, 0, none⟩), .int .i64 i, .int .u64 x] w fun e w' => ∃ v, e = .returned v ∧ Hid (After W w' n st i) := by
  refine (l_tick W w n st h i hi x hx (hc i).1 (hc i).2).mono ?_
  rintro e w' ⟨rfl, h'⟩
  exact ⟨_, rfl, After.upd h'.out (fun ho => ho.tick x hx)⟩
end

/-- What holds at each round's head: core 2 as it was made ready. -/
def ApartS (st : Nat → LC) : Prop := st 2 = ⟨[7], 0, 50, true⟩ ∧ ∀ j, ClockOk (st j)
def ApartI (W : World) (pl : Nat) (vi : Value) (wr : World) : Prop :=
  ∃ (i : Nat) (st : Nat → LC), i ≤ pl ∧ vi = .int .i64 i ∧ LIN W wr 3 st ∧ ApartS st

theorem ApartS.after {W w' : World} {st : Nat → LC} {i : Nat} (h : ApartS st) (hi : i ≤ 1) (ha : After W w' 3 st i) : ∃ st', LIN W w' 3 st' ∧ ApartS st' := by
  obtain ⟨st', h1, h2, h3⟩ := ha
  exact ⟨st', h1, by rw [h2 2 (by omega)]; exact h.1, h3 h.2⟩

/-- What core 2 tells. -/
theorem apart_tells {W w : World} {st : Nat → LC} (h : LIN W w 3 st) (hs : ApartS st) :
    (Calls Try.prog 13 #[.pointer (some ⟨W.heap.size, 0, none⟩), .int .i64 2] w fun e w' => e = .returned (.tuple #[.int .u64 50, .bool true]) ∧ w = w') ∧
    (Calls Try.prog 10 #[.pointer (some ⟨W.heap.size, 0, none⟩), .int .i64 2] w fun e w' => e = .returned (.int .i64 1) ∧ w = w') ∧
    (Calls Try.prog 15 #[.pointer (some ⟨W.heap.size, 0, none⟩), .int .i64 2] w fun e w' => e = .returned (.int .u64 0) ∧ w = w') := by
  have h1 := l_armed W w 3 st h 2 (by omega)
  have h2 := l_waiting W w 3 st h 2 (by omega)
  have h3 := l_now W w 3 st h 2 (by omega)
  rw [hs.1] at h1 h2 h3
  exact ⟨h1, h2, h3⟩

set_option maxHeartbeats 2000000 in
set_option maxRecDepth 100000 in
theorem apart_walk (po : Option Addr) (pl pc : Nat) (ac : Nat → Act4) (W : World) (hA : Acts W po pl pc ac) :
    Calls Try.prog 7 #[.slice po pl pc] W fun e w' => e = .returned (.bool true) ∧ Below W.heap.size W w' := by
  have hnew := l_new 3 (by omega) (by omega) W
  rw [show ((3 : Nat) : Int) = 3 from rfl] at hnew
  have Hnew := hid hnew
  have HA := hid hA
  have p1 := hA.1
  have p2 := hA.2.1
  clear hnew hA
  go_enter Try.func7, Try.ntmps7
  go_wp2_with (go_at_call 8; refine Hnew.out.mono ?_; rintro e w0 ⟨rfl, L0⟩)
  have hs := l_send_room W w0 3 _ L0.out 2 (by omega) 7 (by simp [lc0])
  rw [show ((2 : Nat) : Int) = 2 from rfl] at hs
  refine hs.mono ?_
  clear hs
  rintro e w1 ⟨rfl, L1⟩
  go_wp2_with fail
  have hs := l_set W w1 3 _ L1.out 2 (by omega) 50
  rw [show ((2 : Nat) : Int) = 2 from rfl] at hs
  refine hs.mono ?_
  clear hs
  rintro e w2 ⟨rfl, L2⟩
  have hst : ∃ st, LIN W w2 3 st ∧ ApartS st := by
    refine ⟨_, L2.out, by simp [upd, lc0], fun j => ?_⟩
    by_cases e : j = 2
    · subst e; simp [upd, lc0, ClockOk]
    · simp [upd, e, lc0, ClockOk]
  obtain ⟨st0, L2', S2⟩ := hst
  have L2'' := hid L2'
  have S2' := hid S2
  clear L2' S2 L2
  go_wp2_with fail
  go_loopw [5] (fun vi wr => ApartI W pl vi wr) (fun i _ => pl - (intOf i).toNat)
  case atStart => exact ⟨0, _, Nat.zero_le _, rfl, L2''.out, S2'.out⟩
  case round =>
    obtain ⟨i, st, hi, rfl, hL, hS⟩ := hrel
    have HL := hid hL
    have HS := hid hS
    clear hL hS
    by_cases hlt : i < pl
    · obtain ⟨b, off, hpo, k0, k1, k2, k3, hn⟩ := HA.out.2.2 i hlt
      subst hpo
      obtain ⟨x, hx⟩ : ∃ x, x = ac i := ⟨_, rfl⟩
      rw [← hx] at k0 k1 k2 k3 hn
      clear hx
      have kb := block_lt_of_cell k0
      replace k0 := HL.out.cell k0
      replace k1 := HL.out.cell k1
      replace k2 := HL.out.cell k2
      replace k3 := HL.out.cell k3
      obtain ⟨c, hbc, hc1, hcm⟩ := and_mask64_nat x.core 1 1 (by omega) (by decide)
      clear hcm
      rw [show ((1 : Nat) : Int) = 1 from rfl] at hbc
      have La : Hid (LIN W (wr.alloc (.cells #[.int .i64 x.kind, .int .i64 x.core, .int .i64 x.event, .int .u64 x.n] 34)) 3 st) := HL.out.kept (T := fun _ => False) ((Fr.refl _ _).alloc _) (fun _ _ h => h)
      have hsz := HL.out.fr.size
      go_wp2_with fail
      · refine (a_send W _ 3 st La.out c (by omega) x.event).mono ?_
        rintro e w3 ⟨v, rfl, hAf⟩
        obtain ⟨st', L3, S3⟩ := HS.out.after hc1 hAf.out
        have L3' := hid L3
        have S3' := hid S3
        clear L3 S3 hAf
        go_wp2_with fail
        obtain ⟨T1, T2, T3⟩ := apart_tells L3'.out S3'.out
        have H1 := hid T1
        have H2 := hid T2
        have H3 := hid T3
        clear T1 T2 T3
        go_wp2_with (first
          | (go_at_call 13; refine H1.out.mono ?_; rintro e w' ⟨rfl, rfl⟩)
          | (go_at_call 10; refine H2.out.mono ?_; rintro e w' ⟨rfl, rfl⟩)
          | (go_at_call 15; refine H3.out.mono ?_; rintro e w' ⟨rfl, rfl⟩)
          | fail)
        go_roundw
        case rel => exact ⟨i + 1, _, by omega, by go_num, L3'.out, S3'.out⟩
        case measure => simp [intOf]; omega
      · refine (a_take W _ 3 st La.out c (by omega)).mono ?_
        rintro e w3 ⟨v, rfl, hAf⟩
        obtain ⟨st', L3, S3⟩ := HS.out.after hc1 hAf.out
        have L3' := hid L3
        have S3' := hid S3
        clear L3 S3 hAf
        go_wp2_with fail
        obtain ⟨T1, T2, T3⟩ := apart_tells L3'.out S3'.out
        have H1 := hid T1
        have H2 := hid T2
        have H3 := hid T3
        clear T1 T2 T3
        go_wp2_with (first
          | (go_at_call 13; refine H1.out.mono ?_; rintro e w' ⟨rfl, rfl⟩)
          | (go_at_call 10; refine H2.out.mono ?_; rintro e w' ⟨rfl, rfl⟩)
          | (go_at_call 15; refine H3.out.mono ?_; rintro e w' ⟨rfl, rfl⟩)
          | fail)
        go_roundw
        case rel => exact ⟨i + 1, _, by omega, by go_num, L3'.out, S3'.out⟩
        case measure => simp [intOf]; omega
      · refine (a_set W _ 3 st La.out c (by omega) x.n).mono ?_
        rintro e w3 ⟨v, rfl, hAf⟩
        obtain ⟨st', L3, S3⟩ := HS.out.after hc1 hAf.out
        have L3' := hid L3
        have S3' := hid S3
        clear L3 S3 hAf
        go_wp2_with fail
        obtain ⟨T1, T2, T3⟩ := apart_tells L3'.out S3'.out
        have H1 := hid T1
        have H2 := hid T2
        have H3 := hid T3
        clear T1 T2 T3
        go_wp2_with (first
          | (go_at_call 13; refine H1.out.mono ?_; rintro e w' ⟨rfl, rfl⟩)
          | (go_at_call 10; refine H2.out.mono ?_; rintro e w' ⟨rfl, rfl⟩)
          | (go_at_call 15; refine H3.out.mono ?_; rintro e w' ⟨rfl, rfl⟩)
          | fail)
        go_roundw
        case rel => exact ⟨i + 1, _, by omega, by go_num, L3'.out, S3'.out⟩
        case measure => simp [intOf]; omega
      · refine (a_tick W _ 3 st La.out c (by omega) x.n hn HS.out.2).mono ?_
        rintro e w3 ⟨v, rfl, hAf⟩
        obtain ⟨st', L3, S3⟩ := HS.out.after hc1 hAf.out
        have L3' := hid L3
        have S3' := hid S3
        clear L3 S3 hAf
        go_wp2_with fail
        obtain ⟨T1, T2, T3⟩ := apart_tells L3'.out S3'.out
        have H1 := hid T1
        have H2 := hid T2
        have H3 := hid T3
        clear T1 T2 T3
        go_wp2_with (first
          | (go_at_call 13; refine H1.out.mono ?_; rintro e w' ⟨rfl, rfl⟩)
          | (go_at_call 10; refine H2.out.mono ?_; rintro e w' ⟨rfl, rfl⟩)
          | (go_at_call 15; refine H3.out.mono ?_; rintro e w' ⟨rfl, rfl⟩)
          | fail)
        go_roundw
        case rel => exact ⟨i + 1, _, by omega, by go_num, L3'.out, S3'.out⟩
        case measure => simp [intOf]; omega
      ·
        obtain ⟨T1, T2, T3⟩ := apart_tells La.out HS.out
        have H1 := hid T1
        have H2 := hid T2
        have H3 := hid T3
        clear T1 T2 T3
        go_wp2_with (first
          | (go_at_call 13; refine H1.out.mono ?_; rintro e w' ⟨rfl, rfl⟩)
          | (go_at_call 10; refine H2.out.mono ?_; rintro e w' ⟨rfl, rfl⟩)
          | (go_at_call 15; refine H3.out.mono ?_; rintro e w' ⟨rfl, rfl⟩)
          | fail)
        go_roundw
        case rel => exact ⟨i + 1, _, by omega, by go_num, La.out, HS.out⟩
        case measure => simp [intOf]; omega
    · have ht := l_take_some W wr 3 st HL.out 2 (by omega) 7 [] (by rw [HS.out.1])
      rw [show ((2 : Nat) : Int) = 2 from rfl] at ht
      have Ht := hid ht
      clear ht
      go_wp2_with fail
      refine Ht.out.mono ?_
      rintro e w3 ⟨rfl, L3⟩
      have hk := l_tick W w3 3 _ L3.out 2 (by omega) 50 (by omega) (by simp [upd, HS.out.1]) (by simp [upd, HS.out.1])
      rw [show ((2 : Nat) : Int) = 2 from rfl, show ((upd st 2 { st 2 with ev := [] }) 2).isDue 50 = true from by simp [upd, HS.out.1, LC.isDue, LC.tickClock, topC]] at hk
      have Hk := hid hk
      clear hk
      go_wp2_with fail
      refine Hk.out.mono ?_
      rintro e w4 ⟨rfl, L4⟩
      have hb := hid L4.out.below
      go_wp2_with fail
      go_ret
      exact ⟨rfl, hb.out⟩
end Go.Proofs.Ytmnomjeiijpinaa

/-
  CreditMoves, walked. No conditions.
-/
import Derived.Test.YtehjekcfhmmggaaCreG
import Derived.Deep.CutBlock
namespace Go.Proofs.Ytehjekcfhmmggaa
open Go.RowKit

theorem firstQ_none {s : CS} {n k : Nat} (hk : k < n) (h : firstQ s n k (fun _ => true) = none) : ∀ i, i < n → s.Q i = [] := by
  intro i hi
  unfold firstQ seek at h
  have h1 := List.findSome?_eq_none_iff.1 h ((i + (n - k)) % n) (List.mem_range'_1.2 ⟨Nat.zero_le _, by have := Nat.mod_lt (i + (n - k)) (show 0 < n by omega); omega⟩)
  have h2 : (k + (i + (n - k)) % n) % n = i := by
    rw [Nat.add_mod, Nat.mod_mod, ← Nat.add_mod, show k + (i + (n - k)) = i + n by omega, Nat.add_mod_right, Nat.mod_eq_of_lt hi]
  rw [h2] at h1
  cases hq : s.Q i with
  | nil => rfl
  | cons x l => rw [hq] at h1; cases h1
theorem pickO_empty {s : CS} {n k : Nat} (h : ∀ i, i < n → s.Q i = []) : pickO s n k = none := by
  cases hp : pickO s n k with
  | none => rfl
  | some id =>
    obtain ⟨i, hi, hm⟩ := pickO_some hp
    rw [h i hi] at hm
    cases hm

def mv1 (h : Nat) : CS := addS emptyC 5 3 h
def mvX (h : Nat) : One := ⟨5, 3, 0, h, 1⟩
def mv2 (h c : Nat) : CS := pickS (mv1 h) (mvX h) c
def mvY (c : Nat) : One := ⟨5, 3, 0, c, 2⟩
def mv3 (h c : Nat) : CS := yieldS (mv2 h c) (mvY c)

section
variable {n h c : Nat} (hh : h < n) (hc : c < n)

include hh in
theorem mv_add : addV n emptyC 5 3 h = 0 ∧ addN n emptyC 5 3 h = mv1 h := by
  have e : addV n emptyC 5 3 h = 0 := by
    unfold addV
    rw [if_neg (by rw [inR_of hh]; simp), if_neg (by simp [emptyC, findO]), if_neg (by simp [emptyC])]
  refine ⟨e, ?_⟩
  unfold addN
  rw [e, if_pos rfl]
  rfl

include hh hc in
theorem mv_pick : pickV n (mv1 h) c = (5, true, 0) ∧ pickN n (mv1 h) c = mv2 h c := by
  have hQ : ∀ i, i ≠ h → (mv1 h).Q i = [] := fun i hi => updN_ne _ _ hi
  have hQh : (mv1 h).Q h = [5] := by show updN _ h _ h = _; rw [updN_same]; rfl
  have hp : pickO (mv1 h) n c = some 5 := by
    cases hp : pickO (mv1 h) n c with
    | none =>
      unfold pickO at hp
      have := firstQ_none hc (Option.or_eq_none_iff.1 hp).2 h hh
      rw [hQh] at this
      cases this
    | some id =>
      obtain ⟨i, hi, hm⟩ := pickO_some hp
      by_cases e : i = h
      · rw [e, hQh] at hm
        rw [List.mem_singleton.1 hm]
      · rw [hQ i e] at hm
        cases hm
  have hb : ¬ (mv1 h).bs (c : Int).toNat = true := by show ¬ (false = true); decide
  constructor
  · unfold pickV
    rw [if_neg (by rw [inR_of hc]; decide), if_neg hb, show (c : Int).toNat = c from rfl, hp]
  · unfold pickN
    rw [if_neg (by rw [inR_of hc]; decide), if_neg hb, show (c : Int).toNat = c from rfl, hp]
    rfl

theorem mv2_Q (i : Nat) : (mv2 h c).Q i = [] := by
  show updN (updN (fun _ => []) h ([] ++ [5])) h (strike (updN (fun _ => []) h ([] ++ [5]) h) 5) i = []
  by_cases e : i = h
  · rw [e, updN_same, updN_same]
    rfl
  · rw [updN_ne _ _ e, updN_ne _ _ e]

theorem mv_idle {i : Nat} (hi : i < n) (hne : i ≠ c) : pickV n (mv2 h c) i = (0, false, 0) ∧ pickN n (mv2 h c) i = mv2 h c := by
  have hb : ¬ (mv2 h c).bs (i : Int).toNat = true := by
    show ¬ updN (fun _ => false) c true i = true
    rw [updN_ne _ _ hne]; decide
  have hp : pickO (mv2 h c) n i = none := pickO_empty (fun j _ => mv2_Q j)
  constructor
  · unfold pickV
    rw [if_neg (by rw [inR_of hi]; decide), if_neg hb, show (i : Int).toNat = i from rfl, hp]
  · unfold pickN
    rw [if_neg (by rw [inR_of hi]; decide), if_neg hb, show (i : Int).toNat = i from rfl, hp]

theorem mv2_L : (mv2 h c).L = [mvY c] := rfl

include hc in
theorem mv_yield : yieldV n (mv2 h c) c = (5, 0) ∧ yieldN n (mv2 h c) c = mv3 h c := by
  have hb : (mv2 h c).bs (c : Int).toNat = true := by show updN _ c true c = true; rw [updN_same]
  have hr : (mv2 h c).rv c = 5 := by show updN _ c _ c = 5; rw [updN_same]; rfl
  constructor
  · unfold yieldV
    rw [if_neg (by rw [inR_of hc]; decide), if_pos hb, show (c : Int).toNat = c from rfl, hr]
  · unfold yieldN
    rw [if_neg (by rw [inR_of hc]; decide), if_pos hb, show (c : Int).toNat = c from rfl, hr]
    rfl

theorem mv3_Q : (mv3 h c).Q c = [5] := by
  show updN (updN (mv2 h c).Q c (strike ((mv2 h c).Q c) 5)) c (updN (mv2 h c).Q c (strike ((mv2 h c).Q c) 5) c ++ [5]) c = [5]
  rw [updN_same, updN_same, mv2_Q]
  rfl

theorem mv_look : lookV (mv2 h c) 5 = .tuple #[.agg #[.int .i64 2, .int .i64 c, .int .i64 3, .int .i64 0], .bool true] := rfl
theorem mv_home : queueL n (mv2 h c) (h : Int) = [] := by
  unfold queueL
  split
  · exact mv2_Q _
  · rfl
include hc in
theorem mv_core : queueL n (mv3 h c) (c : Int) = [5] := by
  unfold queueL
  rw [if_pos (inR_of hc)]
  exact mv3_Q
end

def MvI (W : World) (cb n h c : Nat) (gg : Nat) (vi : Value) (wr : World) : Prop :=
  ∃ i : Nat, i ≤ n ∧ gg = n - i ∧ vi = .int .i64 i ∧ Hid (GS W cb 10 n (mv2 h c) wr)

set_option maxHeartbeats 4000000 in
set_option maxRecDepth 100000 in
theorem moves_walk (x y z : Int) (W : World) : Calls Try.prog 6 #[.int .i64 x, .int .i64 y, .int .i64 z] W fun e w' => e = .returned (.bool true) ∧ Below W.heap.size W w' := by
  obtain ⟨n0, hn, hn2, hn3⟩ := and_mask64_nat x 2 3 (by omega) (by omega)
  obtain ⟨h0, hh, hh2, hh3⟩ := and_mask64_nat y 8 255 (by omega) (by omega)
  obtain ⟨c0, hc, hc2, hc3⟩ := and_mask64_nat z 8 255 (by omega) (by omega)
  rw [show ((255 : Nat) : Int) = 255 from rfl] at hh hc
  rw [show ((3 : Nat) : Int) = 3 from rfl] at hn
  replace hn3 : x % 4 = (n0 : Int) := by rw [hn3]; rfl
  replace hh3 : y % 256 = (h0 : Int) := by rw [hh3]; rfl
  replace hc3 : z % 256 = (c0 : Int) := by rw [hc3]; rfl
  obtain ⟨n, hn1⟩ : ∃ n, n = 2 + n0 := ⟨_, rfl⟩
  have hsn : (2 : Int) + (n0 : Int) = (n : Int) := by omega
  have hwn : IntKind.i64.wrap ((n : Nat) : Int) = n := IntWalk.i64_in _ (by omega)
  have N1 : 1 ≤ n := by omega
  have N2 : n ≤ 8 := by omega
  obtain ⟨h, hhd⟩ : ∃ h, h = h0 % n := ⟨_, rfl⟩
  obtain ⟨c, hcd⟩ : ∃ c, c = c0 % n := ⟨_, rfl⟩
  have hhn : h < n := by rw [hhd]; exact Nat.mod_lt _ (by omega)
  have hcn : c < n := by rw [hcd]; exact Nat.mod_lt _ (by omega)
  have r1 : ((h0 : Int)).tmod (n : Int) = (h : Int) := by rw [Int.tmod_eq_emod_of_nonneg (by omega), hhd, Int.natCast_emod]
  have r2 : ((c0 : Int)).tmod (n : Int) = (c : Int) := by rw [Int.tmod_eq_emod_of_nonneg (by omega), hcd, Int.natCast_emod]
  have r3 : ((h0 : Int)) % (n : Int) = (h : Int) := by rw [hhd, Int.natCast_emod]
  have r4 : ((c0 : Int)) % (n : Int) = (c : Int) := by rw [hcd, Int.natCast_emod]
  have hn00 : ¬ n = 0 := by omega
  have hn01 : ¬ (n : Int) = 0 := by omega
  clear hn1 hhd hcd hh2 hc2 hn2
  go_enter Try.func6, Try.ntmps6
  go_wp2_with fail
  go_quiet (fail)
  obtain ⟨W1, hW1⟩ : ∃ W1, W1 = W.drewN nq := ⟨_, rfl⟩
  rw [← hW1]
  have F0 : Hid (Fr (fun _ => False) W W1) := hid (by rw [hW1]; exact (Fr.refl _ W).drewM nq)
  have HS0 : Hid (W1.heap.size = W.heap.size) := hid (by rw [hW1]; rfl)
  clear hW1
  have HN := g_new W1 n 10 N1 N2 (by omega) (by omega)
  rw [show ((10 : Nat) : Int) = 10 from rfl] at HN
  have HN := hid HN
  generalize W1.heap.size + 1 + 1 = cb at *
  have HA : Hid (∀ w, Hid (GS W1 cb 10 n emptyC w) → Calls Try.prog 9 #[.pointer (some ⟨cb, 0, none⟩), .int .i64 5, .int .i64 3, .int .i64 h] w fun e w' => e = .returned (.int .i64 0) ∧ Hid (GS W1 cb 10 n (mv1 h) w')) := hid (fun w g => by
    have := g_add g 5 3 h (by decide)
    rw [(mv_add hhn).1, (mv_add hhn).2] at this
    exact this)
  have HP : Hid (∀ w, Hid (GS W1 cb 10 n (mv1 h) w) → Calls Try.prog 12 #[.pointer (some ⟨cb, 0, none⟩), .int .i64 c] w fun e w' => e = .returned (.tuple #[.int .i64 5, .bool true, .int .i64 0]) ∧ Hid (GS W1 cb 10 n (mv2 h c) w')) := hid (fun w g => by
    have := g_pick g c
    rw [(mv_pick hhn hcn).1, (mv_pick hhn hcn).2] at this
    exact this)
  have HL : Hid (∀ w, Hid (GS W1 cb 10 n (mv2 h c) w) → Calls Try.prog 11 #[.pointer (some ⟨cb, 0, none⟩), .int .i64 5] w fun e w' => e = .returned (.tuple #[.agg #[.int .i64 2, .int .i64 c, .int .i64 3, .int .i64 0], .bool true]) ∧ Hid (GS W1 cb 10 n (mv2 h c) w') ∧ Hid (Fr (fun _ => False) w w')) := hid (fun w g => g_look g 5 (by decide))
  have HQ : Hid (∀ w, Hid (GS W1 cb 10 n (mv2 h c) w) → Calls Try.prog 20 #[.pointer (some ⟨cb, 0, none⟩), .int .i64 h] w fun e w' => ∃ ro cap, e = .returned (.slice ro 0 cap) ∧ Hid (GS W1 cb 10 n (mv2 h c) w')) := hid (fun w g => by
    have := g_queue g (h : Int)
    rw [mv_home] at this
    exact this.mono fun _ _ ⟨ro, cap, a, _, b, _⟩ => ⟨ro, cap, a, b⟩)
  have HI : Hid (∀ w i, i < n → i ≠ c → Hid (GS W1 cb 10 n (mv2 h c) w) → Calls Try.prog 12 #[.pointer (some ⟨cb, 0, none⟩), .int .i64 (i : Int)] w fun e w' => e = .returned (.tuple #[.int .i64 0, .bool false, .int .i64 0]) ∧ Hid (GS W1 cb 10 n (mv2 h c) w')) := hid (fun w i hi hne g => by
    have := g_pick g i
    rw [(mv_idle hi hne).1, (mv_idle hi hne).2] at this
    exact this)
  have HY : Hid (∀ w, Hid (GS W1 cb 10 n (mv2 h c) w) → Calls Try.prog 13 #[.pointer (some ⟨cb, 0, none⟩), .int .i64 c] w fun e w' => e = .returned (.tuple #[.int .i64 5, .int .i64 0]) ∧ Hid (GS W1 cb 10 n (mv3 h c) w')) := hid (fun w g => by
    have := g_yield g c
    rw [(mv_yield hcn).1, (mv_yield hcn).2] at this
    exact this)
  have HR : Hid (∀ w, Hid (GS W1 cb 10 n (mv3 h c) w) → Calls Try.prog 20 #[.pointer (some ⟨cb, 0, none⟩), .int .i64 c] w fun e w' => ∃ b cap, e = .returned (.slice (some ⟨b, 0, none⟩) 1 cap) ∧ w'.cell? ⟨b, 0, none⟩ = some (.int .i64 5) ∧ Hid (GS W1 cb 10 n (mv3 h c) w')) := hid (fun w g => by
    have := g_queue g (c : Int)
    rw [mv_core hcn] at this
    refine this.mono fun _ _ ⟨ro, cap, a, o, b, _⟩ => ?_
    obtain ⟨b', off, hb, hcell⟩ := RdI.of_owns o.out 0 5 rfl
    rcases o.out.2 with ⟨hv, h0⟩ | ⟨g', cap', cur, hv, _⟩
    · cases h0
    · simp only [Value.slice.injEq] at hv
      rw [hv.1] at hb
      obtain ⟨rfl, rfl⟩ : g' = b' ∧ 0 = off := by simpa using hb
      exact ⟨g', cap, by rw [a, hv.1]; rfl, hcell, b⟩)
  clear hn hh hc hn3 hh3 hc3 hsn hwn r1 r2 r3 r4 hn00 hn01
  go_wp2_with (first
    | (go_at_call 8; refine HN.out.mono ?_; rintro e w1 ⟨rfl, G1⟩)
    | (go_at_call 9; refine (HA.out _ G1).mono ?_; rintro e w2 ⟨rfl, G2⟩)
    | (go_at_call 12; refine (HP.out _ G2).mono ?_; rintro e w3 ⟨rfl, G3⟩)
    | (go_at_call 11; refine (HL.out _ G3).mono ?_; rintro e w4 ⟨rfl, G4, F4⟩; have G5 := gs_still G4 ((Fr.refl _ w4).alloc (.cells #[.int .i64 2, .int .i64 c, .int .i64 3, .int .i64 0] 29)))
    | (go_at_call 20; refine (HQ.out _ G5).mono ?_; rintro e w6 ⟨ro, cap, rfl, G6⟩)
    | fail)
  clear HN HA HP HL HQ G1 G2 G3 G4 G5 F4
  go_loopg [13] n (fun gg vi wr => MvI W1 cb n h c gg vi wr)
  case atStart => exact ⟨0, Nat.zero_le _, rfl, rfl, G6⟩
  case round =>
    as_aux_lemma =>
      obtain ⟨i, hi, rfl, rfl, G⟩ := hrel
      clear G6
      by_cases hlt : i < n
      · have hil : ((i : Int) < (n : Int)) := by omega
        by_cases hic : i = c
        · have hne : ((i : Int) != (c : Int)) = false := by simp [hic]
          have hic := hid hic
          go_wp2_with fail
          go_roundg (n - (i + 1))
          case measure => omega
          case rel => exact ⟨i + 1, by omega, rfl, by go_num, G⟩
        · have hne : ((i : Int) != (c : Int)) = true := by simp; omega
          have hic := hid hic
          go_wp2_with (first
            | (go_at_call 12; refine (HI.out _ i hlt hic.out G).mono ?_; rintro e w7 ⟨rfl, G7⟩)
            | fail)
          go_roundg (n - (i + 1))
          case measure => omega
          case rel => exact ⟨i + 1, by omega, rfl, by go_num, G7⟩
      · have hin : ¬ ((i : Int) < (n : Int)) := by omega
        go_wp2_with (first
          | (go_at_call 13; refine (HY.out _ G).mono ?_; rintro e w8 ⟨rfl, G8⟩)
          | (go_at_call 20; refine (HR.out _ G8).mono ?_; rintro e w9 ⟨b, cap, rfl, kc, G9⟩)
          | fail)
        go_ret
        refine ⟨rfl, (F0.out.then G9.out.fr (fun i hi h => absurd h (by rw [HS0.out]; omega))).below (Nat.le_refl _) (fun _ _ h => h)⟩
end Go.Proofs.Ytehjekcfhmmggaa

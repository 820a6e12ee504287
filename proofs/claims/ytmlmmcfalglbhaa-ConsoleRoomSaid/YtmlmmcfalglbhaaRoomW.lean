/-
  ConsoleRoom, walked. No conditions.
-/
import Derived.Test.YtmlmmcfalglbhaaLaw0
namespace Go.Proofs.Ytmlmmcfalglbhaa
open Go.RowKit

theorem zeros_bv (n : Nat) : (madeCells (Value.int .u8 0).cells n).toList = bv (List.replicate n 0) := by
  apply List.ext_getElem
  · simp [madeCells, bv]
  · intro i h1 h2
    simp [madeCells, bv, Value.cells, Nat.mod_one]

theorem made_src {w : World} {base g n : Nat} (h : w.ownsRow base 5 1 (.slice (some ⟨g, 0, none⟩) n n) n (madeCells (Value.int .u8 0).cells (n * 1)).toList) : Src w (some ⟨g, 0, none⟩) (List.replicate n 0) := by
  refine ⟨(fun e => by cases e), fun ad had j u hu => ?_⟩
  obtain rfl := Option.some.inj had
  rw [Nat.mul_one, zeros_bv] at h
  exact h.cells (g := g) rfl j u hu

/-- The three states of the console. -/
structure RoomSt (z y : List UInt8) (N K T R : Nat) where
  s1 : Con
  s2 : Con
  s3 : Con
  t1 : con0.taken z = T
  e1 : con0.input z = s1
  r2 : s1.reads (K : Int) = R
  e2 : s1.rest (K : Int) = s2
  t3 : s2.taken y = 4096 - T + R
  e3 : s2.input y = s3
  c3 : s3.counts = .agg #[.int .i64 (T + (4096 - T + R)), .int .i64 ((N - T) + (5000 - (4096 - T + R))), .int .i64 R, .int .i64 0]

theorem in_waits (s : Con) (b : List UInt8) : (s.input b).waits = s.waits ++ b.take (s.taken b) := rfl
theorem in_came (s : Con) (b : List UInt8) : (s.input b).came = wrap64 (s.came + (s.taken b : Nat)) := rfl
theorem in_dropped (s : Con) (b : List UInt8) : (s.input b).dropped = wrap64 (s.dropped + ((b.length : Int) - (s.taken b : Nat))) := rfl
theorem in_read (s : Con) (b : List UInt8) : (s.input b).read = s.read := rfl
theorem in_written (s : Con) (b : List UInt8) : (s.input b).written = s.written := rfl
theorem in_out (s : Con) (b : List UInt8) : (s.input b).out = s.out := rfl
theorem re_waits (s : Con) (n : Int) : (s.rest n).waits = s.waits.drop (s.reads n) := rfl
theorem re_came (s : Con) (n : Int) : (s.rest n).came = s.came := rfl
theorem re_dropped (s : Con) (n : Int) : (s.rest n).dropped = s.dropped := rfl
theorem re_read (s : Con) (n : Int) : (s.rest n).read = if n < 1 then s.read else wrap64 (s.read + (s.reads n : Nat)) := rfl
theorem re_written (s : Con) (n : Int) : (s.rest n).written = s.written := rfl
theorem re_out (s : Con) (n : Int) : (s.rest n).out = s.out := rfl
theorem small (x : Int) (h0 : -1000000 ≤ x) (h1 : x ≤ 1000000) : wrap64 x = x := IntWalk.wrap64_in _ (by omega)

theorem roomSt (z y : List UInt8) (N K T R : Nat) (lz : z.length = N) (ly : y.length = 5000) (hN : N ≤ 8191) (hT : T = min N 4096) (hR : R = min K T) : ∃ _ : RoomSt z y N K T R, True := by
  have hT1 : T ≤ 4096 := by omega
  have hT2 : T ≤ N := by omega
  have hR1 : R ≤ T := by omega
  have t1 : con0.taken z = T := by simp [Con.taken, con0, lz, hT]
  obtain ⟨s1, e1⟩ : ∃ s1, s1 = con0.input z := ⟨_, rfl⟩
  have l1 : s1.waits.length = T := by
    rw [e1, in_waits, t1, List.length_append, List.length_take, lz]; simp [con0]; omega
  have r2 : s1.reads (K : Int) = R := by
    unfold Con.reads; rw [l1]; split <;> omega
  obtain ⟨s2, e2⟩ : ∃ s2, s2 = s1.rest (K : Int) := ⟨_, rfl⟩
  have l2 : s2.waits.length = T - R := by rw [e2, re_waits, List.length_drop, r2, l1]
  have t3 : s2.taken y = 4096 - T + R := by
    unfold Con.taken; rw [l2, ly]; omega
  have hr : s2.read = R := by
    rw [e2, re_read, r2, e1, in_read]
    show (if (K : Int) < 1 then (0 : Int) else wrap64 (0 + (R : Int))) = R
    split
    · omega
    · rw [small _ (by omega) (by omega)]; omega
  have c1 : (s2.input y).came = T + (4096 - T + R) := by
    have h1 : s1.came = T := by
      rw [e1, in_came, t1]
      show wrap64 (0 + (T : Int)) = T
      rw [small _ (by omega) (by omega)]; omega
    rw [in_came, t3, e2, re_came, h1, small _ (by omega) (by omega)]; omega
  have c2 : (s2.input y).dropped = (N - T) + (5000 - (4096 - T + R)) := by
    have h1 : s1.dropped = (N : Int) - T := by
      rw [e1, in_dropped, t1, lz]
      show wrap64 (0 + ((N : Int) - T)) = _
      rw [small _ (by omega) (by omega)]; omega
    rw [in_dropped, t3, e2, re_dropped, h1, ly, small _ (by omega) (by omega)]; omega
  refine ⟨⟨s1, s2, s2.input y, t1, e1.symm, r2, e2.symm, t3, rfl, ?_⟩, trivial⟩
  unfold Con.counts
  rw [c1, c2, in_read, hr, in_written, e2, re_written, e1, in_written]
  rfl

set_option maxHeartbeats 4000000 in
set_option maxRecDepth 100000 in
theorem room_walk (n k : Int) (w : World) :
    Calls Try.prog 4 #[.int .i64 n, .int .i64 k] w fun e w' => e = .returned (.bool true) ∧ Below w.heap.size w w' := by
  obtain ⟨i0, hi, hz0, hz1, hz2⟩ := info_parts Try.info5
  obtain ⟨N, hbN, hN, hmN⟩ := and_mask64_nat n 13 8191 (by omega) (by decide)
  obtain ⟨K, hbK, hK, hmK⟩ := and_mask64_nat k 13 8191 (by omega) (by decide)
  obtain ⟨z, hz⟩ : ∃ z : List UInt8, z = List.replicate N 0 := ⟨_, rfl⟩
  obtain ⟨y, hy⟩ : ∃ y : List UInt8, y = List.replicate 5000 0 := ⟨_, rfl⟩
  have lz : z.length = N := by rw [hz, List.length_replicate]
  have ly : y.length = 5000 := by rw [hy, List.length_replicate]
  have HZ := hid hz
  have HY := hid hy
  have Lz := hid lz
  have Ly := hid ly
  clear hmN hmK hz hy
  rw [show ((8191 : Nat) : Int) = 8191 from rfl] at hbN hbK
  have main : ∀ T R : Nat, RoomSt z y N K T R → (N ≤ 4096 ∧ N = T ∨ 4096 < N ∧ 4096 = T) → (K ≤ T ∧ K = R ∨ T < K ∧ T = R) →
      Calls Try.prog 4 #[.int .i64 n, .int .i64 k] w fun e w' => e = .returned (.bool true) ∧ Below w.heap.size w w' := by
    clear lz ly
    intro T R st hT hR
    obtain ⟨s1, s2, s3, t1, e1, r2, e2, t3, e3, c3⟩ := st
    have T1 := hid t1
    have E1 := hid e1
    have R2 := hid r2
    have E2 := hid e2
    have T3 := hid t3
    have E3 := hid e3
    have Cn := hid c3
    clear t1 e1 r2 e2 t3 e3 c3
    rcases hT with ⟨hT, hT'⟩ | ⟨hT, hT'⟩ <;> rcases hR with ⟨hR, hR'⟩ | ⟨hR, hR'⟩ <;> subst hT' <;> subst hR'
    all_goals
      go_enter Try.func4, Try.ntmps4
      go_wp2_with (first
        | (go_at_call 7; refine (new_any _).mono ?_; rintro e w' ⟨rfl, rfl⟩; have C0 := hid (CON_new w (fun k => w.heap.size ≤ k) (fun k hk => hk)))
        | (at_make; refine wpList_make_full _ rfl (.tmp 21) (.tmp 21) 29 rfl 0 5 i0 (.int .u8 0) 1 Try.underlying29 hi hz0 hz1 .i64 .i64 _ _ N (by simp [Act.eval]) (by simp [Act.eval]) rfl rfl (by rw [hz2]; omega) (by unfold maxLen; omega) (Nat.zero_le _) ?_; intro w2 hown2 hgr2; have S2 := made_src hown2; rw [← HZ.out] at S2; simp only [World.size_alloc] at S2; replace S2 := hid S2; have F2 := hid ((((Fr.refl (fun k => w.heap.size ≤ k) w).alloc _).grown hgr2 (by simp))); have C2 := hid (C0.out.kept (T := fun _ => False) ((Fr.refl _ _).grown hgr2 (by simp)) (fun _ _ _ h => h)); clear hown2 hgr2)
        | fail)
    all_goals
      refine (c_input w2 w.heap.size (fun k => w.heap.size ≤ k) con0 C2.out (fun k hk => Nat.le_trans F2.out.size hk) _ N N z S2.out Lz.out (Nat.le_refl _) (by omega)).mono ?_
      rintro e w3 ⟨rfl, C3, F3⟩
      rw [T1.out]
      rw [E1.out] at C3
      have F3' := hid (F2.out.trans F3.out)
      go_wp2_with fail
      refine (c_read w3 w.heap.size (fun k => w.heap.size ≤ k) s1 C3.out (fun k hk => Nat.le_trans F3'.out.size hk) K).mono ?_
      rintro e w4 ⟨ro, cap4, rfl, S4, h4, h4', C4, F4⟩
      rw [R2.out] at h4 ⊢
      rw [E2.out] at C4
      have F4' := hid (F3'.out.trans F4.out)
      go_wp2_with (first
        | (at_make; refine wpList_make_full _ rfl _ _ 29 rfl 0 5 i0 (.int .u8 0) 1 Try.underlying29 hi hz0 hz1 .i64 .i64 _ _ 5000 rfl rfl rfl rfl (by rw [hz2]; omega) (by unfold maxLen; omega) (Nat.zero_le _) ?_; intro w5 hown5 hgr5; have S5 := made_src hown5; rw [← HY.out] at S5; replace S5 := hid S5; have F5 := hid (F4'.out.grown hgr5 (by simp)); have C5 := hid (C4.out.kept (T := fun _ => False) ((Fr.refl _ _).grown hgr5 (by simp)) (fun _ _ _ h => h)); clear hown5 hgr5)
        | fail)
    all_goals
      refine (c_input w5 w.heap.size (fun k => w.heap.size ≤ k) s2 C5.out (fun k hk => Nat.le_trans F5.out.size hk) _ 5000 5000 y S5.out Ly.out (Nat.le_refl _) (by omega)).mono ?_
      rintro e w6 ⟨rfl, C6, F6⟩
      rw [T3.out]
      rw [E3.out] at C6
      have F6' := hid (F5.out.trans F6.out)
      go_wp2_with fail
    all_goals
      refine (c_counts w6 w.heap.size (fun k => w.heap.size ≤ k) s3 C6.out).mono ?_
      rintro e w7 ⟨rfl, C7, F7⟩
      rw [Cn.out]
      have F7' := hid (F6'.out.then F7.out (fun _ _ h => h.elim))
      go_wp2_with fail
    all_goals
      go_ret
      exact ⟨rfl, (F7'.out.alloc _).below (Nat.le_refl _) (fun k hk h => Nat.not_le_of_lt hk h)⟩
  obtain ⟨st, _⟩ := roomSt z y N K (min N 4096) (min K (min N 4096)) lz ly hN rfl rfl
  exact main _ _ st (by omega) (by omega)
end Go.Proofs.Ytmlmmcfalglbhaa

/-
  CachePlays, walked. No conditions.
-/
import Derived.Test.YtelbbfogeimekaaPlay0
import Derived.Deep.CutBlock
import Derived.Deep.LoopGhost
import Derived.Deep.RegionHeld3
namespace Go.Proofs.Ytelbbfogeimekaa
open Go.RowKit

def actCells (x : Act5) : Array Value := #[.int .i64 x.kind, .int .i64 x.group, .int .u64 x.key, .int .u64 x.asked, .int .i64 x.value]

theorem Two.locs {W : World} {cb rb kb room : Nat} {x : Act5} {w : World} {s t : List (Ent Int Int)} (h : Two W cb rb kb room (actCells x) w s t) :
    w.cell? ⟨kb, 0, none⟩ = some (.int .i64 x.kind) ∧ w.cell? ⟨kb, 1, none⟩ = some (.int .i64 x.group) ∧ w.cell? ⟨kb, 2, none⟩ = some (.int .u64 x.key) ∧ w.cell? ⟨kb, 3, none⟩ = some (.int .u64 x.asked) ∧ w.cell? ⟨kb, 4, none⟩ = some (.int .i64 x.value) :=
  ⟨(cell_at h.loc).trans rfl, (cell_at h.loc).trans rfl, (cell_at h.loc).trans rfl, (cell_at h.loc).trans rfl, (cell_at h.loc).trans rfl⟩

def PlayI (W : World) (rb room pl g : Nat) (vi : Value) (wr : World) : Prop :=
  ∃ (i : Nat) (st : List (Ent Int Int)), i ≤ pl ∧ g = pl - i ∧ vi = .int .i64 i ∧ Pair W (W.heap.size + 1) rb room wr st

set_option maxHeartbeats 1000000 in
theorem names_ok (w : World) : Calls Try.prog 14 #[] w fun e w' => e = .returned (.bool true) ∧ w = w' := by
  go_enter Try.func14, Try.ntmps14
  go_wp2
  go_ret
  exact ⟨rfl, rfl⟩

set_option maxHeartbeats 4000000 in
set_option maxRecDepth 100000 in
theorem play_walk (room : Int) (po : Option Addr) (pl pc : Nat) (ac : Nat → Act5) (W : World) (hA : Acts W po pl pc ac) :
    Calls Try.prog 4 #[.int .i64 room, .slice po pl pc] W fun e w' => e = .returned (.bool true) ∧ Below W.heap.size W w' := by
  have HA := hid hA
  have p1 := hA.1
  have p2 := hA.2.1
  clear hA
  by_cases hc : ¬ (1 ≤ room ∧ room ≤ 1024)
  · have H1 := hid (new_badA W room hc)
    have H2 := hid (newref_bad W room hc)
    clear hc
    go_enter Try.func4, Try.ntmps4
    go_wp2_with (first
      | (go_at_call 12; refine H1.out.mono ?_; rintro e w' ⟨rfl, rfl⟩)
      | (go_at_call 13; refine H2.out.mono ?_; rintro e w' ⟨rfl, rfl⟩)
      | (go_at_call 14; refine (names_ok _).mono ?_; rintro e w' ⟨rfl, rfl⟩)
      | fail)
    go_loopw [9] (fun vi wr => vi = .int .i64 0 ∧ wr = W) (fun _ _ => 0)
    case atStart => exact ⟨rfl, rfl⟩
    case round =>
      as_aux_lemma =>
        obtain ⟨rfl, rfl⟩ := hrel
        by_cases h0 : (0 : Int) < pl
        · go_wp2
          go_ret
          exact ⟨rfl, Below.refl _ _⟩
        · go_wp2
          go_ret
          exact ⟨rfl, Below.refl _ _⟩
  · obtain ⟨n, rfl⟩ : ∃ n : Nat, room = n := ⟨room.toNat, by omega⟩
    have hn1 : 1 ≤ n := by omega
    have hn8 : n ≤ 1024 := by omega
    clear hc
    have H1 := hid (new_okA (fun k => W.heap.size ≤ k) W n hn1 hn8 (fun _ h => h))
    go_enter Try.func4, Try.ntmps4
    go_wp2_with (first
      | (go_at_call 12; refine H1.out.mono ?_; rintro e w0 ⟨rfl, L0, F0⟩)
      | (go_at_call 13; refine (newref_ok (fun k => w0.heap.size ≤ k) w0 n hn1 hn8 (fun _ h => h)).mono ?_; rintro e w1 ⟨rfl, R1, F1⟩)
      | (go_at_call 14; refine (names_ok _).mono ?_; rintro e w' ⟨rfl, rfl⟩)
      | fail)
    have hst : Hid (PlayI W w0.heap.size n pl pl (.int .i64 0) w1) := ⟨0, [], Nat.zero_le _, rfl, rfl, Pair.new hn1 hn8 L0.out F0.out R1.out F1.out⟩
    clear L0 R1 F1 F0 H1
    go_loopg [9] pl (fun g vi wr => PlayI W w0.heap.size n pl g vi wr)
    case atStart => exact hst.out
    case round =>
      as_aux_lemma =>
        obtain ⟨i, st, hi, rfl, rfl, hP⟩ := hrel
        by_cases hlt : i < pl
        · obtain ⟨b, off, hpo, k0, k1, k2, k3, k4, y1, y2, y3⟩ := HA.out.2.2 i hlt
          subst hpo
          obtain ⟨x, hx⟩ : ∃ x, x = ac i := ⟨_, rfl⟩
          rw [← hx] at k0 k1 k2 k3 k4 y1 y2 y3
          have Y1 := hid y1
          have Y2 := hid y2
          have Y3 := hid y3
          clear hx y1 y2 y3
          have old : ∀ {p : Addr} {u : Value}, W.cell? p = some u → wr.cell? p = some u := fun {p u} hc => (hP.2.1.cell (block_lt_of_cell hc) (Nat.not_le_of_lt (block_lt_of_cell hc))).trans hc
          replace k0 := old k0
          replace k1 := old k1
          replace k2 := old k2
          replace k3 := old k3
          replace k4 := old k4
          have T0 : Hid (Two W (W.heap.size + 1) w0.heap.size wr.heap.size n (actCells x) (wr.alloc (.cells #[.int .i64 x.kind, .int .i64 x.group, .int .u64 x.key, .int .u64 x.asked, .int .i64 x.value] 24)) st st) := hP.start _
          clear hP hst HA old
          go_upto_block 2 with fail
          generalize (wr.alloc (.cells #[.int .i64 x.kind, .int .i64 x.group, .int .u64 x.key, .int .u64 x.asked, .int .i64 x.value] 24)) = wa at T0 ⊢
          generalize wr.heap.size = lb at *
          go_cut [] from 53 to 135 (fun wx => ∃ s, Two W (W.heap.size + 1) w0.heap.size lb n (actCells x) wx s s)
          case first =>
            as_aux_lemma =>
              obtain ⟨l0, l1, l2, l3, l4⟩ := T0.out.locs
              have T0d : Hid (Two W (W.heap.size + 1) w0.heap.size lb n (actCells x) wa.drew st st) := T0.out.still (Fr.drew (Fr.refl _ _))
              go_wp2_with (first
                | (go_at_call 8; refine (t_put W _ _ _ _ _ _ _ _ T0 x.group x.key x.value Y1.out Y2.out).mono ?_; rintro e w2 ⟨rfl, T2⟩; obtain ⟨m0, m1, m2, m3, m4⟩ := T2.out.locs)
                | (go_at_call 15; refine (u_put W _ _ _ _ _ _ _ _ T2 x.group x.key x.value).mono ?_; rintro e w3 ⟨rfl, T3⟩)
                | fail)
              · as_aux_lemma =>
                  go_meet
                  exact ⟨_, T3.out⟩
              · as_aux_lemma =>
                  go_region_held3 (fun w' => w'.cell? ⟨lb, 1, none⟩ = some (.int .i64 x.group) ∧ w'.cell? ⟨lb, 2, none⟩ = some (.int .u64 x.key)) (first | exact ⟨m1, m2⟩ | exact ⟨l1, l2⟩) (first
                    | (go_at_call 9; refine (t_drop W _ _ _ _ _ _ _ _ (by assumption) x.group x.key Y1.out Y2.out).mono ?_; rintro e w2 ⟨rfl, T2⟩; obtain ⟨m0, m1, m2, m3, m4⟩ := T2.out.locs)
                    | (go_at_call 16; refine (u_drop W _ _ _ _ _ _ _ _ (by assumption) x.group x.key).mono ?_; rintro e w2 ⟨rfl, T2⟩; obtain ⟨m0, m1, m2, m3, m4⟩ := T2.out.locs))
                  all_goals go_wp2_with fail
                  all_goals go_meet
                  all_goals exact ⟨_, T2.out⟩
              · as_aux_lemma =>
                  go_region_held3 (fun w' => w'.cell? ⟨lb, 1, none⟩ = some (.int .i64 x.group)) (first | exact m1 | exact l1) (first
                    | (go_at_call 10; refine (t_dropg W _ _ _ _ _ _ _ _ (by assumption) x.group Y1.out).mono ?_; rintro e w2 ⟨rfl, T2⟩; obtain ⟨m0, m1, m2, m3, m4⟩ := T2.out.locs)
                    | (go_at_call 17; refine (u_dropg W _ _ _ _ _ _ _ _ (by assumption) x.group).mono ?_; rintro e w2 ⟨rfl, T2⟩; obtain ⟨m0, m1, m2, m3, m4⟩ := T2.out.locs))
                  all_goals go_wp2_with fail
                  all_goals go_meet
                  all_goals exact ⟨_, T2.out⟩
              · as_aux_lemma =>
                  go_meet
                  exact ⟨_, T0.out⟩
          case rest =>
            as_aux_lemma =>
              obtain ⟨s, hT⟩ := hcut
              have T := hid hT
              obtain ⟨l0, l1, l2, l3, l4⟩ := hT.locs
              clear hT T0
              have A1 := hid (t_get W _ _ _ _ _ _ _ _ T x.group x.asked Y1.out Y3.out)
              go_wp2_with (first
                | (go_at_call 7; refine A1.out.mono ?_; rintro e w2 ⟨rfl, T2⟩; obtain ⟨m0, m1, m2, m3, m4⟩ := T2.out.locs; obtain ⟨so, sc, m5⟩ := u_loc W _ _ _ _ _ _ _ _ T2)
                | (go_at_call 18; refine (u_get W _ _ _ _ _ _ _ _ T2 x.group x.asked).mono ?_; rintro e w3 ⟨rfl, rfl⟩)
                | fail)
              have A3 : Hid (∀ m, Calls Try.prog 11 #[.pointer (some ⟨W.heap.size + 1, 0, none⟩)] (w2.drewN m) fun e w' => e = .returned (.int .i64 s.length) ∧ w' = w2.drewN m) := hid (fun m => (t_len W _ _ _ _ _ (w2.drewN m) _ _ (hid (T2.out.still (w' := w2.drewN m) ⟨rfl, rfl, rfl, Nat.le_refl _, fun _ _ _ => rfl⟩))).mono fun _ _ h => ⟨h.1, h.2.symm⟩)
              have T4 := hid (fun m => (T2.out.still (w' := w2.drewN m) ⟨rfl, rfl, rfl, Nat.le_refl _, fun _ _ _ => rfl⟩).round)
              clear T2 T A1
              go_quiet ((go_at_call 11; exact Calls.quiet_of_same (A3.out _)))
              go_wp2_with fail
              go_roundg (pl - (i + 1))
              case measure => omega
              case rel => exact ⟨i + 1, s, by omega, rfl, by go_num, T4.out nq⟩
        · have hb := hid (hP.2.1.below (Nat.le_refl _) (fun k hk h => Nat.not_le_of_lt hk h))
          clear hP hst HA
          go_wp2
          go_ret
          exact ⟨rfl, hb.out⟩
end Go.Proofs.Ytelbbfogeimekaa

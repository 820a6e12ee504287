/-
  does: a call on both. No conditions.
-/
import Derived.Test.YtehjekcfhmmggaaPlay0
import Derived.Deep.RegionHeld3
namespace Go.Proofs.Ytehjekcfhmmggaa
open Go.RowKit

set_option maxHeartbeats 4000000 in
set_option maxRecDepth 100000 in
theorem does_c (W : World) (cb rb per n : Nat) (w : World) (s : CS) (x : Act5) (h : Pair W cb rb per n w s) (hw : (Lit.int .i64 x.id).wf = true) :
    Calls Try.prog 23 #[.pointer (some ⟨cb, 0, none⟩), .pointer (some ⟨rb, 0, none⟩), .agg (actCells x)] w fun e w' => e = .returned (.bool true) ∧ ∃ s', Hid (Pair W cb rb per n w' s') := by
  have T0 := hid (h.start (actCells x))
  have Y1 := hid hw
  clear h hw
  unfold actCells at T0 ⊢
  go_enter Try.func23, Try.ntmps23
  go_upto_region 1 with fail
  generalize (w.alloc (.cells #[.int .i64 x.kind, .int .i64 x.id, .int .i64 x.weight, .int .i64 x.core, .int .i64 x.n] 34)) = wa at T0 ⊢
  generalize w.heap.size = lb at *
  obtain ⟨l0, l1, l2, l3, l4⟩ := T0.out.locs
  have T0d : Hid (Two W cb rb lb per n (actCells x) wa.drew s s) := T0.out.still (Fr.drew (Fr.refl _ _))
  go_wp2_with (first
    | (go_at_call 12; refine (t_pick W _ _ _ _ _ _ _ _ _ T0 x.core).mono ?_; rintro e w2 ⟨rfl, T2⟩; obtain ⟨m0, m1, m2, m3, m4⟩ := T2.out.locs)
    | (go_at_call 41; refine (u_pick W _ _ _ _ _ _ _ _ _ T2 x.core).mono ?_; rintro e w3 ⟨rfl, T3⟩)
    | (go_at_call 13; refine (t_yield W _ _ _ _ _ _ _ _ _ T0 x.core).mono ?_; rintro e w2 ⟨rfl, T2⟩; obtain ⟨m0, m1, m2, m3, m4⟩ := T2.out.locs)
    | (go_at_call 43; refine (u_yield W _ _ _ _ _ _ _ _ _ T2 x.core).mono ?_; rintro e w3 ⟨rfl, T3⟩)
    | (go_at_call 44; refine (u_refill W _ _ _ _ _ _ _ _ _ T0).mono ?_; rintro e w2 ⟨rfl, T2⟩)
    | (go_at_call 10; refine (t_refill W _ _ _ _ _ _ _ _ _ T2).mono ?_; rintro e w3 ⟨rfl, T3⟩)
    | fail)
  · as_aux_lemma =>
      go_region_held3 (fun w' => w'.cell? ⟨lb, 1, none⟩ = some (.int .i64 x.id) ∧ w'.cell? ⟨lb, 2, none⟩ = some (.int .i64 x.weight) ∧ w'.cell? ⟨lb, 3, none⟩ = some (.int .i64 x.core)) (first | exact ⟨m1, m2, m3⟩ | exact ⟨l1, l2, l3⟩) (first
        | (go_at_call 9; refine (t_add W _ _ _ _ _ _ _ _ _ (by assumption) x.id x.weight x.core Y1.out).mono ?_; rintro e w2 ⟨rfl, T2⟩; obtain ⟨m0, m1, m2, m3, m4⟩ := T2.out.locs)
        | (go_at_call 37; refine (u_add W _ _ _ _ _ _ _ _ _ (by assumption) x.id x.weight x.core Y1.out).mono ?_; rintro e w2 ⟨rfl, T2⟩; obtain ⟨m0, m1, m2, m3, m4⟩ := T2.out.locs))
      all_goals go_wp2_with fail
      all_goals go_ret
      all_goals exact ⟨by simp, _, T2.out.round⟩
  · as_aux_lemma =>
      go_region_held3 (fun w' => w'.cell? ⟨lb, 1, none⟩ = some (.int .i64 x.id)) (first | exact m1 | exact l1) (first
        | (go_at_call 15; refine (t_remove W _ _ _ _ _ _ _ _ _ (by assumption) x.id Y1.out).mono ?_; rintro e w2 ⟨rfl, T2⟩; obtain ⟨m0, m1, m2, m3, m4⟩ := T2.out.locs)
        | (go_at_call 38; refine (u_remove W _ _ _ _ _ _ _ _ _ (by assumption) x.id).mono ?_; rintro e w2 ⟨rfl, T2⟩; obtain ⟨m0, m1, m2, m3, m4⟩ := T2.out.locs))
      all_goals go_wp2_with fail
      all_goals go_ret
      all_goals exact ⟨by simp, _, T2.out.round⟩
  · as_aux_lemma =>
      go_region_held3 (fun w' => w'.cell? ⟨lb, 1, none⟩ = some (.int .i64 x.id)) (first | exact m1 | exact l1) (first
        | (go_at_call 16; refine (t_wake W _ _ _ _ _ _ _ _ _ (by assumption) x.id Y1.out).mono ?_; rintro e w2 ⟨rfl, T2⟩; obtain ⟨m0, m1, m2, m3, m4⟩ := T2.out.locs)
        | (go_at_call 39; refine (u_wake W _ _ _ _ _ _ _ _ _ (by assumption) x.id).mono ?_; rintro e w2 ⟨rfl, T2⟩; obtain ⟨m0, m1, m2, m3, m4⟩ := T2.out.locs))
      all_goals go_wp2_with fail
      all_goals go_ret
      all_goals exact ⟨by simp, _, T2.out.round⟩
  · as_aux_lemma =>
      go_region_held3 (fun w' => w'.cell? ⟨lb, 1, none⟩ = some (.int .i64 x.id)) (first | exact m1 | exact l1) (first
        | (go_at_call 17; refine (t_block W _ _ _ _ _ _ _ _ _ (by assumption) x.id Y1.out).mono ?_; rintro e w2 ⟨rfl, T2⟩; obtain ⟨m0, m1, m2, m3, m4⟩ := T2.out.locs)
        | (go_at_call 40; refine (u_block W _ _ _ _ _ _ _ _ _ (by assumption) x.id).mono ?_; rintro e w2 ⟨rfl, T2⟩; obtain ⟨m0, m1, m2, m3, m4⟩ := T2.out.locs))
      all_goals go_wp2_with fail
      all_goals go_ret
      all_goals exact ⟨by simp, _, T2.out.round⟩
  · as_aux_lemma =>
      go_ret
      exact ⟨rfl, _, T3.out.round⟩
  · as_aux_lemma =>
      go_region_held3 (fun w' => w'.cell? ⟨lb, 3, none⟩ = some (.int .i64 x.core) ∧ w'.cell? ⟨lb, 4, none⟩ = some (.int .i64 x.n)) (first | exact ⟨m3, m4⟩ | exact ⟨l3, l4⟩) (first
        | (go_at_call 18; refine (t_charge W _ _ _ _ _ _ _ _ _ (by assumption) x.core x.n).mono ?_; rintro e w2 ⟨rfl, T2⟩; obtain ⟨m0, m1, m2, m3, m4⟩ := T2.out.locs)
        | (go_at_call 42; refine (u_charge W _ _ _ _ _ _ _ _ _ (by assumption) x.core x.n).mono ?_; rintro e w2 ⟨rfl, T2⟩; obtain ⟨m0, m1, m2, m3, m4⟩ := T2.out.locs))
      all_goals go_wp2_with fail
      all_goals go_ret
      all_goals exact ⟨by simp, _, T2.out.round⟩
  · as_aux_lemma =>
      go_ret
      exact ⟨rfl, _, T3.out.round⟩
  · as_aux_lemma =>
      go_ret
      exact ⟨rfl, _, T3.out.round⟩
  · as_aux_lemma =>
      go_ret
      exact ⟨rfl, _, T0.out.round⟩
end Go.Proofs.Ytehjekcfhmmggaa

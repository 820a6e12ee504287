/-
  A scheduler's search over its queues, from a core on and round. No conditions.
-/
import Derived.Test.YtehjekcfhmmggaaCre5
import Derived.IntWalk
namespace Go.Proofs.Ytehjekcfhmmggaa
open Go.RowKit

/-- The first one wanted, in the queues from core k on and round. -/
def seek (s : CS) (n k : Nat) (p : Int → Bool) (i : Nat) : Option Int := (List.range' i (n - i)).findSome? fun i => (s.Q ((k + i) % n)).find? p
def firstQ (s : CS) (n k : Nat) (p : Int → Bool) : Option Int := seek s n k p 0

theorem seek_step {s : CS} {n k : Nat} {p : Int → Bool} {i : Nat} (h : i < n) : seek s n k p i = ((s.Q ((k + i) % n)).find? p).or (seek s n k p (i + 1)) := by
  unfold seek
  obtain ⟨d, hd⟩ : ∃ d, n - i = d + 1 := ⟨n - i - 1, by omega⟩
  rw [hd, List.range'_succ, List.findSome?_cons, show n - (i + 1) = d by omega]
  cases (s.Q ((k + i) % n)).find? p <;> rfl
theorem seek_end {s : CS} {n k : Nat} {p : Int → Bool} : seek s n k p n = none := by simp [seek]

theorem idxI_find {p : Int → Bool} {q : List Int} : (q.find? p = none ∧ idxI p q = -1) ∨ ∃ j x, q.find? p = some x ∧ idxI p q = (j : Nat) ∧ q[j]? = some x := by
  cases hf : q.find? p with
  | none =>
    refine .inl ⟨rfl, ?_⟩
    unfold idxI
    rw [if_neg]
    rw [List.any_eq_true]
    rintro ⟨x, hx, hp⟩
    exact List.find?_eq_none.1 hf x hx hp
  | some x =>
    have hany : q.any p = true := List.any_eq_true.2 ⟨x, List.mem_of_find?_eq_some hf, List.find?_some hf⟩
    refine .inr ⟨q.findIdx p, x, rfl, by unfold idxI; rw [if_pos hany], ?_⟩
    rw [List.find?_eq_some_iff_getElem] at hf
    obtain ⟨hp, i, hi, hx, hb⟩ := hf
    have : q.findIdx p = i := by
      rw [List.findIdx_eq hi]
      exact ⟨by rw [hx]; exact hp, fun j hj => by simpa using hb j hj⟩
    rw [this, List.getElem?_eq_getElem hi, hx]

set_option maxHeartbeats 2000000 in
set_option maxRecDepth 100000 in
theorem first_c (S : Nat → Prop) (w : World) (cb : Nat) (l : Lay) (per n : Nat) (s : CS) (h : CAt S w cb l per n s) (hn : n ≤ 8) (k : Nat) (hk : k < n) (g : Nat) (pre lb : Array Value) (p : Int → Bool) (eg : ∀ args w, (callFunc g args).run Try.prog w = .ok (.enter g args) w)
    (hp : ∀ m i, i < n → FnAt (w.drewN m) g pre lb p (s.Q i)) :
    Calls Try.prog 30 #[.pointer (some ⟨cb, 0, none⟩), .int .i64 (k : Int), .func (.func g) pre lb] w fun e w' => e = .returned (.tuple #[.int .i64 ((firstQ s n k p).getD 0), .bool (firstQ s n k p).isSome]) ∧ ∃ m, w' = w.drewN m := by
  obtain ⟨c0, c1, c2, c3, _⟩ := h.c
  have H := hid h
  have HP := hid hp
  have EG := hid eg
  obtain ⟨R, hR0⟩ : ∃ R, R = firstQ s n k p := ⟨_, rfl⟩
  rw [← hR0]
  have hR := hid hR0
  clear h hp hR0 eg
  go_enter Try.func30, Try.ntmps30
  go_wp2_with fail
  go_loopg [8, 9, 10, 16] n (fun gg _ _ _ vi wr => ∃ i m : Nat, i ≤ n ∧ Hid (R = seek s n k p i) ∧ gg = n - i ∧ vi = .int .i64 i ∧ wr = w.drewN m)
  case atStart => exact ⟨0, 0, Nat.zero_le _, hR, rfl, rfl, rfl⟩
  case round =>
    obtain ⟨i, m, hi, hs, rfl, rfl, rfl⟩ := hrel
    by_cases hlt : i < n
    · obtain ⟨r, hr⟩ : ∃ r, r = (k + i) % n := ⟨_, rfl⟩
      have hrn : r < n := by rw [hr]; exact Nat.mod_lt _ (by omega)
      obtain ⟨k0, _, _, _, _⟩ := H.out.k hrn
      have hown := H.out.queue r hrn
      have hol := owns_len hown
      have hi1 : ((i : Int) < (n : Int)) := by omega
      have hr1 : ((r : Int) < (n : Int)) := by omega
      have hw1 : IntKind.i64.wrap ((k : Int) + (i : Int)) = (k : Int) + (i : Int) := IntWalk.i64_in _ (by omega)
      have hw2 : ((k : Int) + (i : Int)).tmod (n : Int) = (r : Int) := by rw [Int.tmod_eq_emod_of_nonneg (by omega), hr, Int.natCast_emod, Int.natCast_add]
      have hn00 : ¬ n = 0 := by omega
      have hn01 : ¬ (n : Int) = 0 := by omega
      have hw3 : IntKind.i64.wrap (r : Int) = (r : Int) := IntWalk.i64_in _ (by omega)
      have hn0 : ((n : Int) == 0) = false := by simp; omega
      have hst : R = ((s.Q r).find? p).or (seek s n k p (i + 1)) := by rw [hs.out, seek_step hlt, hr]
      clear hs hr
      go_wp2_with fail
      go_quiet (fail)
      rw [World.drewN_drewN]
      obtain ⟨m2, hm2⟩ : ∃ m2, m2 = m + nq := ⟨_, rfl⟩
      rw [← hm2]
      have HI : Hid (Calls Try.prog 48 #[.slice (l.qa r) (s.Q r).length (l.qc r), .func (.func g) pre lb] (w.drewN m2) fun e w' => e = .returned (.int .i64 (idxI p (s.Q r))) ∧ w.drewN m2 = w') :=
        hid (indexFunc (w.drewN m2) (l.qa r) (l.qc r) (s.Q r) (RdI.of_owns (owns_of_heap hown (w' := w.drewN m2) (fun _ _ => rfl))) hol.2.1 hol.2.2.1 g pre lb p EG.out (HP.out m2 r hrn))
      have hRd := RdI.of_owns (owns_of_heap hown (w' := w.drewN m2) (fun _ _ => rfl))
      clear hm2 hown hw1 hw2 hw3 k0
      rcases idxI_find (p := p) (q := s.Q r) with ⟨f1, f2⟩ | ⟨j, x, f1, f2, f3⟩
      · rw [f2] at HI
        rw [f1, Option.none_or] at hst
        have hst := hid hst
        clear f1 f2 hRd
        go_wp2_with (first
          | (go_at_call 48; refine HI.out.mono ?_; rintro e w' ⟨rfl, rfl⟩)
          | fail)
        go_roundg (n - (i + 1))
        case measure => omega
        case rel => exact ⟨i + 1, m2, by omega, hst, rfl, by go_num, rfl⟩
      · rw [f2] at HI
        rw [f1, Option.some_or] at hst
        obtain ⟨b, off, hb, hc⟩ := hRd j x f3
        have hjl := (List.getElem?_eq_some_iff.1 f3).1
        have hjl2 : ((j : Int) < ((s.Q r).length : Int)) := by omega
        generalize (s.Q r).length = len at *
        generalize l.qa r = ao at *
        subst hb
        have hst := hid hst
        clear f1 f2 f3 hRd
        go_wp2_with (first
          | (go_at_call 48; refine HI.out.mono ?_; rintro e w' ⟨rfl, rfl⟩)
          | fail)
        go_ret2
        exact ⟨by rw [hst.out]; rfl, m2, rfl⟩
    · have hin : i = n := by omega
      have hni : ¬ ((i : Int) < (n : Int)) := by omega
      have hfin : Hid (R = none) := hid (by rw [hs.out, hin]; exact seek_end)
      clear hin
      go_wp2_with fail
      go_ret2
      exact ⟨by rw [hfin.out]; rfl, m, rfl⟩
end Go.Proofs.Ytehjekcfhmmggaa

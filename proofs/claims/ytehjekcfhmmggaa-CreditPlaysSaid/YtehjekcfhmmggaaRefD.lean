/-
  The reference's Pick, whatever the core. No conditions.
-/
import Derived.Test.YtehjekcfhmmggaaRefC
namespace Go.Proofs.Ytehjekcfhmmggaa
open Go.RowKit

section
variable (S : Nat → Prop) (w : World) (rb per n : Nat) (s : CS) (h : RR S w rb per n s) (ok : OKs per n s)
include h ok

set_option maxHeartbeats 2000000 in
set_option maxRecDepth 100000 in
theorem rpick_t (hS : ∀ k, w.heap.size ≤ k → S k) (i : Int) :
    Calls Try.prog 41 #[.pointer (some ⟨rb, 0, none⟩), .int .i64 i] w fun e w' => e = .returned (.tuple #[.int .i64 (pickV n s i).1, .bool (pickV n s i).2.1, .int .i64 (pickV n s i).2.2]) ∧ Hid (RR S w' rb per n (pickN n s i)) ∧ Hid (Fr S w w') := by
  have HC := hid h
  obtain ⟨l, r, h1, hr⟩ := h
  have HH := hid (rhas_c S w rb l per n s.L s.Q r h1 i)
  have HN := hid (rruns_c S w rb l per n s.L s.Q r h1 i)
  cases h3 : inR n i with
  | false =>
    have e1 : pickV n s i = (0, false, 2) := by unfold pickV; rw [if_pos h3]
    have e2 : pickN n s i = s := by unfold pickN; rw [if_pos h3]
    rw [e1, e2]
    rw [h3] at HH
    clear h1 ok hS hr h3 e1 e2
    go_enter Try.func41, Try.ntmps41
    go_wp2_with (first | (go_at_call 45; refine HH.out.mono ?_; rintro e w' ⟨rfl, rfl⟩) | fail)
    refine bodyPost_ret (v := .tuple #[.int .i64 0, .bool false, .int .i64 2]) (by simp [results, Try.results41, go_sem]) rfl ?_
    exact ⟨rfl, HC.out, Fr.refl S w⟩
  | true =>
    obtain ⟨k, rfl, hk⟩ := inR_nat h3
    cases hb : s.bs k with
    | false => exact rpick_in S w rb per n s HC.out ok hS k hk hb
    | true =>
      have e1 : pickV n s (k : Int) = (0, false, 21) := by unfold pickV; rw [if_neg (by rw [h3]; decide), if_pos (show s.bs (k : Int).toNat = true from hb)]
      have e2 : pickN n s (k : Int) = s := by unfold pickN; rw [if_neg (by rw [h3]; decide), if_pos (show s.bs (k : Int).toNat = true from hb)]
      rw [e1, e2]
      obtain ⟨j, x, hj, _⟩ := runP_yes ok hk hb
      rw [h3] at HH
      rw [hj] at HN
      have hj0 : ((j : Int) ≥ 0) := by omega
      clear h1 ok hS hr h3 e1 e2 hb hj
      go_enter Try.func41, Try.ntmps41
      go_wp2_with (first
        | (go_at_call 45; refine HH.out.mono ?_; rintro e w' ⟨rfl, rfl⟩)
        | (go_at_call 46; refine HN.out.mono ?_; rintro e w' ⟨rfl, rfl⟩)
        | fail)
      refine bodyPost_ret (v := .tuple #[.int .i64 0, .bool false, .int .i64 21]) (by simp [results, Try.results41, go_sem]) rfl ?_
      exact ⟨rfl, HC.out, Fr.refl S w⟩
end
end Go.Proofs.Ytehjekcfhmmggaa

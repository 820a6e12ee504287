/-
  The reference's Over. No conditions.
-/
import Derived.Test.YtehjekcfhmmggaaRef9
namespace Go.Proofs.Ytehjekcfhmmggaa
open Go.RowKit

section
variable (S : Nat → Prop) (w : World) (rb per n : Nat) (s : CS) (h : RR S w rb per n s) (ok : OKs per n s)
include h ok

set_option maxHeartbeats 4000000 in
set_option maxRecDepth 100000 in
/-- Over, whatever the core. -/
theorem rover_c (i : Int) :
    Calls Try.prog 47 #[.pointer (some ⟨rb, 0, none⟩), .int .i64 i] w fun e w' => e = .returned (.bool (overB per n s i)) ∧ Hid (Fr (fun _ => False) w w') := by
  obtain ⟨l, r, h, hr⟩ := h
  have HH := hid (rhas_c S w rb l per n s.L s.Q r h i)
  have HN := hid (fun m => rruns_c S (w.drewN m) rb l per n s.L s.Q r (h.of_heap (fun _ _ _ => rfl)) i)
  have HN0 := hid (rruns_c S w rb l per n s.L s.Q r h i)
  cases h3 : inR n i with
  | false =>
    have e1 : overB per n s i = false := by unfold overB; rw [if_neg (by rw [h3]; simp)]
    rw [e1]
    rw [h3] at HH
    clear h ok hr h3 e1
    go_enter Try.func47, Try.ntmps47
    go_wp2_with (first | (go_at_call 45; refine HH.out.mono ?_; rintro e w' ⟨rfl, rfl⟩) | fail)
    go_ret
    exact ⟨rfl, Fr.refl _ w⟩
  | true =>
    obtain ⟨k, rfl, hk⟩ := inR_nat h3
    rw [h3] at HH
    cases hb : s.bs k with
    | false =>
      have e1 : overB per n s (k : Int) = false := by unfold overB; rw [if_neg (by rw [show (k : Int).toNat = k from rfl, hb]; simp)]
      rw [e1]
      rw [runP_no ok hb] at HN0
      clear h ok hr h3 e1 hb HN
      go_enter Try.func47, Try.ntmps47
      go_wp2_with (first | (go_at_call 45; refine HH.out.mono ?_; rintro e w' ⟨rfl, rfl⟩) | (go_at_call 46; refine HN0.out.mono ?_; rintro e w' ⟨rfl, rfl⟩) | fail)
      go_ret
      exact ⟨rfl, Fr.refl _ w⟩
    | true =>
      obtain ⟨j, x, hj, hx, hid1, hst, hco, hfo⟩ := runP_yes ok hk hb
      rw [hj] at HN0
      clear HN
      have hjl := (List.getElem?_eq_some_iff.1 hx).1
      have hj2 : ((j : Int) < (s.L.length : Int)) := by omega
      have hj0 : ¬ ((j : Int) < 0) := by omega
      obtain ⟨g, hg, x0, x1, x2, x3, x4, _⟩ := h.x hx
      obtain ⟨c0, c1, c2, c3, _⟩ := h.c
      have kr := h.rn (i := k) (by have := ok.n8; omega)
      obtain ⟨k0, _⟩ := h.q hk
      have hql := ok.qlen hk
      rw [hg] at c2
      have hk8 : (k : Int) < 8 := by have := ok.n8; omega
      have hkn : (k : Int) < (n : Int) := by omega
      obtain ⟨B, hB⟩ : ∃ B, B = overB per n s (k : Int) := ⟨_, rfl⟩
      have hov : Hid (B = ((decide ((per : Int) ≤ s.ran k) && decide (0 < (s.Q k).length)) || (decide (x.credit < 0) && (s.Q k).any (underP s)))) := hid (by
        rw [hB]
        unfold overB
        rw [if_pos ⟨h3, hb⟩, show (k : Int).toNat = k from rfl, hfo])
      rw [← hB]
      have hrk := (hr k hk).2.2
      have H := hid h
      have HO := hid ok
      have hjv := hid hj
      have hxv := hid hx
      clear hB h ok hr h3 hb hid1 hst hco hfo hj hjl
      go_enter Try.func47, Try.ntmps47
      go_wp2_with (first | (go_at_call 45; refine HH.out.mono ?_; rintro e w' ⟨rfl, rfl⟩) | (go_at_call 46; refine HN0.out.mono ?_; rintro e w' ⟨rfl, rfl⟩) | fail)
      by_cases hp : r k ≥ (per : Int)
      · have hv : Hid (B = decide (0 < (s.Q k).length)) := hid (by
          have h1 : (per : Int) ≤ s.ran k := by omega
          rw [hov.out, decide_eq_true h1, Bool.true_and]
          cases hq : s.Q k with
          | nil => simp
          | cons a q => simp)
        clear hov hrk
        go_quiet (fail)
        go_wp2_with fail
        go_ret
        exact ⟨by rw [hv.out]; rfl, (Fr.refl _ w).drewM _⟩
      · have hn1 : ¬ ((per : Int) ≤ s.ran k) := by omega
        by_cases hcr : x.credit ≥ 0
        · have hv : Hid (B = false) := hid (by rw [hov.out, decide_eq_false hn1, decide_eq_false (by omega : ¬ x.credit < 0)]; rfl)
          clear hov hrk hn1
          go_quiet (fail)
          obtain ⟨wq, hwq⟩ : ∃ wq, wq = w.drewN nq := ⟨_, rfl⟩
          rw [← hwq]
          have FQ : Hid (Fr (fun _ => False) w wq) := hid (by rw [hwq]; exact (Fr.refl _ w).drewM nq)
          have HQ := hid (H.out.of_heap (w' := wq) (fun _ _ _ => by rw [hwq]; rfl))
          clear hwq
          have HM := hid (fun m => (rruns_c S (wq.drewN m) rb l per n s.L s.Q r (HQ.out.of_heap (fun _ _ _ => rfl)) k))
          rw [hjv.out] at HM
          clear c0 c1 c2 c3 x0 x1 x2 x3 x4 kr k0
          obtain ⟨c0, c1, c2, c3, _⟩ := HQ.out.c
          obtain ⟨g1, hg1, x0, x1, x2, x3, x4, _⟩ := HQ.out.x hxv.out
          rw [hg1] at c2
          go_wp2_with fail
          go_quiet ((go_at_call 46; exact Calls.quiet_of_same ((HM.out _).mono fun _ _ h => ⟨h.1, h.2.symm⟩)))
          go_wp2_with fail
          go_ret
          exact ⟨by rw [hv.out]; rfl, FQ.out.drewM _⟩
        · have hv : Hid (B = (s.Q k).any (underP s)) := hid (by rw [hov.out, decide_eq_false hn1, decide_eq_true (by omega : x.credit < 0)]; simp)
          clear hov hrk hn1
          go_quiet (fail)
          obtain ⟨wq, hwq⟩ : ∃ wq, wq = w.drewN nq := ⟨_, rfl⟩
          rw [← hwq]
          have FQ : Hid (Fr (fun _ => False) w wq) := hid (by rw [hwq]; exact (Fr.refl _ w).drewM nq)
          have HQ := hid (H.out.of_heap (w' := wq) (fun _ _ _ => by rw [hwq]; rfl))
          clear hwq
          have HM := hid (fun m => (rruns_c S (wq.drewN m) rb l per n s.L s.Q r (HQ.out.of_heap (fun _ _ _ => rfl)) k))
          rw [hjv.out] at HM
          clear c0 c1 c2 c3 x0 x1 x2 x3 x4 kr k0
          obtain ⟨c0, c1, c2, c3, _⟩ := HQ.out.c
          obtain ⟨g1, hg1, x0, x1, x2, x3, x4, _⟩ := HQ.out.x hxv.out
          rw [hg1] at c2
          go_wp2_with fail
          go_quiet ((go_at_call 46; exact Calls.quiet_of_same ((HM.out _).mono fun _ _ h => ⟨h.1, h.2.symm⟩)))
          go_wp2_with fail
          have HQ2 := hid (HQ.out.of_heap (w' := wq.drewN nq) (fun _ _ _ => rfl))
          have FQ2 := hid (FQ.out.drewM nq)
          clear c0 c1 c2 c3 x0 x1 x2 x3 x4 hx hg hj2 hj0 HM hg1
          go_wp2_with fail
          go_loopg [5] (s.Q k).length (fun gg v5 wx => ∃ i : Nat, i ≤ (s.Q k).length ∧ gg = (s.Q k).length - i ∧ v5 = .int .i64 i ∧ Hid (∀ a y, a < i → (s.Q k)[a]? = some y → underP s y = false) ∧ Hid (RAt S wx rb l per n s.L s.Q r) ∧ Hid (Fr (fun _ => False) w wx))
          case atStart => exact ⟨0, Nat.zero_le _, rfl, rfl, fun a y ha => absurd ha (by omega), HQ2, FQ2⟩
          case round =>
            as_aux_lemma =>
              obtain ⟨i, hi, rfl, rfl, hbef, A, F⟩ := hrel
              clear HQ HQ2 FQ FQ2 H HN0 HH
              obtain ⟨c0, c1, c2, c3, _⟩ := A.out.c
              obtain ⟨k0, _⟩ := A.out.q hk
              by_cases hlt : i < (s.Q k).length
              · obtain ⟨y, hy⟩ : ∃ y, (s.Q k)[i]? = some y := ⟨_, List.getElem?_eq_getElem hlt⟩
                obtain ⟨gq, hgq, ky⟩ := A.out.qe hk hy
                obtain ⟨z, hz, hzid, _, _⟩ := HO.out.qin k hk y (List.mem_of_getElem? hy)
                have hfo : findO s.L y = some z := by rw [← hzid]; exact HO.out.find hz
                obtain ⟨q, hq, hzq⟩ := findP_some HO.out.apart hfo
                have hql2 := (List.getElem?_eq_some_iff.1 hzq).1
                have HF := hid (fun m => rfind_c S (wr.drewN m) rb l per n s.L s.Q r (A.out.of_heap (fun _ _ _ => rfl)) y)
                rw [hq] at HF
                obtain ⟨g2, hg2, z0, z1, z2, z3, z4, _⟩ := A.out.x hzq
                rw [hg2] at c2
                rw [hgq] at k0
                have hqi : ((q : Int) < (s.L.length : Int)) := by omega
                have hil : ((i : Int) < ((s.Q k).length : Int)) := by omega
                have hu : Hid (underP s y = decide (0 ≤ z.credit)) := hid (by unfold underP; rw [hfo])
                have hyv := hid hy
                clear hy hz hzid hfo hq hzq hg2 hgq hql2
                by_cases hzc : z.credit ≥ 0
                · have hB : Hid (B = true) := hid (by
                    rw [hv.out, List.any_eq_true]
                    exact ⟨y, List.mem_of_getElem? hyv.out, by rw [hu.out]; exact decide_eq_true hzc⟩)
                  go_wp2_with fail
                  go_quiet ((go_at_call 25; exact Calls.quiet_of_same ((HF.out _).mono fun _ _ h => ⟨h.1, h.2.symm⟩)))
                  go_wp2_with fail
                  go_ret
                  exact ⟨by rw [hB.out]; rfl, F.out.drewM _⟩
                · have hno : Hid (underP s y = false) := hid (by rw [hu.out]; exact decide_eq_false hzc)
                  go_wp2_with fail
                  go_quiet ((go_at_call 25; exact Calls.quiet_of_same ((HF.out _).mono fun _ _ h => ⟨h.1, h.2.symm⟩)))
                  go_wp2_with fail
                  go_roundg ((s.Q k).length - (i + 1))
                  case measure => omega
                  case rel => exact ⟨i + 1, by omega, rfl, by go_num, fun a y' ha hy' => by
                    rcases Nat.lt_succ_iff_lt_or_eq.1 ha with h | rfl
                    · exact hbef.out a y' h hy'
                    · obtain rfl := Option.some.inj (hyv.out.symm.trans hy'); exact hno.out, A.out.of_heap (fun _ _ _ => rfl), F.out.drewM _⟩
              · have hjn : ¬ ((i : Int) < ((s.Q k).length : Int)) := by omega
                have hB : Hid (B = false) := hid (by
                  rw [hv.out]
                  apply List.any_eq_false.2
                  intro y hy
                  obtain ⟨a, ha, rfl⟩ := List.getElem_of_mem hy
                  rw [hbef.out a _ (by omega) (List.getElem?_eq_getElem ha)]
                  decide)
                go_wp2_with fail
                go_ret
                exact ⟨by rw [hB.out]; rfl, F.out⟩
end
end Go.Proofs.Ytehjekcfhmmggaa

/-
  The reference's Charge. No conditions.
-/
import Derived.Test.YtehjekcfhmmggaaRef5
import Derived.IntWalk
namespace Go.Proofs.Ytehjekcfhmmggaa
open Go.RowKit

theorem RanR.charge {per n : Nat} {c r : Nat → Int} (h : RanR per n c r) (hp : per ≤ 1048576) {k : Nat} (hk : k < n) (hc : 0 ≤ c k ∧ c k ≤ 1048576) {m : Int} (m1 : 0 ≤ m) (m2 : m ≤ 1048576) :
    RanR per n (updN c k (min (c k + m) 1048576)) (if r k < per then updN r k (r k + m) else r) := by
  intro i hi
  by_cases e : i = k
  · subst e
    obtain ⟨h0, h1, h2⟩ := h i hk
    rw [updN_same]
    split
    · rename_i hlt
      rw [updN_same]
      refine ⟨by omega, by omega, ?_⟩
      rcases h2 with ⟨h2, h3⟩ | ⟨h2, h3⟩
      · by_cases h4 : c i + m < per
        · exact .inl ⟨by omega, by omega⟩
        · exact .inr ⟨by omega, by omega⟩
      · omega
    · rename_i hlt
      refine ⟨h0, h1, ?_⟩
      rcases h2 with ⟨h2, h3⟩ | ⟨h2, h3⟩
      · omega
      · exact .inr ⟨by omega, h3⟩
  · rw [updN_ne _ _ e]
    split
    · rw [updN_ne _ _ e]; exact h i hi
    · exact h i hi

section
variable (S : Nat → Prop) (w : World) (rb per n : Nat) (s : CS) (h : RR S w rb per n s) (ok : OKs per n s)
include h ok

set_option maxHeartbeats 4000000 in
set_option maxRecDepth 100000 in
theorem rcharge_yes (k : Nat) (hk : k < n) (hb : s.bs k = true) (m : Int) (m1 : 0 ≤ m) (m2 : m ≤ 1048576) (x : One) (hf : findO s.L (s.rv k) = some x) :
    Calls Try.prog 42 #[.pointer (some ⟨rb, 0, none⟩), .int .i64 k, .int .i64 m] w fun e w' => e = .returned (.int .i64 0) ∧ Hid (RR S w' rb per n (chargeS per s x k m)) ∧ Hid (Fr S w w') := by
  obtain ⟨l, r, h, hr⟩ := h
  have HH := hid (rhas_c S w rb l per n s.L s.Q r h k)
  have HN := hid (rruns_c S w rb l per n s.L s.Q r h k)
  rw [inR_of hk] at HH
  obtain ⟨j, x', hj, hx, hid1, hst, hco, hfo⟩ := runP_yes ok hk hb
  obtain rfl : x' = x := Option.some.inj (hfo.symm.trans hf)
  rw [hj] at HN
  have hxm := List.mem_of_getElem? hx
  have hjl := (List.getElem?_eq_some_iff.1 hx).1
  have hj2 : ((j : Int) < (s.L.length : Int)) := by omega
  have hj0 : ¬ ((j : Int) < 0) := by omega
  obtain ⟨_, _, _, cr1, cr2, _⟩ := ok.one x' hxm
  have hp2 := ok.p2
  have hn8 := ok.n8
  obtain ⟨r0, r1, _⟩ := hr k hk
  have hfin : Hid (∀ (w2 : World) (c : Int) (r2 : Nat → Int), c = max (x'.credit - m) (-(per : Int)) → r2 = (if r k < per then updN r k (r k + m) else r) → RAt S w2 rb l per n (s.L.set j { x' with credit := c }) s.Q r2 → RR S w2 rb per n (chargeS per s x' k m)) := hid (by
    intro w2 c r2 hc hr2 A
    subst hc hr2
    have e := set_setO ok.apart hx (fun y => { y with credit := max (y.credit - m) (-(per : Int)) })
    rw [e] at A
    exact ⟨l, _, A, hr.charge ok.p2 hk (ok.ran k hk) m1 m2⟩)
  obtain ⟨g, hg, x0, x1, x2, x3, x4, xf⟩ := h.x hx
  have xf := xf (j * 5 + 2)
  obtain ⟨c0, c1, c2, c3, cf⟩ := h.c
  rw [hg] at c2
  have hSg := hid (h.mine.2.2.1 g (by rw [hg]; rfl))
  have hSr := hid h.mine.1
  have A1 := hid (h.setOne hx hg 2 (by omega) (.int .i64 (x'.credit - m)) (y := { x' with credit := x'.credit - m }) rfl)
  have F1 : Hid (Fr S w (w.setCell ⟨g, j * 5 + 2, none⟩ (.int .i64 (x'.credit - m)))) := hid ((Fr.refl S w).setCell (fun _ => hSg.out) _)
  have hx1 : Hid ((s.L.set j { x' with credit := x'.credit - m })[j]? = some { x' with credit := x'.credit - m }) := hid (by rw [List.getElem?_set_self hjl])
  have hll : (s.L.set j { x' with credit := x'.credit - m }).length = s.L.length := List.length_set
  have t1 : ¬ (m < 0) := by omega
  have t2 : ¬ (m > 1048576) := by omega
  have hw1 : IntKind.i64.wrap (x'.credit - m) = x'.credit - m := IntWalk.i64_in _ (by omega)
  have hw2 : IntKind.i64.wrap (-(per : Int)) = -(per : Int) := IntWalk.i64_in _ (by omega)
  have hw3 : IntKind.i64.wrap (r k + m) = r k + m := IntWalk.i64_in _ (by omega)
  have hk8 : (k : Int) < 8 := by omega
  have hk8n : k < 8 := by omega
  have HG := hid hg
  clear h ok hr hb hf hfo hx hxm hid1 hj hjl hg cr1 cr2 hst hco m1 m2 hp2 hn8 r0 r1
  go_enter Try.func42, Try.ntmps42
  go_wp2_with (first
    | (go_at_call 45; refine HH.out.mono ?_; rintro e w' ⟨rfl, rfl⟩)
    | (go_at_call 46; refine HN.out.mono ?_; rintro e w' ⟨rfl, rfl⟩)
    | fail)
  go_region
  obtain ⟨w1, hw⟩ : ∃ w1, w1 = (w.setCell ⟨g, j * 5 + 2, none⟩ (.int .i64 (x'.credit - m))).drew := ⟨_, rfl⟩
  rw [← hw]
  have A2 := hid (A1.out.of_heap (w' := w1) (fun _ _ _ => by rw [hw]; rfl))
  have F2 : Hid (Fr S w w1) := hid (by rw [hw]; exact F1.out.drew)
  clear hw A1 F1 c0 c1 c2 c3 cf x0 x1 x2 x3 x4 xf
  obtain ⟨c0, c1, c2, c3, cf⟩ := A2.out.c
  have kr := A2.out.rn hk8n
  have kf := cf (4 + k)
  rw [HG.out, hll] at c2
  go_wp2_with fail
  by_cases hrk : r k < per
  · have hR : Hid ((if r k < per then updN r k (r k + m) else r) = updN r k (r k + m)) := hid (if_pos hrk)
    go_quiet (fail)
    have A3 := hid (A2.out.of_heap (w' := w1.drewN nq) (fun _ _ _ => rfl))
    have F3 := hid (F2.out.drewM nq)
    generalize w1.drewN nq = w2 at *
    clear A2 F2 c0 c1 c2 c3 cf kr kf
    obtain ⟨c0, c1, c2, c3, cf⟩ := A3.out.c
    have kr := A3.out.rn hk8n
    have kf := cf (4 + k)
    rw [HG.out, hll] at c2
    go_wp2_with fail
    go_region
    obtain ⟨w3, hw⟩ : ∃ w3, w3 = (w2.setCell ⟨rb, 4 + k, none⟩ (.int .i64 (r k + m))).drew := ⟨_, rfl⟩
    rw [← hw]
    have A4 := hid ((A3.out.setRan hk8n (r k + m)).of_heap (w' := w3) (fun _ _ _ => by rw [hw]; rfl))
    have F4 : Hid (Fr S w w3) := hid (by rw [hw]; exact (F3.out.setCell (fun _ => hSr.out) _).drew)
    rw [← hR.out] at A4
    clear hw A3 F3 c0 c1 c2 c3 cf kr kf hrk hw3 hR
    generalize (if r k < per then updN r k (r k + m) else r) = r2 at *
    obtain ⟨c0, c1, c2, c3, cf⟩ := A4.out.c
    obtain ⟨g2, hg2, x0, x1, x2, x3, x4, xf⟩ := A4.out.x hx1.out
    obtain rfl : g2 = g := by have := hg2.symm.trans HG.out; cases this; rfl
    dsimp only at x2
    rw [HG.out, hll] at c2
    go_wp2_with fail
    by_cases hcr : x'.credit - m < -(per : Int)
    · go_quiet (fail)
      have A5 := hid (A4.out.of_heap (w' := w3.drewN nq) (fun _ _ _ => rfl))
      have F5 := hid (F4.out.drewM nq)
      generalize w3.drewN nq = w4 at *
      clear A4 F4 c0 c1 c2 c3 cf x0 x1 x2 x3 x4 xf hg2
      obtain ⟨c0, c1, c2, c3, cf⟩ := A5.out.c
      obtain ⟨g3, hg3, x0, x1, x2, x3, x4, xf⟩ := A5.out.x hx1.out
      obtain rfl : g3 = g2 := by have := hg3.symm.trans HG.out; cases this; rfl
      dsimp only at x2
      have xf := xf (j * 5 + 2)
      rw [HG.out, hll] at c2
      have A6 := hid (A5.out.setOne hx1.out hg3 2 (by omega) (.int .i64 (-(per : Int))) (y := { x' with credit := -(per : Int) }) rfl)
      rw [List.set_set] at A6
      have hmx : Hid (-(per : Int) = max (x'.credit - m) (-(per : Int))) := hid (by omega)
      go_wp2_with fail
      go_region
      go_wp2_with fail
      go_ret
      exact ⟨rfl, hfin.out _ _ _ hmx.out rfl (A6.out.of_heap (fun _ _ _ => rfl)), (F5.out.setCell (fun _ => hSg.out) _).drew⟩
    · have hmx : Hid (x'.credit - m = max (x'.credit - m) (-(per : Int))) := hid (by omega)
      go_quiet (fail)
      go_wp2_with fail
      go_ret
      exact ⟨rfl, hfin.out _ _ _ hmx.out rfl (A4.out.of_heap (fun _ _ _ => rfl)), F4.out.drewM _⟩
  · have hR : Hid ((if r k < per then updN r k (r k + m) else r) = r) := hid (if_neg hrk)
    go_quiet (fail)
    obtain ⟨w3, hw⟩ : ∃ w3, w3 = w1.drewN nq := ⟨_, rfl⟩
    rw [← hw]
    have A4 := hid (A2.out.of_heap (w' := w3) (fun _ _ _ => by rw [hw]; rfl))
    have F4 : Hid (Fr S w w3) := hid (by rw [hw]; exact F2.out.drewM nq)
    rw [← hR.out] at A4
    clear hw A2 F2 c0 c1 c2 c3 cf kr kf hrk hw3 hR
    generalize (if r k < per then updN r k (r k + m) else r) = r2 at *
    obtain ⟨c0, c1, c2, c3, cf⟩ := A4.out.c
    obtain ⟨g2, hg2, x0, x1, x2, x3, x4, xf⟩ := A4.out.x hx1.out
    obtain rfl : g2 = g := by have := hg2.symm.trans HG.out; cases this; rfl
    dsimp only at x2
    rw [HG.out, hll] at c2
    go_wp2_with fail
    by_cases hcr : x'.credit - m < -(per : Int)
    · go_quiet (fail)
      have A5 := hid (A4.out.of_heap (w' := w3.drewN nq) (fun _ _ _ => rfl))
      have F5 := hid (F4.out.drewM nq)
      generalize w3.drewN nq = w4 at *
      clear A4 F4 c0 c1 c2 c3 cf x0 x1 x2 x3 x4 xf hg2
      obtain ⟨c0, c1, c2, c3, cf⟩ := A5.out.c
      obtain ⟨g3, hg3, x0, x1, x2, x3, x4, xf⟩ := A5.out.x hx1.out
      obtain rfl : g3 = g2 := by have := hg3.symm.trans HG.out; cases this; rfl
      dsimp only at x2
      have xf := xf (j * 5 + 2)
      rw [HG.out, hll] at c2
      have A6 := hid (A5.out.setOne hx1.out hg3 2 (by omega) (.int .i64 (-(per : Int))) (y := { x' with credit := -(per : Int) }) rfl)
      rw [List.set_set] at A6
      have hmx : Hid (-(per : Int) = max (x'.credit - m) (-(per : Int))) := hid (by omega)
      go_wp2_with fail
      go_region
      go_wp2_with fail
      go_ret
      exact ⟨rfl, hfin.out _ _ _ hmx.out rfl (A6.out.of_heap (fun _ _ _ => rfl)), (F5.out.setCell (fun _ => hSg.out) _).drew⟩
    · have hmx : Hid (x'.credit - m = max (x'.credit - m) (-(per : Int))) := hid (by omega)
      go_quiet (fail)
      go_wp2_with fail
      go_ret
      exact ⟨rfl, hfin.out _ _ _ hmx.out rfl (A4.out.of_heap (fun _ _ _ => rfl)), F4.out.drewM _⟩

set_option maxHeartbeats 2000000 in
set_option maxRecDepth 100000 in
/-- Charge, whatever the arguments. -/
theorem rcharge_t (i m : Int) :
    Calls Try.prog 42 #[.pointer (some ⟨rb, 0, none⟩), .int .i64 i, .int .i64 m] w fun e w' => e = .returned (.int .i64 (chargeV n s i m)) ∧ Hid (RR S w' rb per n (chargeN per n s i m)) ∧ Hid (Fr S w w') := by
  have HC := hid h
  obtain ⟨l, r, h1, hr⟩ := h
  have HH := hid (rhas_c S w rb l per n s.L s.Q r h1 i)
  have HN := hid (rruns_c S w rb l per n s.L s.Q r h1 i)
  have two : inR n i = false ∨ m < 0 ∨ 1048576 < m → chargeV n s i m = 2 ∧ chargeN per n s i m = s := fun hv => by
    have e1 : chargeV n s i m = 2 := by unfold chargeV; rw [if_pos hv]
    exact ⟨e1, by unfold chargeN; rw [e1, if_neg (by decide)]⟩
  cases h3 : inR n i with
  | false =>
    obtain ⟨e1, e2⟩ := two (.inl h3)
    rw [e1, e2]
    rw [h3] at HH
    clear h1 ok hr h3 e1 e2 two
    go_enter Try.func42, Try.ntmps42
    go_wp2_with (first | (go_at_call 45; refine HH.out.mono ?_; rintro e w' ⟨rfl, rfl⟩) | fail)
    go_ret
    exact ⟨rfl, HC.out, Fr.refl S w⟩
  | true =>
    rw [h3] at HH
    by_cases hm1 : m < 0
    · obtain ⟨e1, e2⟩ := two (.inr (.inl hm1))
      rw [e1, e2]
      clear h1 ok hr h3 e1 e2 two
      go_enter Try.func42, Try.ntmps42
      go_wp2_with (first | (go_at_call 45; refine HH.out.mono ?_; rintro e w' ⟨rfl, rfl⟩) | fail)
      go_ret
      exact ⟨rfl, HC.out, Fr.refl S w⟩
    by_cases hm2 : m > 1048576
    · obtain ⟨e1, e2⟩ := two (.inr (.inr hm2))
      rw [e1, e2]
      clear h1 ok hr h3 e1 e2 two
      go_enter Try.func42, Try.ntmps42
      go_wp2_with (first | (go_at_call 45; refine HH.out.mono ?_; rintro e w' ⟨rfl, rfl⟩) | fail)
      go_ret
      exact ⟨rfl, HC.out, Fr.refl S w⟩
    obtain ⟨k, rfl, hk⟩ := inR_nat h3
    have hno : ¬ (inR n (k : Int) = false ∨ m < 0 ∨ 1048576 < m) := by rw [h3]; simp; omega
    cases hb : s.bs k with
    | false =>
      have e1 : chargeV n s (k : Int) m = 14 := by unfold chargeV; rw [if_neg hno, if_neg (by rw [show (k : Int).toNat = k from rfl, hb]; decide)]
      have e2 : chargeN per n s (k : Int) m = s := by unfold chargeN; rw [e1, if_neg (by decide)]
      rw [e1, e2]
      rw [runP_no ok hb] at HN
      clear h1 ok hr h3 e1 e2 two hno hb
      go_enter Try.func42, Try.ntmps42
      go_wp2_with (first
        | (go_at_call 45; refine HH.out.mono ?_; rintro e w' ⟨rfl, rfl⟩)
        | (go_at_call 46; refine HN.out.mono ?_; rintro e w' ⟨rfl, rfl⟩)
        | fail)
      go_ret
      exact ⟨rfl, HC.out, Fr.refl S w⟩
    | true =>
      obtain ⟨_, x, _, _, _, _, _, hfo⟩ := runP_yes ok hk hb
      have e1 : chargeV n s (k : Int) m = 0 := by unfold chargeV; rw [if_neg hno, if_pos (by exact hb)]
      have e2 : chargeN per n s (k : Int) m = chargeS per s x k m := by unfold chargeN; rw [e1, if_pos rfl, show (k : Int).toNat = k from rfl, hfo]
      rw [e1, e2]
      exact rcharge_yes S w rb per n s HC.out ok k hk hb m (by omega) (by omega) x hfo
end
end Go.Proofs.Ytehjekcfhmmggaa

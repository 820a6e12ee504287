/-
  The reference's Refill. No conditions.
-/
import Derived.Test.YtehjekcfhmmggaaRef7
namespace Go.Proofs.Ytehjekcfhmmggaa
open Go.RowKit

def fillN (per sum : Nat) (L : List One) (i : Nat) : List One := L.mapIdx fun j x => if j < i then fillO per sum x else x
theorem fillN_zero (per sum : Nat) (L : List One) : fillN per sum L 0 = L := by
  apply List.ext_getElem?
  intro j
  unfold fillN
  rw [List.getElem?_mapIdx]
  simp
theorem fillN_end (per sum : Nat) (L : List One) : fillN per sum L L.length = L.map (fillO per sum) := by
  apply List.ext_getElem?
  intro j
  unfold fillN
  rw [List.getElem?_mapIdx, List.getElem?_map]
  cases h : L[j]? with
  | none => rfl
  | some x => simp [(List.getElem?_eq_some_iff.1 h).1]
theorem fillN_len (per sum : Nat) (L : List One) (i : Nat) : (fillN per sum L i).length = L.length := by simp [fillN]
theorem fillN_at {per sum : Nat} {L : List One} {i : Nat} {x : One} (h : L[i]? = some x) : (fillN per sum L i)[i]? = some x := by
  unfold fillN
  rw [List.getElem?_mapIdx, h]
  simp
theorem fillN_set {per sum : Nat} {L : List One} {i : Nat} {x : One} (h : L[i]? = some x) : (fillN per sum L i).set i (fillO per sum x) = fillN per sum L (i + 1) := by
  apply List.ext_getElem?
  intro j
  have hi := (List.getElem?_eq_some_iff.1 h).1
  rw [List.getElem?_set, fillN_len]
  unfold fillN
  rw [List.getElem?_mapIdx, List.getElem?_mapIdx]
  by_cases e : i = j
  · subst e
    rw [if_pos rfl, if_pos hi, h]
    simp
  · rw [if_neg e]
    cases hj : L[j]? with
    | none => rfl
    | some y =>
      by_cases e2 : j < i
      · simp [e2, show j < i + 1 by omega]
      · simp [e2, show ¬ j < i + 1 by omega]

theorem sumW_take {L : List One} {i : Nat} {x : One} (h : L[i]? = some x) : sumW (L.take (i + 1)) = sumW (L.take i) + x.weight := by
  rw [List.take_add_one, h, sumW_append]
  simp [sumW]

def RefJ (S : Nat → Prop) (w : World) (rb : Nat) (l : RLay) (per n : Nat) (s : CS) (r : Nat → Int) (g : Nat) (v : Value) (wr : World) : Prop :=
  ∃ i : Nat, i ≤ s.L.length ∧ g = s.L.length - i ∧ v = .int .i64 i ∧ Hid (RAt S wr rb l per n (fillN per s.sum s.L i) s.Q r) ∧ Hid (Fr S w wr)

set_option maxHeartbeats 4000000 in
set_option maxRecDepth 100000 in
/-- Refill. -/
theorem rrefill_c (S : Nat → Prop) (w : World) (rb per n : Nat) (s : CS) (h : RR S w rb per n s) (ok : OKs per n s) :
    Calls Try.prog 44 #[.pointer (some ⟨rb, 0, none⟩)] w fun e w' => e = .returned (.tuple #[]) ∧ Hid (RR S w' rb per n (refillS per s)) ∧ Hid (Fr S w w') := by
  obtain ⟨l, r, h, hr⟩ := h
  have H := hid h
  have HO := hid ok
  have HR := hid hr
  obtain ⟨c0, c1, c2, c3, _⟩ := h.c
  have hfew := ok.few
  have hmax := hid (sumW_max (L := s.L) (fun x hx => (ok.one x hx).2.2.1))
  clear h ok hr
  go_enter Try.func44, Try.ntmps44
  go_wp2_with fail
  go_loopg [2, 3] s.L.length (fun gg v2 v3 wr => ∃ (i sm : Nat), i ≤ s.L.length ∧ gg = s.L.length - i ∧ v3 = .int .i64 i ∧ v2 = .int .i64 sm ∧ Hid (sm = sumW (s.L.take i)) ∧ sm ≤ i * 256 ∧ wr = w)
  case atStart => exact ⟨0, 0, Nat.zero_le _, rfl, rfl, rfl, rfl, Nat.le_refl _, rfl⟩
  case round =>
    as_aux_lemma =>
      obtain ⟨i, sm, hi, rfl, rfl, rfl, hsm, hsb, rfl⟩ := hrel
      by_cases hlt : i < s.L.length
      · obtain ⟨x, hx⟩ : ∃ x, s.L[i]? = some x := ⟨_, List.getElem?_eq_getElem hlt⟩
        obtain ⟨g, hg, x0, x1, x2, x3, x4, _⟩ := H.out.x hx
        rw [hg] at c2
        have hb := (HO.out.one x (List.mem_of_getElem? hx)).2.2.1
        have hil : ((i : Int) < (s.L.length : Int)) := by omega
        have hsm2 : Hid (sm + x.weight = sumW (s.L.take (i + 1))) := hid (by rw [sumW_take hx, hsm.out])
        clear hx hg
        go_wp2_with fail
        go_roundg (s.L.length - (i + 1))
        case measure => omega
        case rel => exact ⟨i + 1, sm + x.weight, by omega, rfl, by go_num, by go_num, hsm2, by omega, rfl⟩
      · have hjn : ¬ ((i : Int) < (s.L.length : Int)) := by omega
        have hsum : sm = s.sum := by rw [hsm.out, HO.out.sum, List.take_of_length_le (by omega)]
        subst hsum
        clear hsm hlt
        obtain ⟨wo, hwo⟩ : ∃ wo, wo = wr := ⟨_, rfl⟩
        subst hwo
        have hF0 : Hid (RAt S wo rb l per n (fillN per s.sum s.L 0) s.Q r) := hid (by rw [fillN_zero]; exact H.out)
        go_wp2_with fail
        go_loopg [4, 5] s.L.length (fun gg v4 _ wx => RefJ S wo rb l per n s r gg v4 wx)
        case atStart => exact ⟨0, Nat.zero_le _, rfl, rfl, hF0, Fr.refl _ _⟩
        case round =>
          as_aux_lemma =>
            clear hi hjn hF0 c0 c1 c2 c3
            obtain ⟨i, hi, rfl, rfl, A, F⟩ := hrel
            obtain ⟨c0, c1, c2, c3, cf⟩ := A.out.c
            rw [fillN_len] at c2
            by_cases hlt : i < s.L.length
            · obtain ⟨x, hx⟩ : ∃ x, s.L[i]? = some x := ⟨_, List.getElem?_eq_getElem hlt⟩
              have hxf := hid (fillN_at (per := per) (sum := s.sum) hx)
              have hset := hid (fillN_set (per := per) (sum := s.sum) hx)
              obtain ⟨g, hg, x0, x1, x2, x3, x4, _⟩ := A.out.x hxf.out
              rw [hg] at c2
              have hil : ((i : Int) < (s.L.length : Int)) := by omega
              have hxm := List.mem_of_getElem? hx
              obtain ⟨_, b1, b2, b3, b4, _, _⟩ := HO.out.one x hxm
              have bp := HO.out.p2
              have hsum0 : 0 < s.sum := by rw [HO.out.sum]; exact Nat.lt_of_lt_of_le b1 (sumW_le hxm)
              have hP : per * x.weight ≤ 1048576 * 256 := Nat.mul_le_mul bp b2
              obtain ⟨P, hPd⟩ : ∃ P, P = per * x.weight := ⟨_, rfl⟩
              rw [← hPd] at hP
              obtain ⟨q, hqd⟩ : ∃ q, q = P / s.sum := ⟨_, rfl⟩
              have hqP : q ≤ P := by rw [hqd]; exact Nat.div_le_self _ _
              have hm1 : IntKind.i64.wrap ((per : Int) * (x.weight : Int)) = (P : Int) := by
                rw [show (per : Int) * (x.weight : Int) = (P : Int) by rw [hPd, Int.natCast_mul]]
                exact IntWalk.i64_in _ (by omega)
              have hm2 : ((P : Int)).tdiv (s.sum : Int) = (q : Int) := by rw [Int.tdiv_eq_ediv_of_nonneg (by omega), hqd, Int.natCast_ediv]
              have hm3 : IntKind.i64.wrap (q : Int) = (q : Int) := IntWalk.i64_in _ (by omega)
              have hs0 : ¬ s.sum = 0 := by omega
              have hs1' : ¬ (s.sum : Int) = 0 := by omega
              have hfil : Hid (∀ N : Int, N = min (x.credit + max 1 (q : Int)) per → fillO per s.sum x = { x with credit := N }) := hid (fun N hN => by
                unfold fillO
                rw [hN, hqd, hPd])
              have hbq : q ≤ 1048576 * 256 := by omega
              have hG : Hid (l.la = some ⟨g, 0, none⟩) := hid hg
              have hSg := hid (A.out.mine.2.2.1 g (by rw [hg]; rfl))
              clear hqd hqP hPd hP b1 b2 hsum0 hxm hx hg hmax
              go_wp2_with fail
              go_quiet (fail)
              have A2 := hid (A.out.of_heap (w' := wr.drewN nq) (fun _ _ _ => rfl))
              have F2 := hid (F.out.drewM nq)
              generalize wr.drewN nq = w2 at *
              clear A F c0 c1 c2 c3 cf x0 x1 x2 x3 x4 hm1 hm2 hm3
              obtain ⟨c0, c1, c2, c3, cf⟩ := A2.out.c
              rw [fillN_len, hG.out] at c2
              obtain ⟨g1, hg1, x0, x1, x2, x3, x4, xf⟩ := A2.out.x hxf.out
              obtain rfl : g1 = g := by have := hg1.symm.trans hG.out; cases this; rfl
              have xf := xf (i * 5 + 2)
              clear hg1
              by_cases hq1 : (q : Int) < 1
              · have hw1 : IntKind.i64.wrap (x.credit + 1) = x.credit + 1 := IntWalk.i64_in _ (by omega)
                have hmx : Hid ((1 : Int) = max 1 (q : Int)) := hid (by omega)
                have A3 := hid (A2.out.setOne hxf.out hG.out 2 (by omega) (.int .i64 (x.credit + 1)) (y := { x with credit := x.credit + 1 }) rfl)
                have F3 : Hid (Fr S wo (w2.setCell ⟨g1, i * 5 + 2, none⟩ (.int .i64 (x.credit + 1)))) := hid (F2.out.setCell (fun _ => hSg.out) _)
                have hx3 : Hid (((fillN per s.sum s.L i).set i { x with credit := x.credit + 1 })[i]? = some { x with credit := x.credit + 1 }) := hid (by rw [List.getElem?_set_self (by rw [fillN_len]; exact hlt)])
                go_wp2_with fail
                go_region
                obtain ⟨w3, hw⟩ : ∃ w3, w3 = (w2.setCell ⟨g1, i * 5 + 2, none⟩ (.int .i64 (x.credit + 1))).drew := ⟨_, rfl⟩
                rw [← hw]
                have A4 := hid (A3.out.of_heap (w' := w3) (fun _ _ _ => by rw [hw]; rfl))
                have F4 : Hid (Fr S wo w3) := hid (by rw [hw]; exact F3.out.drew)
                clear hw A2 F2 A3 F3 c0 c1 c2 c3 cf x0 x1 x2 x3 x4 xf hq1
                obtain ⟨c0, c1, c2, c3, cf⟩ := A4.out.c
                rw [List.length_set, fillN_len, hG.out] at c2
                obtain ⟨g2, hg2, x0, x1, x2, x3, x4, xf⟩ := A4.out.x hx3.out
                obtain rfl : g2 = g1 := by have := hg2.symm.trans hG.out; cases this; rfl
                clear hg2 xf
                dsimp only at x2
                go_wp2_with fail
                by_cases hp : x.credit + 1 > (per : Int)
                · have hN := hid (hfil.out (per : Int) (by have := hmx.out; omega))
                  go_quiet (fail)
                  have A5 := hid (A4.out.of_heap (w' := w3.drewN nq) (fun _ _ _ => rfl))
                  have F5 := hid (F4.out.drewM nq)
                  generalize w3.drewN nq = w4 at *
                  clear A4 F4 c0 c1 c2 c3 cf x0 x1 x2 x3 x4
                  obtain ⟨c0, c1, c2, c3, cf⟩ := A5.out.c
                  rw [List.length_set, fillN_len, hG.out] at c2
                  obtain ⟨g3, hg3, x0, x1, x2, x3, x4, xf⟩ := A5.out.x hx3.out
                  obtain rfl : g3 = g2 := by have := hg3.symm.trans hG.out; cases this; rfl
                  have xf := xf (i * 5 + 2)
                  clear hg3
                  dsimp only at x2
                  have A6 := hid (A5.out.setOne hx3.out hG.out 2 (by omega) (.int .i64 (per : Int)) (y := { x with credit := (per : Int) }) rfl)
                  rw [List.set_set, ← hN.out, hset.out] at A6
                  have F6 : Hid (Fr S wo (w4.setCell ⟨g3, i * 5 + 2, none⟩ (.int .i64 (per : Int)))) := hid (F5.out.setCell (fun _ => hSg.out) _)
                  go_wp2_with fail
                  go_region
                  go_wp2_with fail
                  go_roundg (s.L.length - (i + 1))
                  case measure => omega
                  case rel => exact ⟨i + 1, by omega, rfl, by go_num, A6.out.of_heap (fun _ _ _ => rfl), F6.out.drew⟩
                · have hN := hid (hfil.out (x.credit + 1) (by have := hmx.out; omega))
                  have A6 := A4
                  rw [← hN.out, hset.out] at A6
                  go_quiet (fail)
                  go_wp2_with fail
                  go_roundg (s.L.length - (i + 1))
                  case measure => omega
                  case rel => exact ⟨i + 1, by omega, rfl, by go_num, A6.out.of_heap (fun _ _ _ => rfl), F4.out.drewM _⟩
              · have hw1 : IntKind.i64.wrap (x.credit + (q : Int)) = x.credit + (q : Int) := IntWalk.i64_in _ (by omega)
                have hmx : Hid (((q : Int) : Int) = max 1 (q : Int)) := hid (by omega)
                have A3 := hid (A2.out.setOne hxf.out hG.out 2 (by omega) (.int .i64 (x.credit + (q : Int))) (y := { x with credit := x.credit + (q : Int) }) rfl)
                have F3 : Hid (Fr S wo (w2.setCell ⟨g1, i * 5 + 2, none⟩ (.int .i64 (x.credit + (q : Int))))) := hid (F2.out.setCell (fun _ => hSg.out) _)
                have hx3 : Hid (((fillN per s.sum s.L i).set i { x with credit := x.credit + (q : Int) })[i]? = some { x with credit := x.credit + (q : Int) }) := hid (by rw [List.getElem?_set_self (by rw [fillN_len]; exact hlt)])
                go_wp2_with fail
                go_region
                obtain ⟨w3, hw⟩ : ∃ w3, w3 = (w2.setCell ⟨g1, i * 5 + 2, none⟩ (.int .i64 (x.credit + (q : Int)))).drew := ⟨_, rfl⟩
                rw [← hw]
                have A4 := hid (A3.out.of_heap (w' := w3) (fun _ _ _ => by rw [hw]; rfl))
                have F4 : Hid (Fr S wo w3) := hid (by rw [hw]; exact F3.out.drew)
                clear hw A2 F2 A3 F3 c0 c1 c2 c3 cf x0 x1 x2 x3 x4 xf hq1
                obtain ⟨c0, c1, c2, c3, cf⟩ := A4.out.c
                rw [List.length_set, fillN_len, hG.out] at c2
                obtain ⟨g2, hg2, x0, x1, x2, x3, x4, xf⟩ := A4.out.x hx3.out
                obtain rfl : g2 = g1 := by have := hg2.symm.trans hG.out; cases this; rfl
                clear hg2 xf
                dsimp only at x2
                go_wp2_with fail
                by_cases hp : x.credit + (q : Int) > (per : Int)
                · have hN := hid (hfil.out (per : Int) (by have := hmx.out; omega))
                  go_quiet (fail)
                  have A5 := hid (A4.out.of_heap (w' := w3.drewN nq) (fun _ _ _ => rfl))
                  have F5 := hid (F4.out.drewM nq)
                  generalize w3.drewN nq = w4 at *
                  clear A4 F4 c0 c1 c2 c3 cf x0 x1 x2 x3 x4
                  obtain ⟨c0, c1, c2, c3, cf⟩ := A5.out.c
                  rw [List.length_set, fillN_len, hG.out] at c2
                  obtain ⟨g3, hg3, x0, x1, x2, x3, x4, xf⟩ := A5.out.x hx3.out
                  obtain rfl : g3 = g2 := by have := hg3.symm.trans hG.out; cases this; rfl
                  have xf := xf (i * 5 + 2)
                  clear hg3
                  dsimp only at x2
                  have A6 := hid (A5.out.setOne hx3.out hG.out 2 (by omega) (.int .i64 (per : Int)) (y := { x with credit := (per : Int) }) rfl)
                  rw [List.set_set, ← hN.out, hset.out] at A6
                  have F6 : Hid (Fr S wo (w4.setCell ⟨g3, i * 5 + 2, none⟩ (.int .i64 (per : Int)))) := hid (F5.out.setCell (fun _ => hSg.out) _)
                  go_wp2_with fail
                  go_region
                  go_wp2_with fail
                  go_roundg (s.L.length - (i + 1))
                  case measure => omega
                  case rel => exact ⟨i + 1, by omega, rfl, by go_num, A6.out.of_heap (fun _ _ _ => rfl), F6.out.drew⟩
                · have hN := hid (hfil.out (x.credit + (q : Int)) (by have := hmx.out; omega))
                  have A6 := A4
                  rw [← hN.out, hset.out] at A6
                  go_quiet (fail)
                  go_wp2_with fail
                  go_roundg (s.L.length - (i + 1))
                  case measure => omega
                  case rel => exact ⟨i + 1, by omega, rfl, by go_num, A6.out.of_heap (fun _ _ _ => rfl), F4.out.drewM _⟩
            · have hjn : ¬ ((i : Int) < (s.L.length : Int)) := by omega
              have hfin : Hid (RR S wr rb per n (refillS per s)) := hid (by
                have := A.out
                rw [show i = s.L.length by omega, fillN_end] at this
                exact ⟨l, r, this, HR.out⟩)
              clear A hlt
              go_wp2_with fail
              exact ⟨rfl, .tuple #[], by kernel_rfl, rfl, hfin, F⟩
end Go.Proofs.Ytehjekcfhmmggaa

/-
  stands: all that is told of both. No conditions.
-/
import Derived.Test.YtehjekcfhmmggaaPlayD
namespace Go.Proofs.Ytehjekcfhmmggaa
open Go.RowKit

section
variable (S T : Nat → Prop) (w : World) (cb rb per n : Nat) (s : CS) (l : RLay) (r : Nat → Int) (hC : CR S w cb per n s) (hA : RAt T w rb l per n s.L s.Q r) (hr : RanR per n s.ran r) (ok : OKs per n s)
include hC hA hr ok

omit hA hr in
theorem s_queue (wx : World) (F : Hid (Fr (fun _ => False) w wx)) (c : Int) : Calls Try.prog 20 #[.pointer (some ⟨cb, 0, none⟩), .int .i64 c] wx fun e w' => ∃ ro cap, e = .returned (.slice ro (queueL n s c).length cap) ∧ Hid (w'.ownsRow wx.heap.size 3 1 (.slice ro (queueL n s c).length cap) (queueL n s c).length (ints (queueL n s c))) ∧ Hid (Fr (fun _ => False) wx w') :=
  queue_c S wx cb per n s (hC.kept F.out (fun _ _ _ h => h)) ok c
omit hA hr in
theorem s_runs (wx : World) (F : Hid (Fr (fun _ => False) w wx)) (c : Int) : Calls Try.prog 14 #[.pointer (some ⟨cb, 0, none⟩), .int .i64 c] wx fun e w' => e = .returned (.tuple #[.int .i64 (runsV n s c), .bool (runsB n s c)]) ∧ Hid (Fr (fun _ => False) wx w') :=
  (runs_c S wx cb per n s (hC.kept F.out (fun _ _ _ h => h)) ok c).mono fun _ _ ⟨a, m, b⟩ => ⟨a, hid (by rw [b]; exact (Fr.refl _ _).drewM m)⟩
omit hA hr in
theorem s_over (wx : World) (F : Hid (Fr (fun _ => False) w wx)) (c : Int) : Calls Try.prog 19 #[.pointer (some ⟨cb, 0, none⟩), .int .i64 c] wx fun e w' => e = .returned (.bool (overB per n s c)) ∧ Hid (Fr (fun _ => False) wx w') :=
  over_t S wx cb per n s (hC.kept F.out (fun _ _ _ h => h)) ok c
omit hC hr ok in
theorem s_has (wx : World) (F : Hid (Fr (fun _ => False) w wx)) (c : Int) : Calls Try.prog 45 #[.pointer (some ⟨rb, 0, none⟩), .int .i64 c] wx fun e w' => e = .returned (.bool (inR n c)) ∧ wx = w' :=
  rhas_c T wx rb l per n s.L s.Q r (hA.kept F.out (fun _ _ _ h => h)) c
omit hC hr ok in
theorem s_rruns (wx : World) (F : Hid (Fr (fun _ => False) w wx)) (c : Int) : Calls Try.prog 46 #[.pointer (some ⟨rb, 0, none⟩), .int .i64 c] wx fun e w' => e = .returned (.int .i64 (runP s.L c)) ∧ wx = w' :=
  rruns_c T wx rb l per n s.L s.Q r (hA.kept F.out (fun _ _ _ h => h)) c
omit hC in
theorem s_rover (wx : World) (F : Hid (Fr (fun _ => False) w wx)) (c : Int) : Calls Try.prog 47 #[.pointer (some ⟨rb, 0, none⟩), .int .i64 c] wx fun e w' => e = .returned (.bool (overB per n s c)) ∧ Hid (Fr (fun _ => False) wx w') :=
  rover_c T wx rb per n s ⟨l, r, hA.kept F.out (fun _ _ _ h => h), hr⟩ ok c

set_option maxHeartbeats 8000000 in
set_option maxRecDepth 100000 in
theorem stands_c : Calls Try.prog 24 #[.pointer (some ⟨cb, 0, none⟩), .pointer (some ⟨rb, 0, none⟩)] w fun e w' => e = .returned (.bool true) ∧ Hid (Fr (fun _ => False) w w') := by
  have HC := hid hC
  have HA := hid hA
  have HR := hid hr
  have HO := hid ok
  have hfew := ok.few
  have hn8 := ok.n8
  have Kq := hid (s_queue S w cb per n s hC ok)
  have Kr := hid (s_runs S w cb per n s hC ok)
  have Ko := hid (s_over S w cb per n s hC ok)
  have Kh := hid (s_has T w rb per n s l r hA)
  have Kn := hid (s_rruns T w rb per n s l r hA)
  have Kv := hid (s_rover T w rb per n s l r hA hr ok)
  clear hC hA hr ok
  go_enter Try.func24, Try.ntmps24
  go_wp2_with fail
  go_loopg [5, 6, 7] s.L.length (fun gg v5 _ _ wx => ∃ i : Nat, i ≤ s.L.length ∧ gg = s.L.length - i ∧ v5 = .int .i64 i ∧ Hid (Fr (fun _ => False) w wx))
  case atStart => exact ⟨0, Nat.zero_le _, rfl, rfl, Fr.refl _ _⟩
  case round =>
    obtain ⟨i, hi, rfl, rfl, F⟩ := hrel
    have A := hid (HA.out.kept F.out (fun _ _ _ h => h))
    have C := hid (HC.out.kept F.out (fun _ _ _ h => h))
    obtain ⟨c0, c1, c2, c3, _⟩ := A.out.c
    by_cases hlt : i < s.L.length
    · as_aux_lemma =>
        obtain ⟨x, hx⟩ : ∃ x, s.L[i]? = some x := ⟨_, List.getElem?_eq_getElem hlt⟩
        have hxm := List.mem_of_getElem? hx
        obtain ⟨g, hg, x0, x1, x2, x3, x4, _⟩ := A.out.x hx
        rw [hg] at c2
        have HL := look_c S wr cb per n s C.out HO.out x.id (HO.out.one x hxm).1
        rw [show lookV s x.id = .tuple #[.agg #[.int .i64 x.state, .int .i64 (x.core : Int), .int .i64 (x.weight : Int), .int .i64 x.credit], .bool true] by unfold lookV; rw [HO.out.find hxm]; rfl] at HL
        have HL := hid HL
        have hil : ((i : Int) < (s.L.length : Int)) := by omega
        have HX := hid hx
        have HG := hid hg
        have hne : ∀ w' : World, (binOp .neq 29 (.agg #[.int .i64 x.state, .int .i64 (x.core : Int), .int .i64 (x.weight : Int), .int .i64 x.credit]) (.agg #[.int .i64 x.state, .int .i64 (x.core : Int), .int .i64 (x.weight : Int), .int .i64 x.credit])).run Try.prog w' = .ok (.bool false) w' := fun w' => by
          rw [neq29, decide_eq_true ⟨rfl, rfl, rfl, rfl⟩]; rfl
        clear hx hxm hg
        go_upto_region 5 with (first
          | (go_at_call 11; refine HL.out.mono ?_; rintro e w2 ⟨rfl, F2⟩)
          | fail)
        have F3 := hid (F.out.trans F2.out)
        have A2 := hid (HA.out.kept F3.out (fun _ _ _ h => h))
        clear c0 c1 c2 c3 x0 x1 x2 x3 x4 A C F F2
        obtain ⟨c0, c1, c2, c3, _⟩ := A2.out.c
        obtain ⟨g2, hg2, x0, x1, x2, x3, x4, _⟩ := A2.out.x HX.out
        obtain rfl : g2 = g := by have := hg2.symm.trans HG.out; cases this; rfl
        rw [hg2] at c2
        have hrb : rb < w2.heap.size := heap_lt A2.out.obj
        have hgb : g2 < w2.heap.size := block_lt_of_cell x0
        clear hg2
        go_quiet (fail)
        go_wp2_with fail
        go_roundg (s.L.length - (i + 1))
        case measure => omega
        case rel => exact ⟨i + 1, by omega, rfl, by go_num, (F3.out.alloc _).drewM _⟩
    · as_aux_lemma =>
        have hin : ¬ ((i : Int) < (s.L.length : Int)) := by omega
        clear A C
        go_wp2_with fail
        clear c0 c1 c2 c3
        go_loopg [8, 9, 10, 11, 12, 13] (n + 2) (fun gg v8 _ _ _ _ _ wx => ∃ (k : Nat) (c : Int), k ≤ n + 2 ∧ gg = n + 2 - k ∧ v8 = .int .i64 c ∧ Hid (c = (k : Int) - 1) ∧ Hid (Fr (fun _ => False) w wx))
        case atStart => exact ⟨0, -1, Nat.zero_le _, rfl, rfl, rfl, F⟩
        case round =>
          clear F
          obtain ⟨k, c, hk, rfl, rfl, hc, F⟩ := hrel
          have A := hid (HA.out.kept F.out (fun _ _ _ h => h))
          have C := hid (HC.out.kept F.out (fun _ _ _ h => h))
          obtain ⟨c0, c1, c2, c3, _⟩ := A.out.c
          by_cases hlt : k < n + 2
          · as_aux_lemma =>
              have hcl : c ≤ (n : Int) := by have := hc.out; omega
              have hcb : -1 ≤ c := by have := hc.out; omega
              have HQ := hid (Kq.out wr F c)
              cases h3 : inR n c with
              | false =>
                have e1 : queueL n s c = [] := by unfold queueL; rw [h3]; rfl
                have HR1 := hid (fun wx F => Kr.out wx F c)
                have HH1 := hid (fun wx F => Kh.out wx F c)
                have HO1 := hid (fun wx F => Ko.out wx F c)
                rw [show runsV n s c = 0 by unfold runsV; rw [h3]; simp, show runsB n s c = false by unfold runsB; rw [h3]; rfl] at HR1
                rw [show overB per n s c = false by unfold overB; rw [h3]; simp] at HO1
                rw [h3] at HH1
                rw [e1, show ([] : List Int).length = 0 from rfl] at HQ
                clear h3 e1 A C
                go_wp2_with (first
                  | (go_at_call 20; refine HQ.out.mono ?_; rintro e w2 ⟨ro, cap, rfl, O2, F2⟩; have F2 := hid (F.out.trans F2.out))
                  | (go_at_call 14; refine (HR1.out _ F2).mono ?_; rintro e w3 ⟨rfl, F3⟩; have F3 := hid (F2.out.trans F3.out))
                  | (go_at_call 45; refine (HH1.out _ F3).mono ?_; rintro e w4 ⟨rfl, rfl⟩)
                  | (go_at_call 19; refine (HO1.out _ F3).mono ?_; rintro e w4 ⟨rfl, F4⟩; have F4 := hid (F3.out.trans F4.out))
                  | fail)
                go_roundg (n + 2 - (k + 1))
                case measure => omega
                case rel => exact ⟨k + 1, c + 1, by omega, rfl, by go_num, hid (by have := hc.out; omega), F4⟩
              | true =>
                obtain ⟨j, rfl, hj⟩ := inR_nat h3
                have HH1 := hid (fun wx F => Kh.out wx F (j : Int))
                have HV1 := hid (fun wx F => Ko.out wx F (j : Int))
                have HW1 := hid (fun wx F => Kv.out wx F (j : Int))
                rw [h3] at HH1
                have hq64 := HO.out.qlen hj
                have hjn : ((j : Int) < (n : Int)) := by omega
                rw [show queueL n s (j : Int) = s.Q j by unfold queueL; rw [h3]; rfl] at HQ
                obtain ⟨B, hB⟩ : ∃ B, B = overB per n s (j : Int) := ⟨_, rfl⟩
                rw [← hB] at HV1 HW1
                clear hB
                cases hb : s.bs j with
                | false =>
                  have HR1 := hid (fun wx F => Kr.out wx F (j : Int))
                  have HN1 := hid (fun wx F => Kn.out wx F (j : Int))
                  rw [show runsV n s (j : Int) = 0 by unfold runsV; rw [if_neg (by rw [show (j : Int).toNat = j from rfl, hb]; simp)], show runsB n s (j : Int) = false by unfold runsB; rw [show (j : Int).toNat = j from rfl, hb, Bool.and_false]] at HR1
                  rw [runP_no HO.out hb] at HN1
                  have hp0 : ¬ ((-1 : Int) ≥ 0) := by decide
                  clear hb
                  clear h3
                  go_upto_region 16 with (first
                    | (go_at_call 20; refine HQ.out.mono ?_; rintro e w2 ⟨ro, cap, rfl, O2, F2⟩; have F2 := hid (F.out.trans F2.out); have G2 : Hid (Fr (fun _ => False) w2 w2) := hid (Fr.refl _ _))
                    | (go_at_call 14; refine (HR1.out _ F2).mono ?_; rintro e w3 ⟨rfl, G3⟩; have F3 := hid (F2.out.trans G3.out))
                    | (go_at_call 45; refine (HH1.out _ F3).mono ?_; rintro e w4 ⟨rfl, rfl⟩)
                    | (go_at_call 46; refine (HN1.out _ F3).mono ?_; rintro e w4 ⟨rfl, rfl⟩)
                    | fail)
                  clear c0 c1 c2 c3 A C G2 HQ HR1 HH1 HN1 F F2
                  have A3 := hid (HA.out.kept F3.out (fun _ _ _ h => h))
                  obtain ⟨c0, c1, c2, c3, _⟩ := A3.out.c
                  obtain ⟨k0, _⟩ := A3.out.q hj
                  go_wp2_with (first
                    | (go_at_call 19; refine (HV1.out _ F3).mono ?_; rintro e w4 ⟨rfl, G4⟩; have F4 := hid (F3.out.trans G4.out); have G4 := hid (G3.out.trans G4.out))
                    | (go_at_call 47; refine (HW1.out _ F4).mono ?_; rintro e w5 ⟨rfl, G5⟩; have F5 := hid (F4.out.trans G5.out); have G5 := hid (G4.out.trans G5.out))
                    | fail)
                  clear c0 c1 c2 c3 k0 A3 G3 F3 F4 G4 HV1 HW1
                  go_loopg [13] (s.Q j).length (fun gg v13 wx => ∃ i : Nat, i ≤ (s.Q j).length ∧ gg = (s.Q j).length - i ∧ v13 = .int .i64 i ∧ Hid (Fr (fun _ => False) w5 wx))
                  case atStart => exact ⟨0, Nat.zero_le _, rfl, rfl, Fr.refl _ _⟩
                  case round =>
                    as_aux_lemma =>
                      obtain ⟨m, hm, rfl, rfl, F6⟩ := hrel
                      have A6 := hid (HA.out.kept (F5.out.trans F6.out) (fun _ _ _ h => h))
                      have F7 := hid (F5.out.trans F6.out)
                      by_cases hml : m < (s.Q j).length
                      · obtain ⟨y, hy⟩ : ∃ y, (s.Q j)[m]? = some y := ⟨_, List.getElem?_eq_getElem hml⟩
                        have G7 := hid (G5.out.trans F6.out)
                        have O7 := owns_of_heap O2.out (w' := wr) (fun g hg => by rw [ownBlock_slice] at hg; exact G7.out.block g (owns_lt O2.out g hg) (fun h => h))
                        obtain ⟨b', off', hb', hcell⟩ := RdI.of_owns O7 m y hy
                        obtain ⟨c0, c1, c2, c3, _⟩ := A6.out.c
                        obtain ⟨k0, _⟩ := A6.out.q hj
                        obtain ⟨gq, hgq, ky⟩ := A6.out.qe hj hy
                        rw [hgq] at k0
                        have hmi : ((m : Int) < ((s.Q j).length : Int)) := by omega
                        subst hb'
                        clear hgq hy O7 G7
                        go_wp2_with fail
                        go_quiet (fail)
                        go_wp2_with fail
                        go_roundg ((s.Q j).length - (m + 1))
                        case measure => omega
                        case rel => exact ⟨m + 1, by omega, rfl, by go_num, F6.out.drewM _⟩
                      · have hmn : ¬ ((m : Int) < ((s.Q j).length : Int)) := by omega
                        go_wp2_with fail
                        go_roundg (n + 2 - (k + 1))
                        case measure => omega
                        case rel => exact ⟨k + 1, (j : Int) + 1, by omega, rfl, by go_num, hid (by have := hc.out; omega), F7⟩
                | true =>
                  have HR1 := hid (fun wx F => Kr.out wx F (j : Int))
                  have HN1 := hid (fun wx F => Kn.out wx F (j : Int))
                  obtain ⟨p, x, hp, hx, hxid, _, _, _⟩ := runP_yes HO.out hj hb
                  rw [show runsV n s (j : Int) = s.rv j by unfold runsV; rw [if_pos ⟨h3, by exact hb⟩]; rfl, show runsB n s (j : Int) = true by unfold runsB; rw [h3]; exact hb] at HR1
                  rw [hp] at HN1
                  have HX := hid hx
                  have hxi := hid hxid
                  have hpl := (List.getElem?_eq_some_iff.1 hx).1
                  have hp2 : ((p : Int) < (s.L.length : Int)) := by omega
                  have hp0 : ((p : Int) ≥ 0) := by omega
                  clear hb hp hx hxid hpl
                  clear h3
                  go_upto_region 16 with (first
                    | (go_at_call 20; refine HQ.out.mono ?_; rintro e w2 ⟨ro, cap, rfl, O2, F2⟩; have F2 := hid (F.out.trans F2.out); have G2 : Hid (Fr (fun _ => False) w2 w2) := hid (Fr.refl _ _))
                    | (go_at_call 14; refine (HR1.out _ F2).mono ?_; rintro e w3 ⟨rfl, G3⟩; have F3 := hid (F2.out.trans G3.out))
                    | (go_at_call 45; refine (HH1.out _ F3).mono ?_; rintro e w4 ⟨rfl, rfl⟩)
                    | (go_at_call 46; refine (HN1.out _ F3).mono ?_; rintro e w4 ⟨rfl, rfl⟩)
                    | fail)
                  clear c0 c1 c2 c3 A C G2 HQ HR1 HH1 HN1 F F2
                  have A3 := hid (HA.out.kept F3.out (fun _ _ _ h => h))
                  obtain ⟨c0, c1, c2, c3, _⟩ := A3.out.c
                  obtain ⟨k0, _⟩ := A3.out.q hj
                  obtain ⟨g, hg, x0, x1, x2, x3, x4, _⟩ := A3.out.x HX.out
                  rw [hg] at c2
                  rw [hxi.out] at x0
                  clear hg
                  go_wp2_with (first
                    | (go_at_call 19; refine (HV1.out _ F3).mono ?_; rintro e w4 ⟨rfl, G4⟩; have F4 := hid (F3.out.trans G4.out); have G4 := hid (G3.out.trans G4.out))
                    | (go_at_call 47; refine (HW1.out _ F4).mono ?_; rintro e w5 ⟨rfl, G5⟩; have F5 := hid (F4.out.trans G5.out); have G5 := hid (G4.out.trans G5.out))
                    | fail)
                  clear c0 c1 c2 c3 k0 A3 G3 F3 F4 G4 HV1 HW1
                  go_loopg [13] (s.Q j).length (fun gg v13 wx => ∃ i : Nat, i ≤ (s.Q j).length ∧ gg = (s.Q j).length - i ∧ v13 = .int .i64 i ∧ Hid (Fr (fun _ => False) w5 wx))
                  case atStart => exact ⟨0, Nat.zero_le _, rfl, rfl, Fr.refl _ _⟩
                  case round =>
                    as_aux_lemma =>
                      obtain ⟨m, hm, rfl, rfl, F6⟩ := hrel
                      have A6 := hid (HA.out.kept (F5.out.trans F6.out) (fun _ _ _ h => h))
                      have F7 := hid (F5.out.trans F6.out)
                      by_cases hml : m < (s.Q j).length
                      · obtain ⟨y, hy⟩ : ∃ y, (s.Q j)[m]? = some y := ⟨_, List.getElem?_eq_getElem hml⟩
                        have G7 := hid (G5.out.trans F6.out)
                        have O7 := owns_of_heap O2.out (w' := wr) (fun g hg => by rw [ownBlock_slice] at hg; exact G7.out.block g (owns_lt O2.out g hg) (fun h => h))
                        obtain ⟨b', off', hb', hcell⟩ := RdI.of_owns O7 m y hy
                        obtain ⟨c0, c1, c2, c3, _⟩ := A6.out.c
                        obtain ⟨k0, _⟩ := A6.out.q hj
                        obtain ⟨gq, hgq, ky⟩ := A6.out.qe hj hy
                        rw [hgq] at k0
                        have hmi : ((m : Int) < ((s.Q j).length : Int)) := by omega
                        subst hb'
                        clear hgq hy O7 G7
                        go_wp2_with fail
                        go_quiet (fail)
                        go_wp2_with fail
                        go_roundg ((s.Q j).length - (m + 1))
                        case measure => omega
                        case rel => exact ⟨m + 1, by omega, rfl, by go_num, F6.out.drewM _⟩
                      · have hmn : ¬ ((m : Int) < ((s.Q j).length : Int)) := by omega
                        go_wp2_with fail
                        go_roundg (n + 2 - (k + 1))
                        case measure => omega
                        case rel => exact ⟨k + 1, (j : Int) + 1, by omega, rfl, by go_num, hid (by have := hc.out; omega), F7⟩
          · as_aux_lemma =>
              have hcl : ¬ (c ≤ (n : Int)) := by have := hc.out; omega
              go_wp2_with fail
              go_ret
              exact ⟨rfl, F⟩
end
end Go.Proofs.Ytehjekcfhmmggaa

/-
  The reference's wire: Send. No conditions.
-/
import Derived.Test.YtjoamafcmknglaaWref3
import Derived.Deep.LoopGhost
import Derived.Deep.RegionHeld3
namespace Go.Proofs.Ytjoamafcmknglaa
open Go.RowKit Go.Conc

def AllV (S : Nat → Prop) (w : World) (rb n : Nat) (G : Nat → Int) (f : Nat) (b : List UInt8) (Q : QS) (g : Nat) (vc vi : Value) (wr : World) : Prop :=
  ∃ j, j ≤ n ∧ g = n - j ∧ vi = .int .i64 j ∧ vc = .int .i64 (allTo G f b Q j).2 ∧ VP S wr rb n G (allTo G f b Q j).1 ∧ Fr S w wr

section
variable (S : Nat → Prop) (w : World) (rb n : Nat) (G : Nat → Int) (Q : QS) (h : VP S w rb n G Q) (hS : ∀ k, w.heap.size ≤ k → S k) (bo : Option Addr) (bl bc : Nat) (b : List UInt8) (hb : Inp S w bo bl bc b) (hn : n ≤ 32)
include h hS hb hn

set_option maxHeartbeats 2000000 in
set_option maxRecDepth 100000 in
theorem v_send (f t : Int) : Calls Try.prog 15 #[.pointer (some ⟨rb, 0, none⟩), .int .i64 f, .int .i64 t, .slice bo bl bc] w fun e w' => e = .returned (tup (sendR n G Q f t b).1) ∧ Hid (VP S w' rb n G (sendR n G Q f t b).2) ∧ Hid (Fr S w w') := by
  have hl := hb.len
  have HW := v_has' S w rb n G Q h f
  have H := hid h
  unfold tup
  cases hr : inR n f with
  | false =>
    rw [hr] at HW
    simp only [sendR, hr, Bool.false_eq_true, ↓reduceIte]
    clear h hr hb hS
    go_enter Try.func15, Try.ntmps15
    go_wp2_with (go_at_call 19; refine HW.out.mono ?_; rintro e w' ⟨rfl, rfl⟩)
    go_ret2
    exact ⟨rfl, H.out, Fr.refl _ _⟩
  | true =>
    rw [hr] at HW
    obtain ⟨k, rfl, hk⟩ := inR_nat hr
    obtain ⟨gb, gc, ab, wa, wc, hV⟩ := h
    obtain ⟨c0, c1, c2, c3, _, _⟩ := hV.cellsP
    have ck := c2 k hk
    have hkn : ((k : Int) < (n : Int)) := by omega
    have HB := hid hb
    have HS := hid hS
    by_cases ht : t < (n : Int)
    · have ht' : ¬ (n : Int) ≤ t := by omega
      by_cases h48 : bl ≤ 2048
      · by_cases hG : 0 ≤ G k
        · have hG' : ¬ G k < 0 := by omega
          by_cases ht0 : t < 0
          · simp only [sendR, hr, ↓reduceIte, hl, h48, ht, hG, ht0, Int.toNat_natCast]
            have htb : decide (0 ≤ t) = false := decide_eq_false (by omega)
            have hgb : decide (G k < 0) = false := decide_eq_false hG'
            clear hr hb hS hl hV c2 c3 ht hG
            go_enter Try.func15, Try.ntmps15
            go_wp2_with (go_at_call 19; refine HW.out.mono ?_; rintro e w' ⟨rfl, rfl⟩)
            go_quiet (fail)
            go_wp2_with fail
            go_loopg [10, 11] n (fun g vc vi wr => AllV S w rb n G k b Q g vc vi wr)
            case atStart => exact ⟨0, Nat.zero_le _, rfl, rfl, rfl, H.out.kept (T := fun _ => False) (Fr.drewN' _ nq) (fun _ _ _ h => h), Fr.drewN' _ nq⟩
            case round =>
              as_aux_lemma =>
                obtain ⟨j, hj, rfl, rfl, rfl, hWr, hF⟩ := hrel
                have HWr := hid hWr
                have HF := hid hF
                have hcnt := allTo_le G k b Q j
                obtain ⟨cnt, ecnt⟩ : ∃ cnt, cnt = (allTo G k b Q j).2 := ⟨_, rfl⟩
                obtain ⟨gb', gc', ab', wa', wc', hW'⟩ := hWr
                obtain ⟨d0, d1, d2, d3, _, _⟩ := hW'.cellsP
                by_cases hjn : j < n
                · have hsz := hF.size
                  have d4 := d2 j hjn
                  have d5 := d2 k hk
                  obtain ⟨gcur, hgr, _⟩ := hW'.grp
                  have Hl := hid hW'.l
                  have Hg := hid hgr
                  clear hgr
                  have e1 : ((j : Int) < (n : Int)) := by omega
                  rw [← ecnt] at hcnt ⊢
                  have Ecnt := hid ecnt
                  have Hsz := hid hsz
                  clear hW' d2 d3 d1 hF ecnt hsz c0 c1 ck H HW ht0 ht' htb
                  by_cases hjf : j = k
                  · have hstep : Hid (allTo G k b Q (j + 1) = allTo G k b Q j) := by unfold Hid; rw [allTo, allStep, if_neg (by omega)]
                    have hne : (((j : Nat) : Int) != (k : Int)) = false := by simp [hjf]
                    go_wp2_with fail
                    go_quiet (fail)
                    go_wp2
                    go_roundg (n - (j + 1))
                    case measure => omega
                    case rel => exact ⟨j + 1, by omega, rfl, by go_num, by rw [hstep.out, ← Ecnt.out], by rw [hstep.out]; exact HWr.out.kept (T := fun _ => False) (Fr.drewN' _ _) (fun _ _ _ h => h), HF.out.trans (Fr.drewN' _ _)⟩
                  · have hne : (((j : Nat) : Int) != (k : Int)) = true := by simp; omega
                    by_cases hG : G j = G k
                    · have hstep : Hid (allTo G k b Q (j + 1) = (putQ (allTo G k b Q j).1 j ((k : Int), b), cnt + if ((allTo G k b Q j).1 j).length < 16 then 1 else 0)) := by unfold Hid; rw [allTo, allStep, if_pos ⟨hjf, hG⟩, Ecnt.out]
                      rw [← hG] at d5
                      have HP2 : Hid (Calls Try.prog 24 #[.pointer (some ⟨rb, 0, none⟩), .int .i64 j, .int .i64 k, .slice bo bl bc] wr.drew fun e w' => e = .returned (.bool (decide (((allTo G k b Q j).1 j).length < 16))) ∧ Hid (VP S w' rb n G (putQ (allTo G k b Q j).1 j ((k : Int), b))) ∧ Hid (Fr S wr.drew w') ∧ Hid (KeepV wr.drew w')) := by
                        have hF0 : Fr (fun _ => False) wr wr.drew := (Fr.refl _ _).drew
                        exact v_put S wr.drew rb n G _ (HWr.out.kept hF0 (fun _ _ _ h => h)) (fun k hk => HS.out k (Nat.le_trans Hsz.out hk)) bo bl bc b ((HB.out.kept HF.out (fun _ h => h)).kept hF0 (fun _ h => h.elim)).src HB.out.len j hjn k
                      cases hd : decide (((allTo G k b Q j).1 j).length < 16) with
                      | true =>
                        as_aux_lemma =>
                          rw [hd] at HP2
                          have hd' := hid (of_decide_eq_true hd)
                          clear hd
                          go_wp2_with fail
                          go_region_held3 (fun w' => w'.cell? ⟨rb, 0, none⟩ = some (.slice (some ⟨gb', 0, none⟩) n gc') ∧ w'.cell? ⟨gb', j, none⟩ = some (.int .i64 (G j)) ∧ w'.cell? ⟨gb', k, none⟩ = some (.int .i64 (G j))) (first | exact ⟨d0, d4, d5⟩ | exact ⟨d0', d4', d5'⟩) (first
                            | (go_at_call 24; refine HP2.out.mono ?_; rintro e w1 ⟨rfl, h1, h2, h3⟩; have d0' := (h3.out.cell (o := 0) Hl.out (by decide) (by decide)).trans d0; have d4' := (h3.out.cell (o := j) Hg.out (by decide) (by decide)).trans d4; have d5' := (h3.out.cell (o := k) Hg.out (by decide) (by decide)).trans d5))
                          all_goals go_wp2
                          all_goals go_roundg (n - (j + 1))
                          case measure => omega
                          case rel => exact ⟨j + 1, by omega, rfl, by go_num, by rw [hstep.out]; simp [hd'.out], by rw [hstep.out]; exact h1.out, HF.out.trans ((Fr.drew (Fr.refl S wr)).trans h2.out)⟩
                      | false =>
                        as_aux_lemma =>
                          rw [hd] at HP2
                          have hd' := hid (of_decide_eq_false hd)
                          clear hd
                          go_wp2_with fail
                          go_region_held3 (fun w' => w'.cell? ⟨rb, 0, none⟩ = some (.slice (some ⟨gb', 0, none⟩) n gc') ∧ w'.cell? ⟨gb', j, none⟩ = some (.int .i64 (G j)) ∧ w'.cell? ⟨gb', k, none⟩ = some (.int .i64 (G j))) (first | exact ⟨d0, d4, d5⟩ | exact ⟨d0', d4', d5'⟩) (first
                            | (go_at_call 24; refine HP2.out.mono ?_; rintro e w1 ⟨rfl, h1, h2, h3⟩; have d0' := (h3.out.cell (o := 0) Hl.out (by decide) (by decide)).trans d0; have d4' := (h3.out.cell (o := j) Hg.out (by decide) (by decide)).trans d4; have d5' := (h3.out.cell (o := k) Hg.out (by decide) (by decide)).trans d5))
                          all_goals go_wp2
                          all_goals go_roundg (n - (j + 1))
                          case measure => omega
                          case rel => exact ⟨j + 1, by omega, rfl, by go_num, by rw [hstep.out]; simp [hd'.out], by rw [hstep.out]; exact h1.out, HF.out.trans ((Fr.drew (Fr.refl S wr)).trans h2.out)⟩
                    · have hstep : Hid (allTo G k b Q (j + 1) = allTo G k b Q j) := by unfold Hid; rw [allTo, allStep, if_neg (fun h => hG h.2)]
                      have hGb : (G j == G k) = false := by simp [hG]
                      go_wp2_with fail
                      go_quiet (fail)
                      go_wp2
                      go_roundg (n - (j + 1))
                      case measure => omega
                      case rel => exact ⟨j + 1, by omega, rfl, by go_num, by rw [hstep.out, ← Ecnt.out], by rw [hstep.out]; exact HWr.out.kept (T := fun _ => False) (Fr.drewN' _ _) (fun _ _ _ h => h), HF.out.trans (Fr.drewN' _ _)⟩
                · obtain rfl : j = n := by omega
                  clear hW' hF d1 d2 d3 ecnt c0 c1 ck H HW
                  go_wp2
                  go_ret2
                  exact ⟨rfl, HWr.out, HF.out⟩
          · obtain ⟨j, rfl⟩ : ∃ j : Nat, t = j := ⟨t.toNat, by omega⟩
            have hj : j < n := by omega
            have cj := c2 j hj
            have HP : Hid (∀ m : Nat, Calls Try.prog 24 #[.pointer (some ⟨rb, 0, none⟩), .int .i64 j, .int .i64 k, .slice bo bl bc] (w.drewN m) fun e w' => e = .returned (.bool (decide ((Q j).length < 16))) ∧ Hid (VP S w' rb n G (putQ Q j ((k : Int), b))) ∧ Hid (Fr S w w')) := by
              intro m
              refine (v_put S (w.drewN m) rb n G Q (H.out.kept (T := fun _ => False) (Fr.drewN' w m) (fun _ _ _ h => h)) hS bo bl bc b (hb.kept (T := fun _ => False) (Fr.drewN' w m) (fun _ h => h.elim)).src hl j hj k).mono ?_
              rintro e w' ⟨he, h1, h2, h3⟩
              exact ⟨he, h1, (Fr.drewN' w m).trans h2.out⟩
            simp only [sendR, hr, ↓reduceIte, hl, h48, ht, hG, ht0, Int.toNat_natCast]
            clear hr hb hS hl hV c2 c3 ht0 hG HS HB
            by_cases hjk : j = k
            · subst hjk
              have hne : (((j : Nat) : Int) == (j : Int)) = true := by simp
              rw [if_neg (fun h => h.1 rfl)]
              clear HP
              go_enter Try.func15, Try.ntmps15
              go_wp2_with (go_at_call 19; refine HW.out.mono ?_; rintro e w' ⟨rfl, rfl⟩)
              go_quiet (fail)
              go_wp2
              go_ret2
              exact ⟨rfl, H.out.kept (T := fun _ => False) (Fr.drewN' _ nq) (fun _ _ _ h => h), Fr.drewN' _ nq⟩
            · have hne : (((j : Nat) : Int) == (k : Int)) = false := by simp; omega
              by_cases hGG : G j = G k
              · rw [if_pos ⟨by omega, hGG⟩]
                have hGb : (G k != G k) = false := by simp
                rw [hGG] at cj
                cases hd : decide ((Q j).length < 16) with
                | true =>
                  have hd' := of_decide_eq_true hd
                  rw [hd] at HP
                  rw [if_pos hd']
                  clear hd hd'
                  go_enter Try.func15, Try.ntmps15
                  go_wp2_with (go_at_call 19; refine HW.out.mono ?_; rintro e w' ⟨rfl, rfl⟩)
                  go_quiet (fail)
                  go_wp2_with (go_at_call 24; refine (HP.out nq).mono ?_; rintro e w1 ⟨rfl, h1, h2⟩)
                  go_ret2
                  exact ⟨rfl, h1, h2⟩
                | false =>
                  have hd' := of_decide_eq_false hd
                  rw [hd] at HP
                  rw [if_neg hd']
                  clear hd hd'
                  go_enter Try.func15, Try.ntmps15
                  go_wp2_with (go_at_call 19; refine HW.out.mono ?_; rintro e w' ⟨rfl, rfl⟩)
                  go_quiet (fail)
                  go_wp2_with (go_at_call 24; refine (HP.out nq).mono ?_; rintro e w1 ⟨rfl, h1, h2⟩)
                  go_ret2
                  exact ⟨rfl, h1, h2⟩
              · rw [if_neg (fun h => hGG h.2)]
                have hGb : (G j != G k) = true := by simp [hGG]
                clear HP
                go_enter Try.func15, Try.ntmps15
                go_wp2_with (go_at_call 19; refine HW.out.mono ?_; rintro e w' ⟨rfl, rfl⟩)
                go_quiet (fail)
                go_wp2
                go_ret2
                exact ⟨rfl, H.out.kept (T := fun _ => False) (Fr.drewN' _ nq) (fun _ _ _ h => h), Fr.drewN' _ nq⟩
        · have hG' : G k < 0 := by omega
          simp only [sendR, hr, ↓reduceIte, hl, h48, ht, hG, Int.toNat_natCast]
          clear hr hb hS hl hV c2 c3 hG HS HB
          go_enter Try.func15, Try.ntmps15
          go_wp2_with (go_at_call 19; refine HW.out.mono ?_; rintro e w' ⟨rfl, rfl⟩)
          go_quiet (fail)
          go_wp2
          go_ret2
          exact ⟨rfl, H.out.kept (T := fun _ => False) (Fr.drewN' _ nq) (fun _ _ _ h => h), Fr.drewN' _ nq⟩
      · simp only [sendR, hr, ↓reduceIte, hl, h48, ht]
        clear hr hb hS hl hV c2 c3 HS HB
        go_enter Try.func15, Try.ntmps15
        go_wp2_with (go_at_call 19; refine HW.out.mono ?_; rintro e w' ⟨rfl, rfl⟩)
        go_ret2
        exact ⟨rfl, H.out, Fr.refl _ _⟩
    · have ht' : (n : Int) ≤ t := by omega
      simp only [sendR, hr, ↓reduceIte, ht]
      clear hr hb hS hl hV c2 c3 HS HB
      go_enter Try.func15, Try.ntmps15
      go_wp2_with (go_at_call 19; refine HW.out.mono ?_; rintro e w' ⟨rfl, rfl⟩)
      go_ret2
      exact ⟨rfl, H.out, Fr.refl _ _⟩
end
end Go.Proofs.Ytjoamafcmknglaa

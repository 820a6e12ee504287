/-
  A wire's functions: Send. No conditions.
-/
import Derived.Test.YtjoamafcmknglaaWir3
namespace Go.Proofs.Ytjoamafcmknglaa
open Go.RowKit Go.Conc

def sendR (n : Nat) (G : Nat → Int) (Q : QS) (f t : Int) (b : List UInt8) : (Int × Int) × QS :=
  if inR n f = true then
    if t < n then
      if b.length ≤ 2048 then
        if 0 ≤ G f.toNat then
          if t < 0 then (((((allTo G f.toNat b Q n).2 : Nat) : Int), 0), (allTo G f.toNat b Q n).1)
          else if t ≠ f ∧ G t.toNat = G f.toNat then (if (Q t.toNat).length < 16 then (1, 0) else (0, 18), putQ Q t.toNat (f, b))
          else ((0, 14), Q)
        else ((0, 14), Q)
      else ((0, 3), Q)
    else ((0, 2), Q)
  else ((0, 2), Q)

def tup (p : Int × Int) : Value := .tuple #[.int .i64 p.1, .int .i64 p.2]

section
variable (S : Nat → Prop) (w : World) (lb n : Nat) (G : Nat → Int) (Q : QS) (h : WIRE S w lb n G Q) (hS : ∀ k, w.heap.size ≤ k → S k) (bo : Option Addr) (bl bc : Nat) (b : List UInt8) (hb : Inp S w bo bl bc b) (hn : n ≤ 32)
include h hS hb hn

set_option maxHeartbeats 1000000 in
set_option maxRecDepth 100000 in
theorem send_any (f t : Int) : Calls Try.prog 8 #[.pointer (some ⟨lb, 0, none⟩), .int .i64 f, .int .i64 t, .slice bo bl bc] w fun e w' => e = .returned (tup (sendR n G Q f t b).1) ∧ Hid (WIRE S w' lb n G (sendR n G Q f t b).2) ∧ Hid (Fr S w w') := by
  have hl := hb.len
  unfold tup
  cases hr : inR n f with
  | false =>
    have HW := wrong_out S w lb n G Q h f (inR_not hr)
    have H := hid h
    simp only [sendR, hr, Bool.false_eq_true, ↓reduceIte]
    clear h hr hb hS
    go_enter Try.func8, Try.ntmps8
    go_wp2_with (go_at_call 21; refine HW.out.mono ?_; rintro e w' ⟨rfl, rfl⟩)
    go_ret2
    exact ⟨rfl, H.out, Fr.refl _ _⟩
  | true =>
    obtain ⟨k, rfl, hk⟩ := inR_nat hr
    have HW := wrong_in S w lb n G Q h k hk
    have H := hid h
    obtain ⟨gb, gc, pb, pc, ch, q, hW, hQ⟩ := h
    obtain ⟨c0, c1, c2, c3⟩ := hW.cellsP
    have ck := c2 k hk
    have hkn : ((k : Int) < (n : Int)) := by omega
    by_cases ht : t < (n : Int)
    · have ht' : ¬ (n : Int) ≤ t := by omega
      by_cases h48 : bl ≤ 2048
      · by_cases hG : 0 ≤ G k
        · have hG' : ¬ G k < 0 := by omega
          by_cases ht0 : t < 0
          · have HA := hid (all_any S w lb n G Q H.out hS bo bl bc b hb k hk h48 hn)
            simp only [sendR, hr, ↓reduceIte, hl, h48, ht, hG, ht0, Int.toNat_natCast]
            obtain ⟨A, hA⟩ : ∃ A, A = allTo G k b Q n := ⟨_, rfl⟩
            rw [← hA] at HA ⊢
            clear hA hr hb hS hl hW hQ c2 c3 ht hG
            go_enter Try.func8, Try.ntmps8
            go_wp2_with (first
              | (go_at_call 21; refine HW.out.mono ?_; rintro e w' ⟨rfl, rfl⟩)
              | (go_at_call 22; refine HA.out.mono ?_; rintro e w1 ⟨rfl, h1, h2⟩)
              | fail)
            go_ret2
            exact ⟨rfl, h1, h2⟩
          · obtain ⟨j, rfl⟩ : ∃ j : Nat, t = j := ⟨t.toNat, by omega⟩
            have hj : j < n := by omega
            have cj := c2 j hj
            have HP : Hid (∀ m : Nat, Calls Try.prog 23 #[.pointer (some ⟨lb, 0, none⟩), .int .i64 j, .int .i64 k, .slice bo bl bc] (w.drewN m) fun e w' => e = .returned (.bool (decide ((Q j).length < 16))) ∧ Hid (WIRE S w' lb n G (putQ Q j ((k : Int), b))) ∧ Hid (Fr S w w')) := by
              intro m
              refine (put_any S (w.drewN m) lb n G Q (H.out.kept (T := fun _ => False) (Fr.drewN' w m) (fun _ _ h => h)) hS j hj k bo bl bc b (hb.kept (T := fun _ => False) (Fr.drewN' w m) (fun _ h => h.elim)).src hb.len h48 hb.nil).mono ?_
              rintro e w' ⟨he, h1, h2, h3⟩
              exact ⟨he, h1, (Fr.drewN' w m).trans h2.out⟩
            simp only [sendR, hr, ↓reduceIte, hl, h48, ht, hG, ht0, Int.toNat_natCast]
            clear hr hb hS hl hW hQ c2 c3 ht0 hG
            by_cases hjk : j = k
            · subst hjk
              have hne : (((j : Nat) : Int) == (j : Int)) = true := by simp
              rw [if_neg (fun h => h.1 rfl)]
              clear HP
              go_enter Try.func8, Try.ntmps8
              go_wp2_with (go_at_call 21; refine HW.out.mono ?_; rintro e w' ⟨rfl, rfl⟩)
              go_quiet (fail)
              go_wp2
              go_ret2
              exact ⟨rfl, H.out.kept (T := fun _ => False) (Fr.drewN' _ nq) (fun _ _ h => h), Fr.drewN' _ nq⟩
            · have hne : (((j : Nat) : Int) == (k : Int)) = false := by simp; omega
              by_cases hGG : G j = G k
              · rw [if_pos ⟨by omega, hGG⟩]
                have hGb : (G k != G k) = false := by simp
                rw [hGG] at cj
                cases hd : decide ((Q j).length < 16) with
                | true =>
                  have hd' := of_decide_eq_true hd
                  rw [hd] at HP
                  rw [if_pos hd']
                  clear hd hd'
                  go_enter Try.func8, Try.ntmps8
                  go_wp2_with (go_at_call 21; refine HW.out.mono ?_; rintro e w' ⟨rfl, rfl⟩)
                  go_quiet (fail)
                  go_wp2_with (go_at_call 23; refine (HP.out nq).mono ?_; rintro e w1 ⟨rfl, h1, h2⟩)
                  go_ret2
                  exact ⟨rfl, h1, h2⟩
                | false =>
                  have hd' := of_decide_eq_false hd
                  rw [hd] at HP
                  rw [if_neg hd']
                  clear hd hd'
                  go_enter Try.func8, Try.ntmps8
                  go_wp2_with (go_at_call 21; refine HW.out.mono ?_; rintro e w' ⟨rfl, rfl⟩)
                  go_quiet (fail)
                  go_wp2_with (go_at_call 23; refine (HP.out nq).mono ?_; rintro e w1 ⟨rfl, h1, h2⟩)
                  go_ret2
                  exact ⟨rfl, h1, h2⟩
              · rw [if_neg (fun h => hGG h.2)]
                have hGb : (G j != G k) = true := by simp [hGG]
                clear HP
                go_enter Try.func8, Try.ntmps8
                go_wp2_with (go_at_call 21; refine HW.out.mono ?_; rintro e w' ⟨rfl, rfl⟩)
                go_quiet (fail)
                go_wp2
                go_ret2
                exact ⟨rfl, H.out.kept (T := fun _ => False) (Fr.drewN' _ nq) (fun _ _ h => h), Fr.drewN' _ nq⟩
        · have hG' : G k < 0 := by omega
          simp only [sendR, hr, ↓reduceIte, hl, h48, ht, hG, Int.toNat_natCast]
          clear hr hb hS hl hW hQ c2 c3 hG
          go_enter Try.func8, Try.ntmps8
          go_wp2_with (go_at_call 21; refine HW.out.mono ?_; rintro e w' ⟨rfl, rfl⟩)
          go_ret2
          exact ⟨rfl, H.out, Fr.refl _ _⟩
      · simp only [sendR, hr, ↓reduceIte, hl, h48, ht]
        clear hr hb hS hl hW hQ c2 c3
        go_enter Try.func8, Try.ntmps8
        go_wp2_with (go_at_call 21; refine HW.out.mono ?_; rintro e w' ⟨rfl, rfl⟩)
        go_ret2
        exact ⟨rfl, H.out, Fr.refl _ _⟩
    · simp only [sendR, hr, ↓reduceIte, ht]
      clear hr hb hS hl hW hQ c2 c3
      go_enter Try.func8, Try.ntmps8
      go_wp2_with (go_at_call 21; refine HW.out.mono ?_; rintro e w' ⟨rfl, rfl⟩)
      go_ret2
      exact ⟨rfl, H.out, Fr.refl _ _⟩
end
end Go.Proofs.Ytjoamafcmknglaa

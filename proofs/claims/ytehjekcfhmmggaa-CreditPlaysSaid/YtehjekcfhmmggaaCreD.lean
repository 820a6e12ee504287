/-
  A scheduler's Charge and Over. No conditions.
-/
import Derived.Test.YtehjekcfhmmggaaCreC
namespace Go.Proofs.Ytehjekcfhmmggaa
open Go.RowKit

def chargeV (n : Nat) (s : CS) (i m : Int) : Int := if inR n i = false ∨ m < 0 ∨ 1048576 < m then 2 else if s.bs i.toNat = true then 0 else 14
def chargeN (per n : Nat) (s : CS) (i m : Int) : CS := if chargeV n s i m = 0 then (match findO s.L (s.rv i.toNat) with | some x => chargeS per s x i.toNat m | none => s) else s

theorem chargeV_zero {n : Nat} {s : CS} {i m : Int} (h : chargeV n s i m = 0) : inR n i = true ∧ 0 ≤ m ∧ m ≤ 1048576 ∧ s.bs i.toNat = true := by
  unfold chargeV at h
  split at h
  · exact absurd h (by show (2 : Int) ≠ 0; decide)
  · rename_i h1
    split at h
    · rename_i h2
      refine ⟨?_, by omega, by omega, h2⟩
      cases hb : inR n i with
      | true => rfl
      | false => exact absurd (.inl hb) h1
    · exact absurd h (by show (14 : Int) ≠ 0; decide)

theorem chargeN_ok {per n : Nat} {s : CS} (ok : OKs per n s) (i m : Int) : OKs per n (chargeN per n s i m) := by
  unfold chargeN
  split
  · rename_i h
    obtain ⟨_, h1, h2, _⟩ := chargeV_zero h
    cases findO s.L (s.rv i.toNat) with
    | none => exact ok
    | some x => exact ok.charge h1 h2
  · exact ok

section
variable (S : Nat → Prop) (w : World) (cb per n : Nat) (s : CS) (h : CR S w cb per n s) (ok : OKs per n s)
include h ok

set_option maxHeartbeats 1000000 in
set_option maxRecDepth 100000 in
theorem charge_yes (k : Nat) (hk : k < n) (hb : s.bs k = true) (m : Int) (m1 : 0 ≤ m) (m2 : m ≤ 1048576) (x : One) (hx : x ∈ s.L) (hxr : x.id = s.rv k) :
    Calls Try.prog 18 #[.pointer (some ⟨cb, 0, none⟩), .int .i64 (k : Int), .int .i64 m] w fun e w' => e = .returned (.int .i64 0) ∧ Hid (CR S w' cb per n (chargeS per s x k m)) ∧ Hid (Fr S w w') := by
  obtain ⟨l, h⟩ := h
  have hf := ok.find hx
  have hone := ok.one x hx
  have hwf := hone.1
  have HR := hid (running_yes S w cb l per n s h k ok.n8 hk hb (by rw [← hxr]; exact hwf) x (by rw [← hxr]; exact hf))
  rw [← hxr] at HR
  have hap := hid ok.apart
  have hxm := hid hx
  have hran := ok.ran k hk
  have hp2 := ok.p2
  have hcr : -(per : Int) ≤ x.credit ∧ x.credit ≤ per := ⟨hone.2.2.2.1, hone.2.2.2.2.1⟩
  have H := hid h
  have hk2 : ((k : Int) < (n : Int)) := by omega
  have t1 : (m < 0) = False := by simp; omega
  have t2 : (m > 1048576) = False := by simp; omega
  clear h ok hb hx hxr hf hone hwf
  go_enter Try.func18, Try.ntmps18
  go_wp2_with (first
    | (go_at_call 34; refine HR.out.mono ?_; rintro e w' ⟨rfl, mm, rfl⟩)
    | fail)
  have A0 := hid (H.out.of_heap (w' := w.drewN mm) (fun _ _ _ => rfl))
  have F0 : Hid (Fr S w (w.drewN mm)) := hid ((Fr.refl S w).drewM mm)
  generalize w.drewN mm = w0 at *
  obtain ⟨c0, c1, c2, c3, cf⟩ := A0.out.c
  obtain ⟨x0, x1, x2, x3, xf⟩ := A0.out.x hxm.out
  have xf := xf 3
  have hw1 : IntKind.i64.wrap (x.credit - m) = x.credit - m := IntWalk.i64_in _ (by omega)
  have hw2 : IntKind.i64.wrap (-(per : Int)) = -(per : Int) := IntWalk.i64_in _ (by omega)
  have hmax : Hid ((if x.credit - m < -(per : Int) then -(per : Int) else x.credit - m) = max (x.credit - m) (-(per : Int))) := hid (by split <;> omega)
  go_region
  obtain ⟨nc, hnc⟩ : ∃ nc, nc = if x.credit - m < -(per : Int) then -(per : Int) else x.credit - m := ⟨_, rfl⟩
  rw [← hnc] at hmax ⊢
  clear hnc
  obtain ⟨w1, hw⟩ : ∃ w1, w1 = (w0.setCell ⟨l.pb x.id, 3, none⟩ (.int .i64 nc)).drew := ⟨_, rfl⟩
  rw [← hw]
  have A1 := hid ((A0.out.setOne hxm.out hap.out 3 (.int .i64 nc) (fun y => { y with credit := max (y.credit - m) (-(per : Int)) }) (fun _ => rfl) (by rw [hmax.out]; rfl)).of_heap (w' := w1) (fun _ _ _ => by rw [hw]; rfl))
  have F1 : Hid (Fr S w w1) := hid (by rw [hw]; exact (F0.out.setCell (fun _ => A0.out.mine.2.2.2.2 x hxm.out) _).drew)
  clear hw
  clear c0 c1 c2 c3 cf x0 x1 x2 x3 xf hw1 hw2 A0 F0 HR
  obtain ⟨c0, c1, c2, c3, cf⟩ := A1.out.c
  obtain ⟨k0, k1, k2, k3, kf⟩ := A1.out.k hk
  have kf := kf (k * 4 + 3)
  dsimp only at c0 c1 c2 c3 k0 k1 k2 k3
  have hw3 : IntKind.i64.wrap (s.ran k + m) = s.ran k + m := IntWalk.i64_in _ (by omega)
  have hmine := hid A1.out.mine.2.1
  have hmin : Hid ((if 1048576 < s.ran k + m then (1048576 : Int) else s.ran k + m) = min (s.ran k + m) 1048576) := hid (by split <;> omega)
  go_wp2_with fail
  go_region
  obtain ⟨nr, hnr⟩ : ∃ nr, nr = if 1048576 < s.ran k + m then (1048576 : Int) else s.ran k + m := ⟨_, rfl⟩
  rw [← hnr] at hmin ⊢
  clear hnr
  have A2 := hid (A1.out.setRan hk nr)
  go_wp2_with fail
  go_ret
  refine ⟨rfl, ⟨l, ?_⟩, (F1.out.setCell (fun _ => hmine.out) _).drew⟩
  have := A2.out.of_heap (w' := (w1.setCell ⟨l.xb, k * 4 + 3, none⟩ (.int .i64 nr)).drew) (fun _ _ _ => rfl)
  rw [hmin.out] at this
  rw [hmin.out]
  exact this

set_option maxHeartbeats 1000000 in
theorem charge_out (i m : Int) (hi : inR n i = false) : Calls Try.prog 18 #[.pointer (some ⟨cb, 0, none⟩), .int .i64 i, .int .i64 m] w fun e w' => e = .returned (.int .i64 2) ∧ w = w' := by
  obtain ⟨l, h⟩ := h
  have HR := hid (running_out S w cb l per n s h i ok.n8 hi)
  clear h ok hi
  go_enter Try.func18, Try.ntmps18
  go_wp2_with (first | (go_at_call 34; refine HR.out.mono ?_; rintro e w' ⟨rfl, rfl⟩) | fail)
  go_ret
  exact ⟨rfl, rfl⟩

set_option maxHeartbeats 1000000 in
theorem charge_arg (k : Nat) (hk : k < n) (m : Int) (hm : m < 0 ∨ 1048576 < m) : Calls Try.prog 18 #[.pointer (some ⟨cb, 0, none⟩), .int .i64 (k : Int), .int .i64 m] w fun e w' => e = .returned (.int .i64 2) ∧ ∃ q, w' = w.drewN q := by
  obtain ⟨l, h⟩ := h
  cases hb : s.bs k with
  | false =>
    have HR := hid (running_no S w cb l per n s h k ok.n8 hk hb)
    clear h ok hb
    rcases hm with hm | hm
    · have hm' : (m < 0) = True := by simpa using hm
      clear hm
      go_enter Try.func18, Try.ntmps18
      go_wp2_with (first | (go_at_call 34; refine HR.out.mono ?_; rintro e w' ⟨rfl, rfl⟩) | fail)
      go_ret
      exact ⟨rfl, 0, rfl⟩
    · have hm' : ¬ (m < 0) := by omega
      go_enter Try.func18, Try.ntmps18
      go_wp2_with (first | (go_at_call 34; refine HR.out.mono ?_; rintro e w' ⟨rfl, rfl⟩) | fail)
      go_ret
      exact ⟨rfl, 0, rfl⟩
  | true =>
    obtain ⟨x, hx, _, _, _, hf, hwf⟩ := ok.runner hk hb
    have HR := hid (running_yes S w cb l per n s h k ok.n8 hk hb hwf x hf)
    clear h ok hb hx hf hwf
    rcases hm with hm | hm
    · have hm' : (m < 0) = True := by simpa using hm
      clear hm
      go_enter Try.func18, Try.ntmps18
      go_wp2_with (first | (go_at_call 34; refine HR.out.mono ?_; rintro e w' ⟨rfl, q, rfl⟩) | fail)
      go_ret
      exact ⟨rfl, q, rfl⟩
    · have hm' : ¬ (m < 0) := by omega
      go_enter Try.func18, Try.ntmps18
      go_wp2_with (first | (go_at_call 34; refine HR.out.mono ?_; rintro e w' ⟨rfl, q, rfl⟩) | fail)
      go_ret
      exact ⟨rfl, q, rfl⟩

set_option maxHeartbeats 1000000 in
theorem charge_idle (k : Nat) (hk : k < n) (hb : s.bs k = false) (m : Int) (m1 : 0 ≤ m) (m2 : m ≤ 1048576) : Calls Try.prog 18 #[.pointer (some ⟨cb, 0, none⟩), .int .i64 (k : Int), .int .i64 m] w fun e w' => e = .returned (.int .i64 14) ∧ w = w' := by
  obtain ⟨l, h⟩ := h
  have HR := hid (running_no S w cb l per n s h k ok.n8 hk hb)
  have t1 : ¬ (m < 0) := by omega
  have t2 : ¬ (m > 1048576) := by omega
  clear h ok hb
  go_enter Try.func18, Try.ntmps18
  go_wp2_with (first | (go_at_call 34; refine HR.out.mono ?_; rintro e w' ⟨rfl, rfl⟩) | fail)
  go_ret
  exact ⟨rfl, rfl⟩

/-- Charge, whatever the arguments. -/
theorem charge_t (i m : Int) : Calls Try.prog 18 #[.pointer (some ⟨cb, 0, none⟩), .int .i64 i, .int .i64 m] w fun e w' => e = .returned (.int .i64 (chargeV n s i m)) ∧ Hid (CR S w' cb per n (chargeN per n s i m)) ∧ Hid (Fr S w w') := by
  cases h3 : inR n i with
  | false =>
    have e1 : chargeV n s i m = 2 := by unfold chargeV; rw [if_pos (.inl h3)]
    have e2 : chargeN per n s i m = s := by unfold chargeN; rw [e1, if_neg (by decide)]
    rw [e1, e2]
    refine (charge_out S w cb per n s h ok i m h3).mono ?_
    rintro e w' ⟨rfl, rfl⟩
    exact ⟨rfl, h, Fr.refl _ _⟩
  | true =>
    obtain ⟨k, rfl, hk⟩ := inR_nat h3
    by_cases hm : m < 0 ∨ 1048576 < m
    · have e1 : chargeV n s (k : Int) m = 2 := by unfold chargeV; rw [if_pos (.inr hm)]
      have e2 : chargeN per n s (k : Int) m = s := by unfold chargeN; rw [e1, if_neg (by decide)]
      rw [e1, e2]
      refine (charge_arg S w cb per n s h ok k hk m hm).mono ?_
      rintro e w' ⟨rfl, q, rfl⟩
      exact ⟨rfl, h.kept ((Fr.refl (fun _ => False) w).drewM q) (fun _ _ _ h => h), (Fr.refl _ _).drewM q⟩
    · have hn : ¬ (inR n (k : Int) = false ∨ m < 0 ∨ 1048576 < m) := by rw [h3]; simp; omega
      cases hb : s.bs k with
      | false =>
        have e1 : chargeV n s (k : Int) m = 14 := by unfold chargeV; rw [if_neg hn, if_neg (by rw [show (k : Int).toNat = k from rfl, hb]; decide)]
        have e2 : chargeN per n s (k : Int) m = s := by unfold chargeN; rw [e1, if_neg (by decide)]
        rw [e1, e2]
        refine (charge_idle S w cb per n s h ok k hk hb m (by omega) (by omega)).mono ?_
        rintro e w' ⟨rfl, rfl⟩
        exact ⟨rfl, h, Fr.refl _ _⟩
      | true =>
        obtain ⟨x, hx, e1, _, _, hf, _⟩ := ok.runner hk hb
        have e2 : chargeV n s (k : Int) m = 0 := by unfold chargeV; rw [if_neg hn, if_pos (show s.bs (k : Int).toNat = true from hb)]
        have e3 : chargeN per n s (k : Int) m = chargeS per s x k m := by unfold chargeN; rw [e2, if_pos rfl, show (k : Int).toNat = k from rfl, hf]
        rw [e2, e3]
        exact charge_yes S w cb per n s h ok k hk hb m (by omega) (by omega) x hx e1

def overB (per n : Nat) (s : CS) (i : Int) : Bool :=
  if inR n i = true ∧ s.bs i.toNat = true then
    (decide (per ≤ s.ran i.toNat) && decide (0 < (s.Q i.toNat).length)) || (match findO s.L (s.rv i.toNat) with | some x => decide (x.credit < 0) && (s.Q i.toNat).any (underP s) | none => false)
  else false
end
end Go.Proofs.Ytehjekcfhmmggaa

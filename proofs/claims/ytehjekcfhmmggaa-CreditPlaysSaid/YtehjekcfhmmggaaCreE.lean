/-
  A scheduler's Over. No conditions.
-/
import Derived.Test.YtehjekcfhmmggaaCreD
namespace Go.Proofs.Ytehjekcfhmmggaa
open Go.RowKit

section
variable (S : Nat → Prop) (w : World) (cb per n : Nat) (s : CS) (h : CR S w cb per n s) (ok : OKs per n s)
include h ok

set_option maxHeartbeats 1000000 in
theorem over_no (i : Int) (hno : inR n i = false ∨ s.bs i.toNat = false) : Calls Try.prog 19 #[.pointer (some ⟨cb, 0, none⟩), .int .i64 i] w fun e w' => e = .returned (.bool false) ∧ w = w' := by
  obtain ⟨l, h⟩ := h
  cases h3 : inR n i with
  | false =>
    have HR := hid (running_out S w cb l per n s h i ok.n8 h3)
    clear h ok h3 hno
    go_enter Try.func19, Try.ntmps19
    go_wp2_with (first | (go_at_call 34; refine HR.out.mono ?_; rintro e w' ⟨rfl, rfl⟩) | fail)
    go_ret
    exact ⟨rfl, rfl⟩
  | true =>
    obtain ⟨k, rfl, hk⟩ := inR_nat h3
    have hb : s.bs k = false := by
      rcases hno with h | h
      · rw [h3] at h; cases h
      · exact h
    have HR := hid (running_no S w cb l per n s h k ok.n8 hk hb)
    clear h ok h3 hno hb
    go_enter Try.func19, Try.ntmps19
    go_wp2_with (first | (go_at_call 34; refine HR.out.mono ?_; rintro e w' ⟨rfl, rfl⟩) | fail)
    go_ret
    exact ⟨rfl, rfl⟩

omit h ok in
/-- What Over's last statement reads. -/
structure OvR (w : World) (cb : Nat) (p : Nat) (per : Nat) (credit : Int) (ob : Nat) (ao : Option Addr) (len ac : Nat) (ran : Int) : Prop where
  c0 : w.cell? ⟨cb, 0, none⟩ = some (.int .i64 per)
  x3 : w.cell? ⟨p, 3, none⟩ = some (.int .i64 credit)
  o0 : w.cell? ⟨ob, 0, none⟩ = some (.slice ao len ac)
  o3 : w.cell? ⟨ob, 3, none⟩ = some (.int .i64 ran)

set_option maxHeartbeats 2000000 in
set_option maxRecDepth 100000 in
theorem over_yes (k : Nat) (hk : k < n) (hb : s.bs k = true) (x : One) (hx : x ∈ s.L) (hxr : x.id = s.rv k) (B : Bool) (hB : B = ((decide ((per : Int) ≤ s.ran k) && decide (0 < (s.Q k).length)) || (decide (x.credit < 0) && (s.Q k).any (underP s)))) :
    Calls Try.prog 19 #[.pointer (some ⟨cb, 0, none⟩), .int .i64 (k : Int)] w fun e w' => e = .returned (.bool B) ∧ Hid (Fr (fun _ => False) w w') := by
  obtain ⟨l, h⟩ := h
  have hf := ok.find hx
  have hwf := (ok.one x hx).1
  have HR := hid (running_yes S w cb l per n s h k ok.n8 hk hb (by rw [← hxr]; exact hwf) x (by rw [← hxr]; exact hf))
  rw [← hxr] at HR
  have hk2 : ((k : Int) < (n : Int)) := by omega
  have HCt : Hid (∀ W, Fr (fun _ => False) w W → Calls Try.prog 35 #[.slice (l.qa k) (s.Q k).length (l.qc k), .func (.func 31) #[.pointer (some ⟨cb, 0, none⟩)] #[]] W fun e w' => e = .returned (.bool ((s.Q k).any (underP s))) ∧ w' = W) := hid (fun W hF => by
    have hW := h.kept hF (fun _ _ _ h => h)
    have hol := owns_len (hW.queue k hk)
    exact (containsFunc W (l.qa k) (l.qc k) (s.Q k) (RdI.of_owns (hW.queue k hk)) hol.2.1 hol.2.2.1 31 _ #[] (underP s) (enters_of Try.func31 (by kernel_rfl) rfl) (fn_under S W cb per n s ok hW k hk)).mono fun _ _ h => ⟨h.1, h.2.symm⟩)
  obtain ⟨A, hA⟩ : ∃ A, A = (s.Q k).any (underP s) := ⟨_, rfl⟩
  rw [← hA] at HCt hB
  have hQ0 : Hid ((s.Q k).length = 0 → A = false) := hid (fun e => by rw [hA, List.eq_nil_of_length_eq_zero e]; rfl)
  have H := hid h
  have hxm := hid hx
  have HB := hid hB
  clear h ok hb hx hxr hf hwf hA hB
  go_enter Try.func19, Try.ntmps19
  go_upto_region 4 with (first | (go_at_call 34; refine HR.out.mono ?_; rintro e w' ⟨rfl, m, rfl⟩) | fail)
  have A0 := hid (H.out.of_heap (w' := w.drewN m) (fun _ _ _ => rfl))
  have F0 : Hid (Fr (fun _ => False) w (w.drewN m)) := hid ((Fr.refl _ w).drewM m)
  generalize w.drewN m = w0 at *
  obtain ⟨c0, c1, c2, c3, cf⟩ := A0.out.c
  obtain ⟨k0, k1, k2, k3, kf⟩ := A0.out.k hk
  obtain ⟨x0, x1, x2, x3, xf⟩ := A0.out.x hxm.out
  go_upto_region 5 with fail
  have R0 : Hid (OvR (w0.alloc (.cells #[.slice (l.qa k) (s.Q k).length (l.qc k), .int .i64 (s.rv k), .bool (s.bs k), .int .i64 (s.ran k)] 67)) cb (l.pb x.id) per x.credit w0.heap.size (l.qa k) (s.Q k).length (l.qc k) (s.ran k)) := hid (by
    have hn := heap_alloc_new w0 (.cells #[.slice (l.qa k) (s.Q k).length (l.qc k), .int .i64 (s.rv k), .bool (s.bs k), .int .i64 (s.ran k)] 67)
    exact ⟨(World.cell?_of_block (a := ⟨cb, 0, none⟩) (Below.heap_alloc w0 _ _ (block_lt_of_cell c0))).trans c0, (World.cell?_of_block (a := ⟨l.pb x.id, 3, none⟩) (Below.heap_alloc w0 _ _ (block_lt_of_cell x3))).trans x3, (cell_at hn).trans rfl, (cell_at hn).trans rfl⟩)
  have F1 : Hid (Fr (fun _ => False) w (w0.alloc (.cells #[.slice (l.qa k) (s.Q k).length (l.qc k), .int .i64 (s.rv k), .bool (s.bs k), .int .i64 (s.ran k)] 67))) := hid (F0.out.alloc _)
  generalize (w0.alloc (.cells #[.slice (l.qa k) (s.Q k).length (l.qc k), .int .i64 (s.rv k), .bool (s.bs k), .int .i64 (s.ran k)] 67)) = w1 at *
  obtain ⟨d0, d1, d2, d3⟩ := R0.out
  have HCq := hid (fun m => HCt.out (w1.drewN m) (F1.out.drewM m))
  clear c0 c1 c2 c3 cf k0 k1 k2 k3 kf x0 x1 x2 x3 xf A0 F0 HR HCt H hxm R0 hk hk2
  generalize w0.heap.size = ob at *
  generalize (s.Q k).length = len at *
  generalize l.qa k = ao at *
  generalize l.qc k = ac at *
  generalize s.ran k = ran at *
  generalize s.rv k = rv at *
  generalize s.bs k = bs at *
  generalize l.pb x.id = pb at *
  generalize x.credit = credit at *
  by_cases t1 : (per : Int) ≤ ran
  · by_cases t2 : 0 < len
    · have hb : Hid (B = true) := hid (by rw [HB.out, decide_eq_true t1, decide_eq_true t2]; rfl)
      have t2' : (0 : Int) < (len : Int) := by omega
      clear HB hQ0
      go_quiet (fail)
      go_wp2_with fail
      go_ret
      exact ⟨by rw [hb.out]; rfl, F1.out.drewM _⟩
    · obtain rfl : len = 0 := by omega
      obtain rfl := hQ0.out rfl
      have HB0 : Hid (B = false) := hid (by rw [HB.out, decide_eq_false t2, Bool.and_false, Bool.and_false]; rfl)
      by_cases t3 : credit < 0
      · have hb := HB0
        clear HB hQ0 t2
        go_quiet ((go_at_call 35; exact Calls.quiet_of_same (HCq.out _)))
        go_wp2_with fail
        go_ret
        exact ⟨by rw [hb.out]; rfl, F1.out.drewM _⟩
      · have d3f : decide (credit < 0) = false := decide_eq_false t3
        have hb := HB0
        clear HB hQ0 t2 t3
        go_quiet (fail)
        go_wp2_with fail
        go_ret
        exact ⟨by rw [hb.out]; rfl, F1.out.drewM _⟩
  · have d1f : decide ((per : Int) ≤ ran) = false := decide_eq_false t1
    by_cases t3 : credit < 0
    · cases A with
      | true =>
        have hb : Hid (B = true) := hid (by rw [HB.out, d1f, decide_eq_true t3]; rfl)
        clear HB hQ0 t1
        go_quiet ((go_at_call 35; exact Calls.quiet_of_same (HCq.out _)))
        go_wp2_with fail
        go_ret
        exact ⟨by rw [hb.out]; rfl, F1.out.drewM _⟩
      | false =>
        have hb : Hid (B = false) := hid (by rw [HB.out, d1f, decide_eq_true t3]; rfl)
        clear HB hQ0 t1
        go_quiet ((go_at_call 35; exact Calls.quiet_of_same (HCq.out _)))
        go_wp2_with fail
        go_ret
        exact ⟨by rw [hb.out]; rfl, F1.out.drewM _⟩
    · have d3f : decide (credit < 0) = false := decide_eq_false t3
      have hb : Hid (B = false) := hid (by rw [HB.out, d1f, d3f]; rfl)
      clear HB hQ0 t1 t3
      go_quiet (fail)
      go_wp2_with fail
      go_ret
      exact ⟨by rw [hb.out]; rfl, F1.out.drewM _⟩
end
end Go.Proofs.Ytehjekcfhmmggaa

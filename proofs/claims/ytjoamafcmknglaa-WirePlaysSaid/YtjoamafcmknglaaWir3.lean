/-
  A wire's functions: Inject, all, Send. No conditions.
-/
import Derived.Test.YtjoamafcmknglaaWir2
import Derived.Deep.RegionHeld3
import Derived.Deep.LoopGhost
namespace Go.Proofs.Ytjoamafcmknglaa
open Go.RowKit Go.Conc

/-- Bytes that are given to a wire whose blocks are S. -/
structure Inp (S : Nat → Prop) (w : World) (bo : Option Addr) (bl bc : Nat) (b : List UInt8) : Prop where
  src : Src w bo b
  len : b.length = bl
  nil : bo = none → bc = 0
  far : ∀ ad, bo = some ad → b ≠ [] → ¬ S ad.block

theorem Inp.kept {S T : Nat → Prop} {w w' : World} {bo : Option Addr} {bl bc : Nat} {b : List UInt8} (h : Inp S w bo bl bc b) (hf : Fr T w w') (hT : ∀ k, T k → S k) : Inp S w' bo bl bc b := by
  refine ⟨⟨h.src.nil, fun ad had j u hu => ?_⟩, h.len, h.nil, h.far⟩
  have hc := h.src.cells ad had j u hu
  have hb : b ≠ [] := by intro e; subst e; cases hu
  have hblk : (ad.add j).block = ad.block := by unfold Addr.add; split <;> rfl
  have hl := block_lt_of_cell hc
  rw [World.cell?_of_block (hf.block _ hl (fun ht => h.far ad had hb (by rw [← hblk]; exact hT _ ht)))]
  exact hc

abbrev QS := Nat → List (Int × List UInt8)
def inR (n : Nat) (i : Int) : Bool := decide (0 ≤ i ∧ i < n)
theorem inR_nat {n : Nat} {i : Int} (h : inR n i = true) : ∃ k : Nat, i = k ∧ k < n := by
  unfold inR at h
  have := of_decide_eq_true h
  exact ⟨i.toNat, by omega, by omega⟩
theorem inR_not {n : Nat} {i : Int} (h : inR n i = false) : i < 0 ∨ (n : Int) ≤ i := by
  unfold inR at h
  have := of_decide_eq_false h
  omega

def injR (n : Nat) (Q : QS) (i : Int) (b : List UInt8) : Int × QS :=
  if inR n i = true then if b.length ≤ 2048 then (if (Q i.toNat).length < 16 then 0 else 18, putQ Q i.toNat (-1, b)) else (3, Q) else (2, Q)

section
variable (S : Nat → Prop) (w : World) (lb n : Nat) (G : Nat → Int) (Q : QS) (h : WIRE S w lb n G Q) (hS : ∀ k, w.heap.size ≤ k → S k) (bo : Option Addr) (bl bc : Nat) (b : List UInt8) (hb : Inp S w bo bl bc b)
include h hS hb

set_option maxHeartbeats 400000 in
theorem inject_any (i : Int) : Calls Try.prog 11 #[.pointer (some ⟨lb, 0, none⟩), .int .i64 i, .slice bo bl bc] w fun e w' => e = .returned (.int .i64 (injR n Q i b).1) ∧ Hid (WIRE S w' lb n G (injR n Q i b).2) ∧ Hid (Fr S w w') := by
  cases hr : inR n i with
  | false =>
    have HW := wrong_out S w lb n G Q h i (inR_not hr)
    have H := hid h
    simp only [injR, hr, Bool.false_eq_true, ↓reduceIte]
    clear h hr hb hS
    go_enter Try.func11, Try.ntmps11
    go_wp2_with (go_at_call 21; refine HW.out.mono ?_; rintro e w' ⟨rfl, rfl⟩)
    go_ret
    exact ⟨rfl, H.out, Fr.refl _ _⟩
  | true =>
    obtain ⟨k, rfl, hk⟩ := inR_nat hr
    have HW := wrong_in S w lb n G Q h k hk
    have H := hid h
    have hl := hb.len
    by_cases h48 : bl ≤ 2048
    · have HP := hid (put_any S w lb n G Q h hS k hk (-1) bo bl bc b hb.src hb.len h48 hb.nil)
      simp only [injR, hr, ↓reduceIte, hl, h48, Int.toNat_natCast]
      clear h hr hb hS hl
      cases hd : decide ((Q k).length < 16) with
      | true =>
        have hd' := of_decide_eq_true hd
        rw [hd] at HP
        simp only [if_pos hd']
        clear hd hd'
        go_enter Try.func11, Try.ntmps11
        go_wp2_with (first
          | (go_at_call 21; refine HW.out.mono ?_; rintro e w' ⟨rfl, rfl⟩)
          | (go_at_call 23; refine HP.out.mono ?_; rintro e w1 ⟨rfl, h1, h2, h3⟩)
          | fail)
        go_ret
        exact ⟨rfl, h1, h2⟩
      | false =>
        have hd' := of_decide_eq_false hd
        rw [hd] at HP
        simp only [if_neg hd']
        clear hd hd'
        go_enter Try.func11, Try.ntmps11
        go_wp2_with (first
          | (go_at_call 21; refine HW.out.mono ?_; rintro e w' ⟨rfl, rfl⟩)
          | (go_at_call 23; refine HP.out.mono ?_; rintro e w1 ⟨rfl, h1, h2, h3⟩)
          | fail)
        go_ret
        exact ⟨rfl, h1, h2⟩
    · simp only [injR, hr, ↓reduceIte, hl, h48]
      clear h hr hb hS hl
      go_enter Try.func11, Try.ntmps11
      go_wp2_with (go_at_call 21; refine HW.out.mono ?_; rintro e w' ⟨rfl, rfl⟩)
      go_ret
      exact ⟨rfl, H.out, Fr.refl _ _⟩
end

/-! ### to all -/
def allStep (G : Nat → Int) (f : Nat) (b : List UInt8) (s : QS × Nat) (j : Nat) : QS × Nat :=
  if j ≠ f ∧ G j = G f then (putQ s.1 j ((f : Int), b), s.2 + if (s.1 j).length < 16 then 1 else 0) else s
def allTo (G : Nat → Int) (f : Nat) (b : List UInt8) (Q : QS) : Nat → QS × Nat
  | 0 => (Q, 0)
  | j + 1 => allStep G f b (allTo G f b Q j) j

theorem allTo_le (G : Nat → Int) (f : Nat) (b : List UInt8) (Q : QS) : ∀ j, (allTo G f b Q j).2 ≤ j
  | 0 => Nat.le_refl _
  | j + 1 => by
    have := allTo_le G f b Q j
    unfold allTo allStep
    split
    · dsimp only; split <;> omega
    · omega

theorem Fr.drewN' {S : Nat → Prop} (w : World) (k : Nat) : Fr S w (w.drewN k) := ⟨rfl, rfl, rfl, Nat.le_refl _, fun _ _ _ => rfl⟩

def AllI (S : Nat → Prop) (w : World) (lb n : Nat) (G : Nat → Int) (f : Nat) (b : List UInt8) (Q : QS) (g : Nat) (vc vi : Value) (wr : World) : Prop :=
  ∃ j, j ≤ n ∧ g = n - j ∧ vi = .int .i64 j ∧ vc = .int .i64 (allTo G f b Q j).2 ∧ WIRE S wr lb n G (allTo G f b Q j).1 ∧ Fr S w wr

section
variable (S : Nat → Prop) (w : World) (lb n : Nat) (G : Nat → Int) (Q : QS) (h : WIRE S w lb n G Q) (hS : ∀ k, w.heap.size ≤ k → S k) (bo : Option Addr) (bl bc : Nat) (b : List UInt8) (hb : Inp S w bo bl bc b)
include h hS hb

set_option maxHeartbeats 1000000 in
set_option maxRecDepth 100000 in
theorem all_any (f : Nat) (hf : f < n) (h48 : bl ≤ 2048) (hn : n ≤ 32) : Calls Try.prog 22 #[.pointer (some ⟨lb, 0, none⟩), .int .i64 f, .slice bo bl bc] w fun e w' => e = .returned (.int .i64 (allTo G f b Q n).2) ∧ Hid (WIRE S w' lb n G (allTo G f b Q n).1) ∧ Hid (Fr S w w') := by
  have H := hid h
  have HS := hid hS
  have HB := hid hb
  obtain ⟨gb, gc, pb, pc, ch, q, hW, hQ⟩ := h
  have c1 := hW.cellsP.2.1
  clear hW hQ hb hS
  go_enter Try.func22, Try.ntmps22
  go_wp2_with fail
  go_loopg [7, 14] n (fun g vc vi wr => AllI S w lb n G f b Q g vc vi wr)
  case atStart => exact ⟨0, Nat.zero_le _, rfl, rfl, rfl, H.out, Fr.refl _ _⟩
  case round =>
    obtain ⟨j, hj, rfl, rfl, rfl, hWr, hF⟩ := hrel
    by_cases hjn : j < n
    · have hcnt := allTo_le G f b Q j
      obtain ⟨cnt, ecnt⟩ : ∃ cnt, cnt = (allTo G f b Q j).2 := ⟨_, rfl⟩
      have hsz := hF.size
      have hSr : ∀ k, wr.heap.size ≤ k → S k := fun k hk => HS.out k (Nat.le_trans hsz hk)
      have hbr := HB.out.kept hF (fun _ h => h)
      have HP := hid (put_any S wr lb n G _ hWr hSr j hjn f bo bl bc b hbr.src hbr.len h48 hbr.nil)
      have HWr := hid hWr
      have HF := hid hF
      obtain ⟨gb', gc', pb', pc', ch', q', hW', hQ'⟩ := hWr
      obtain ⟨d0, d1, d2, d3⟩ := hW'.cellsP
      have d4 := d2 j hjn
      have d5 := d2 f hf
      have e1 : ((j : Int) < (n : Int)) := by omega
      have e2 : ((f : Int) < (n : Int)) := by omega
      rw [← ecnt] at hcnt ⊢
      have Ecnt := hid ecnt
      have Hsz := hid hsz
      clear hW' hQ' d2 d3 d1 hSr hbr hF ecnt hsz
      by_cases hjf : j = f
      · have hstep : Hid (allTo G f b Q (j + 1) = allTo G f b Q j) := by unfold Hid; rw [allTo, allStep, if_neg (by omega)]
        have hne : (((j : Nat) : Int) != (f : Int)) = false := by simp [hjf]
        clear HP
        go_wp2_with fail
        go_quiet (fail)
        go_wp2
        go_roundg (n - (j + 1))
        case measure => omega
        case rel => exact ⟨j + 1, by omega, rfl, by go_num, by rw [hstep.out, ← Ecnt.out], by rw [hstep.out]; exact HWr.out.kept (T := fun _ => False) (Fr.drewN' _ nq) (fun _ _ h => h), HF.out.trans (Fr.drewN' _ nq)⟩
      · have hne : (((j : Nat) : Int) != (f : Int)) = true := by simp; omega
        by_cases hG : G j = G f
        · have hstep : Hid (allTo G f b Q (j + 1) = (putQ (allTo G f b Q j).1 j ((f : Int), b), cnt + if ((allTo G f b Q j).1 j).length < 16 then 1 else 0)) := by unfold Hid; rw [allTo, allStep, if_pos ⟨hjf, hG⟩, Ecnt.out]
          rw [← hG] at d5
          have HP2 : Hid (Calls Try.prog 23 #[.pointer (some ⟨lb, 0, none⟩), .int .i64 j, .int .i64 f, .slice bo bl bc] wr.drew fun e w' => e = .returned (.bool (decide (((allTo G f b Q j).1 j).length < 16))) ∧ Hid (WIRE S w' lb n G (putQ (allTo G f b Q j).1 j ((f : Int), b))) ∧ Hid (Fr S wr.drew w') ∧ Hid (Keeps wr.drew w')) := by
            have hF0 : Fr (fun _ => False) wr wr.drew := (Fr.refl _ _).drew
            exact put_any S wr.drew lb n G _ (HWr.out.kept hF0 (fun _ _ h => h)) (fun k hk => HS.out k (Nat.le_trans Hsz.out hk)) j hjn f bo bl bc b ((HB.out.kept HF.out (fun _ h => h)).kept hF0 (fun _ h => h.elim)).src HB.out.len h48 HB.out.nil
          cases hd : decide (((allTo G f b Q j).1 j).length < 16) with
          | true =>
            rw [hd] at HP2
            have hd' := hid (of_decide_eq_true hd)
            clear HP hd
            go_wp2_with fail
            go_region_held3 (fun w' => w'.cell? ⟨lb, 0, none⟩ = some (.slice (some ⟨gb', 0, none⟩) n gc') ∧ w'.cell? ⟨gb', j, none⟩ = some (.int .i64 (G j)) ∧ w'.cell? ⟨gb', f, none⟩ = some (.int .i64 (G j))) (first | exact ⟨d0, d4, d5⟩ | exact ⟨d0', d4', d5'⟩) (first
              | (go_at_call 23; refine HP2.out.mono ?_; rintro e w1 ⟨rfl, h1, h2, h3⟩; have d0' : w1.cell? ⟨lb, 0, none⟩ = some (.slice (some ⟨gb', 0, none⟩) n gc') := h3.out.cell d0; have d4' : w1.cell? ⟨gb', j, none⟩ = some (.int .i64 (G j)) := h3.out.cell d4; have d5' : w1.cell? ⟨gb', f, none⟩ = some (.int .i64 (G j)) := h3.out.cell d5))
            all_goals go_wp2
            all_goals go_roundg (n - (j + 1))
            case measure => omega
            case rel => exact ⟨j + 1, by omega, rfl, by go_num, by rw [hstep.out]; simp [hd'.out], by rw [hstep.out]; exact h1.out, HF.out.trans ((Fr.drew (Fr.refl S wr)).trans h2.out)⟩
          | false =>
            rw [hd] at HP2
            have hd' := hid (of_decide_eq_false hd)
            clear HP hd
            go_wp2_with fail
            go_region_held3 (fun w' => w'.cell? ⟨lb, 0, none⟩ = some (.slice (some ⟨gb', 0, none⟩) n gc') ∧ w'.cell? ⟨gb', j, none⟩ = some (.int .i64 (G j)) ∧ w'.cell? ⟨gb', f, none⟩ = some (.int .i64 (G j))) (first | exact ⟨d0, d4, d5⟩ | exact ⟨d0', d4', d5'⟩) (first
              | (go_at_call 23; refine HP2.out.mono ?_; rintro e w1 ⟨rfl, h1, h2, h3⟩; have d0' : w1.cell? ⟨lb, 0, none⟩ = some (.slice (some ⟨gb', 0, none⟩) n gc') := h3.out.cell d0; have d4' : w1.cell? ⟨gb', j, none⟩ = some (.int .i64 (G j)) := h3.out.cell d4; have d5' : w1.cell? ⟨gb', f, none⟩ = some (.int .i64 (G j)) := h3.out.cell d5))
            all_goals go_wp2
            all_goals go_roundg (n - (j + 1))
            case measure => omega
            case rel => exact ⟨j + 1, by omega, rfl, by go_num, by rw [hstep.out]; simp [hd'.out], by rw [hstep.out]; exact h1.out, HF.out.trans ((Fr.drew (Fr.refl S wr)).trans h2.out)⟩
        · have hstep : Hid (allTo G f b Q (j + 1) = allTo G f b Q j) := by unfold Hid; rw [allTo, allStep, if_neg (fun h => hG h.2)]
          have hGb : (G j == G f) = false := by simp [hG]
          clear HP
          go_wp2_with fail
          go_quiet (fail)
          go_wp2
          go_roundg (n - (j + 1))
          case measure => omega
          case rel => exact ⟨j + 1, by omega, rfl, by go_num, by rw [hstep.out, ← Ecnt.out], by rw [hstep.out]; exact HWr.out.kept (T := fun _ => False) (Fr.drewN' _ nq) (fun _ _ h => h), HF.out.trans (Fr.drewN' _ nq)⟩
    · obtain rfl : j = n := by omega
      have HWr := hid hWr
      have HF := hid hF
      clear hWr hF
      go_wp2
      go_ret
      exact ⟨rfl, HWr.out, HF.out⟩
end
end Go.Proofs.Ytjoamafcmknglaa

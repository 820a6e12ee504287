/-
  A scheduler's Over, whatever the core, and Refill. No conditions.
-/
import Derived.Test.YtehjekcfhmmggaaCreE
import Derived.Maps.RangeWalk
namespace Go.Proofs.Ytehjekcfhmmggaa
open Go.RowKit

/-- Over, whatever the core. -/
theorem over_t (S : Nat → Prop) (w : World) (cb per n : Nat) (s : CS) (h : CR S w cb per n s) (ok : OKs per n s) (i : Int) :
    Calls Try.prog 19 #[.pointer (some ⟨cb, 0, none⟩), .int .i64 i] w fun e w' => e = .returned (.bool (overB per n s i)) ∧ Hid (Fr (fun _ => False) w w') := by
  by_cases hyes : inR n i = true ∧ s.bs i.toNat = true
  · obtain ⟨h3, hb⟩ := hyes
    obtain ⟨k, rfl, hk⟩ := inR_nat h3
    obtain ⟨x, hx, e1, _, _, hf, _⟩ := ok.runner hk hb
    refine over_yes S w cb per n s h ok k hk hb x hx e1 _ ?_
    unfold overB
    rw [if_pos ⟨h3, hb⟩, show (k : Int).toNat = k from rfl, hf]
  · have e : overB per n s i = false := by unfold overB; rw [if_neg hyes]
    rw [e]
    have hno : inR n i = false ∨ s.bs i.toNat = false := by
      cases h1 : inR n i with
      | false => exact .inl rfl
      | true => cases h2 : s.bs i.toNat with
        | false => exact .inr rfl
        | true => exact absurd ⟨h1, h2⟩ hyes
    refine (over_no S w cb per n s h ok i hno).mono ?_
    rintro e w' ⟨rfl, rfl⟩
    exact ⟨rfl, Fr.refl _ _⟩

/-- In the loop of Refill: those that are no longer to come have been given. -/
def fillL (per sum : Nat) (left : Lit → Bool) (L : List One) : List One := L.map fun x => if left (.int .i64 x.id) = true then x else fillO per sum x

theorem fillL_start {per sum : Nat} {left : Lit → Bool} {L : List One} (h : ∀ x ∈ L, left (.int .i64 x.id) = true) : fillL per sum left L = L := by
  unfold fillL
  rw [List.map_congr_left (g := _root_.id) (fun x hx => by rw [if_pos (h x hx)]; rfl)]
  simp
theorem fillL_end {per sum : Nat} {left : Lit → Bool} {L : List One} (h : ∀ kl, left kl = false) : fillL per sum left L = L.map (fillO per sum) := by
  unfold fillL
  exact List.map_congr_left (fun x _ => by rw [h]; rfl)
theorem fillL_mem {per sum : Nat} {left : Lit → Bool} {L : List One} {x : One} (hx : x ∈ L) (h : left (.int .i64 x.id) = true) : x ∈ fillL per sum left L :=
  List.mem_map.2 ⟨x, hx, by rw [if_pos h]⟩
theorem fillO_id (per sum : Nat) (x : One) : (fillO per sum x).id = x.id := rfl
theorem fillL_ids (per sum : Nat) (left : Lit → Bool) (L : List One) : (fillL per sum left L).map (·.id) = L.map (·.id) := by
  unfold fillL
  rw [List.map_map]
  apply List.map_congr_left
  intro x _
  show (if left (.int .i64 x.id) = true then x else fillO per sum x).id = x.id
  split <;> rfl
theorem fillL_step {per sum : Nat} {left : Lit → Bool} {L : List One} {z : One} (hz : left (.int .i64 z.id) = true) : setO (fillL per sum left L) z.id (fillO per sum) = fillL per sum (fun kl => left kl && !kl.sameKey (.int .i64 z.id)) L := by
  unfold setO fillL
  rw [List.map_map]
  apply List.map_congr_left
  intro x _
  show (if (if left (.int .i64 x.id) = true then x else fillO per sum x).id = z.id then fillO per sum (if left (.int .i64 x.id) = true then x else fillO per sum x) else (if left (.int .i64 x.id) = true then x else fillO per sum x)) = if (left (.int .i64 x.id) && !(Lit.int .i64 x.id).sameKey (.int .i64 z.id)) = true then x else fillO per sum x
  have hk : (Lit.int .i64 x.id).sameKey (.int .i64 z.id) = decide (x.id = z.id) := by simp [Lit.sameKey]
  by_cases e : x.id = z.id
  · have hl : left (.int .i64 x.id) = true := by rw [e]; exact hz
    rw [if_pos hl, if_pos e, hk, decide_eq_true e, hl]
    rfl
  · rw [hk, decide_eq_false e, Bool.not_false, Bool.and_true]
    have hid : (if left (.int .i64 x.id) = true then x else fillO per sum x).id = x.id := by split <;> rfl
    rw [hid, if_neg e]

theorem view_some {D : DataW Value} {kl : Lit} {v : Value} (h : ∀ zd, D.atKey kl zd = .held v) : viewM D kl = some v := by
  unfold viewM
  rw [if_pos (Maps.has_true_of_atKey h), h]

def RefI (S : Nat → Prop) (w : World) (cb : Nat) (l : Lay) (per n : Nat) (s : CS) (D : DataW Value) (wr : World) : Prop :=
  ∃ (left : Lit → Bool) (cnt : Nat), wr.ranges Try.prog 3 heldE l.mb w.heap.size s.L.length D left cnt ∧ Hid (CAt (fun k => S k ∧ k < w.heap.size) wr cb l per n { s with L := fillL per s.sum left s.L }) ∧ Hid (Fr S w wr)

theorem refill_ne {S : Nat → Prop} {w : World} {cb : Nat} {l : Lay} {per n : Nat} {s : CS} (h : CAt S w cb l per n s) {x : One} (hx : x ∈ s.L) : l.pb x.id ≠ l.mb := by
  obtain ⟨es, k, hm⟩ := h.map.obj
  exact other_map (h.look x hx) hm

theorem refill_kept {w1 : World} {mb r c cnt pb : Nat} {D : DataW Value} {left : Lit → Bool} (h : w1.ranges Try.prog 3 heldE mb r c D left cnt) (h1 : pb < r) (h2 : mb ≠ pb) (v : Value) : ((w1.setCell ⟨pb, 3, none⟩ v).drew).ranges Try.prog 3 heldE mb r c D left cnt :=
  h.kept (row := some pb) ⟨rfl, rfl, rfl, by simp [World.drew], fun k _ hn => heap_set_ne (fun e => hn (by rw [e])) v⟩ (fun e => h2 (Option.some.inj e)) (fun e => by have := Option.some.inj e; omega)

theorem refill_less {w1 wr : World} {mb r c cnt cnt1 pb : Nat} {D : DataW Value} {left left1 : Lit → Bool} (h0 : wr.ranges Try.prog 3 heldE mb r c D left cnt) (h : w1.ranges Try.prog 3 heldE mb r c D left1 cnt1) (hlt : cnt1 < cnt) (h1 : pb < r) (h2 : mb ≠ pb) (v : Value) : ((w1.setCell ⟨pb, 3, none⟩ v).drew).rangeLeft mb r < wr.rangeLeft mb r := by
  rw [(refill_kept h h1 h2 v).left_eq, h0.left_eq]
  exact hlt

theorem refill_end (S : Nat → Prop) (w : World) (cb : Nat) (l : Lay) (per n : Nat) (s : CS) (D : DataW Value) (left : Lit → Bool) (w1 : World) (z : One) (cnt1 : Nat) (N : Int) (hN : fillO per s.sum z = { z with credit := N }) (hz : z ∈ fillL per s.sum left s.L) (hap : ApartO (fillL per s.sum left s.L))
    (A : Hid (CAt (fun k => S k ∧ k < w.heap.size) w1 cb l per n { s with L := fillL per s.sum left s.L })) (F : Hid (Fr S w w1)) (hrg : Hid (w1.ranges Try.prog 3 heldE l.mb w.heap.size s.L.length D (fun kl => left kl && !kl.sameKey (.int .i64 z.id)) cnt1))
    (hstep : setO (fillL per s.sum left s.L) z.id (fillO per s.sum) = fillL per s.sum (fun kl => left kl && !kl.sameKey (.int .i64 z.id)) s.L) (hpb : S (l.pb z.id) ∧ l.pb z.id < w.heap.size) : RefI S w cb l per n s D ((w1.setCell ⟨l.pb z.id, 3, none⟩ (.int .i64 N)).drew) := by
  refine ⟨_, cnt1, refill_kept hrg.out hpb.2 (Ne.symm (refill_ne A.out hz)) _, ?_, (F.out.setCell (fun _ => hpb.1) _).drew⟩
  have A2 := A.out.setOne hz hap 3 (.int .i64 N) (fillO per s.sum) (fun _ => rfl) (by rw [hN]; rfl)
  have A3 := A2.of_heap (w' := (w1.setCell ⟨l.pb z.id, 3, none⟩ (.int .i64 N)).drew) (fun _ _ _ => rfl)
  rw [← hstep]
  exact A3

set_option maxHeartbeats 4000000 in
set_option maxRecDepth 100000 in
/-- Refill. -/
theorem refill_c (S : Nat → Prop) (w : World) (cb per n : Nat) (s : CS) (h : CR S w cb per n s) (ok : OKs per n s) :
    Calls Try.prog 10 #[.pointer (some ⟨cb, 0, none⟩)] w fun e w' => e = .returned (.int .i64 0) ∧ Hid (CR S w' cb per n (refillS per s)) ∧ Hid (Fr S w w') := by
  obtain ⟨l, h⟩ := h
  obtain ⟨c0, c1, c2, c3, _⟩ := h.c
  have HN := hid (none_no w cb l.mb c2)
  obtain ⟨D, hown, hsz, hview⟩ := h.map
  have hstart : Hid (∀ x ∈ s.L, Maps.has D (.int .i64 x.id) = true) := hid (fun x hx => by
    have := MAPF.has_iff law3 hown (key3 (ok.one x hx).1) Try.underlying36 zero62
    rw [this, hview, lookF_id, ok.find hx]
    rfl)
  have H : Hid (CAt (fun k => S k ∧ k < w.heap.size) w cb l per n s) := hid (h.mono (fun k hk a => ⟨a, hk⟩))
  have HO := hid ok
  have HV := hid hview
  have hcb := block_lt_of_cell c0
  have hmb := hown.lt
  clear h ok hview hsz
  go_enter Try.func10, Try.ntmps10
  go_wp2_with (first
    | (go_at_call 26; refine HN.out.mono ?_; rintro e w' ⟨rfl, rfl⟩)
    | (at_range; refine wpList_range_own _ rfl _ 36 rfl 3 62 law3 Try.underlying36 heldE l.mb s.L.length D rfl hown ?_; intro w0 hrg0 hg0 hs0)
    | fail)
  go_frame
  go_loopw [4] (fun _ wr => RefI S w cb l per n s D wr) (fun _ wr => wr.rangeLeft l.mb w.heap.size)
  case atStart =>
    refine ⟨_, _, hrg0, ?_, ?_⟩
    · rw [fillL_start hstart.out]
      exact H.out.of_heap (fun k hk _ => hg0.block k hk (by simp))
    · exact ⟨hg0.os, hg0.tape, hg0.output, hg0.size, fun k hk _ => hg0.block k hk (by simp)⟩
  case round =>
    obtain ⟨left, cnt, hrg, hC, hF⟩ := hrel
    clear hrg0 hg0 hs0 c0 c1 c2 c3 hown HN
    have HRG := hid hrg
    obtain ⟨c0, c1, c2, c3, _⟩ := hC.out.c
    go_wp2_with (first
      | (at_next; refine wpList_next_ranges _ rfl _ rfl 3 law3 heldE (Value.int .i64) (fun v : Value => v) (fun key kl hkey => by obtain ⟨x, rfl, _⟩ := Maps.keyOf_int_inv Try.underlying3 hkey; exact ⟨x, rfl⟩) (fun v y _ => ⟨v, rfl⟩) l.mb w.heap.size s.L.length D left cnt rfl hrg ?_ ?_)
      | fail)
    · intro _ hl0
      have hfin : Hid (fillL per s.sum left s.L = s.L.map (fillO per s.sum)) := hid (fillL_end hl0)
      clear hl0
      go_wp2_with fail
      go_ret
      refine ⟨rfl, ⟨l, ?_⟩, hF⟩
      have := hC.out
      rw [hfin.out] at this
      exact this.mono (fun _ _ a => a.1)
    · intro x c kl y ps w1 cnt1 hkey hlk hv hat hrg1 hlt hg1 hs1 hen
      obtain ⟨x', ex, rfl, hwx⟩ := Maps.keyOf_int_inv Try.underlying3 hkey
      cases ex
      obtain rfl : DataW.held c = y := by unfold heldE at hv; exact congrArg Prod.fst (Option.some.inj hv)
      have hlf := view_some hat
      rw [HV.out] at hlf
      obtain ⟨z, hz, hkz, rfl⟩ := lookF_some hlf
      obtain rfl : x = z.id := by simpa using hkz
      have hzl := hid (fillL_mem (per := per) (sum := s.sum) hz hlk)
      have hstep := hid (fillL_step (per := per) (sum := s.sum) (L := s.L) hlk)
      have A1 := hid (hC.out.of_heap (w' := w1) (fun k hk hS => hg1.block k hk (fun e => by have := Option.some.inj e; have := hS.2; omega)))
      have F1 : Hid (Fr S w w1) := hid (hF.out.then (T := fun k => k = w.heap.size) ⟨hg1.os, hg1.tape, hg1.output, hg1.size, fun k hk hn => hg1.block k hk (fun e => hn (Option.some.inj e))⟩ (fun i hi e => by omega))
      have hap : Hid (ApartO (fillL per s.sum left s.L)) := hid (apartO_ids (fillL_ids per s.sum left s.L).symm HO.out.apart)
      obtain ⟨_, b1, b2, b3, b4, _, _⟩ := HO.out.one z hz
      have bp := HO.out.p2
      have hsum0 : 0 < s.sum := by rw [HO.out.sum]; exact Nat.lt_of_lt_of_le b1 (sumW_le hz)
      have hP : per * z.weight ≤ 1048576 * 256 := Nat.mul_le_mul bp b2
      obtain ⟨P, hPd⟩ : ∃ P, P = per * z.weight := ⟨_, rfl⟩
      rw [← hPd] at hP
      obtain ⟨q, hqd⟩ : ∃ q, q = P / s.sum := ⟨_, rfl⟩
      have hqP : q ≤ P := by rw [hqd]; exact Nat.div_le_self _ _
      have hm1 : IntKind.i64.wrap ((per : Int) * (z.weight : Int)) = (P : Int) := by
        rw [show (per : Int) * (z.weight : Int) = (P : Int) by rw [hPd, Int.natCast_mul]]
        exact IntWalk.i64_in _ (by omega)
      have hm2 : ((P : Int)).tdiv (s.sum : Int) = (q : Int) := by rw [Int.tdiv_eq_ediv_of_nonneg (by omega), hqd, Int.natCast_ediv]
      have hm3 : IntKind.i64.wrap (q : Int) = (q : Int) := IntWalk.i64_in _ (by omega)
      have hs0 : ¬ s.sum = 0 := by omega
      have hs1' : ¬ (s.sum : Int) = 0 := by omega
      have hfil : Hid (∀ N : Int, N = min (z.credit + max 1 (q : Int)) per → fillO per s.sum z = { z with credit := N }) := hid (fun N hN => by
        unfold fillO
        rw [hN, hqd, hPd])
      have hb4 := b4
      have hb3 := b3
      have hbp := bp
      have hbq : q ≤ 1048576 * 256 := by omega
      clear hqd hqP hPd hP b1 b2 b3 b4 bp hsum0 hrg hat hlf hv hkz hlk hkey hC hF c0 c1 c2 c3 hstart HO H HV hz hwx
      obtain ⟨c0, c1, c2, c3, _⟩ := A1.out.c
      obtain ⟨x0, x1, x2, x3, xf⟩ := A1.out.x hzl.out
      have xf := xf 3
      have hpb := hid (A1.out.mine.2.2.2.2 z hzl.out)
      have hrgn := hid hrg1
      have hltn := hid hlt
      clear hrg1 hlt hg1 hs1
      dsimp only at c0 c1 c2 c3 x0 x1 x2 x3
      by_cases h1 : (1 : Int) < (q : Int)
      · have h1n : 1 < q := by omega
        have hw1 : IntKind.i64.wrap (z.credit + (q : Int)) = z.credit + (q : Int) := IntWalk.i64_in _ (by omega)
        by_cases hp : (per : Int) < z.credit + (q : Int)
        · have hN := hid (hfil.out (per : Int) (by omega))
          clear hfil hb3 hb4 hbq
          go_wp2_with fail
          go_region
          go_roundw
          case rel => (repeat apply Exists.intro); exact ⟨refill_end S w cb l per n s D left w1 z cnt1 (per : Int) hN.out hzl.out hap.out A1 F1 hrgn hstep.out hpb.out, rfl⟩
          case measure => exact refill_less HRG.out hrgn.out hltn.out hpb.out.2 (Ne.symm (refill_ne A1.out hzl.out)) _
        · have hN := hid (hfil.out (z.credit + (q : Int)) (by omega))
          clear hfil hb3 hb4 hbq
          go_wp2_with fail
          go_region
          go_roundw
          case rel => (repeat apply Exists.intro); exact ⟨refill_end S w cb l per n s D left w1 z cnt1 (z.credit + (q : Int)) hN.out hzl.out hap.out A1 F1 hrgn hstep.out hpb.out, rfl⟩
          case measure => exact refill_less HRG.out hrgn.out hltn.out hpb.out.2 (Ne.symm (refill_ne A1.out hzl.out)) _
      · have h1n : ¬ 1 < q := by omega
        have hw1 : IntKind.i64.wrap (z.credit + 1) = z.credit + 1 := IntWalk.i64_in _ (by omega)
        by_cases hp : (per : Int) < z.credit + 1
        · have hN := hid (hfil.out (per : Int) (by omega))
          clear hfil hb3 hb4 hbq
          go_wp2_with fail
          go_region
          go_roundw
          case rel => (repeat apply Exists.intro); exact ⟨refill_end S w cb l per n s D left w1 z cnt1 (per : Int) hN.out hzl.out hap.out A1 F1 hrgn hstep.out hpb.out, rfl⟩
          case measure => exact refill_less HRG.out hrgn.out hltn.out hpb.out.2 (Ne.symm (refill_ne A1.out hzl.out)) _
        · have hN := hid (hfil.out (z.credit + 1) (by omega))
          clear hfil hb3 hb4 hbq
          go_wp2_with fail
          go_region
          go_roundw
          case rel => (repeat apply Exists.intro); exact ⟨refill_end S w cb l per n s D left w1 z cnt1 (z.credit + 1) hN.out hzl.out hap.out A1 F1 hrgn hstep.out hpb.out, rfl⟩
          case measure => exact refill_less HRG.out hrgn.out hltn.out hpb.out.2 (Ne.symm (refill_ne A1.out hzl.out)) _
end Go.Proofs.Ytehjekcfhmmggaa

/-
  The reference's Wake, Block, Yield, whatever the argument. No conditions.
-/
import Derived.Test.YtehjekcfhmmggaaRef4
namespace Go.Proofs.Ytehjekcfhmmggaa
open Go.RowKit

theorem set_setO {L : List One} (ha : ApartO L) {j : Nat} {x : One} (hx : L[j]? = some x) (f : One → One) : L.set j (f x) = setO L x.id f := by
  obtain ⟨hj, hje⟩ := List.getElem?_eq_some_iff.1 hx
  apply List.ext_getElem?
  intro i
  unfold setO
  rw [List.getElem?_set, List.getElem?_map]
  by_cases e : j = i
  · subst e
    rw [if_pos rfl, if_pos hj, hx]
    simp
  · rw [if_neg e]
    cases hy : L[i]? with
    | none => rfl
    | some y =>
      obtain ⟨hi, hie⟩ := List.getElem?_eq_some_iff.1 hy
      have hne : y.id ≠ x.id := by
        have hp := List.pairwise_iff_getElem.1 ha
        rcases Nat.lt_or_ge i j with h | h
        · have := hp i j hi hj h
          rw [hie, hje] at this
          exact this
        · have := hp j i hj hi (by omega)
          rw [hie, hje] at this
          exact fun e => this e.symm
      simp [hne]

theorem strike_off {q : List Int} {id : Int} (h : id ∉ q) : strike q id = q := strike_none (fun _ hy e => h (e ▸ hy))

section
variable {per n : Nat} {s : CS} (ok : OKs per n s)
include ok
theorem strike_all {x : One} (hx : x ∈ s.L) : ∀ i, i < n → updN s.Q x.core (strike (s.Q x.core) x.id) i = strike (s.Q i) x.id := by
  intro i hi
  by_cases e : i = x.core
  · rw [e, updN_same]
  · rw [updN_ne _ _ e, strike_off (ok.off hx hi (.inr e))]
theorem yield_Q {x : One} (hx : x ∈ s.L) (h2 : x.state = 2) : (yieldS s x).Q = updN s.Q x.core (s.Q x.core ++ [x.id]) := by
  have hoff := strike_off (ok.off hx (ok.one x hx).2.2.2.2.2.1 (.inl (by rw [h2]; decide)))
  funext i
  show updN (outC s x).Q x.core ((outC s x).Q x.core ++ [x.id]) i = _
  have e1 : (outC s x).Q = s.Q := by
    show updN s.Q x.core (strike (s.Q x.core) x.id) = s.Q
    rw [hoff, updN_self]
  rw [e1]
end

section
variable (S : Nat → Prop) (w : World) (rb per n : Nat) (s : CS) (h : RR S w rb per n s) (ok : OKs per n s)
include h ok

set_option maxHeartbeats 2000000 in
set_option maxRecDepth 100000 in
/-- Wake, whoever. -/
theorem rwake_t (hS : ∀ k, w.heap.size ≤ k → S k) (id : Int) :
    Calls Try.prog 39 #[.pointer (some ⟨rb, 0, none⟩), .int .i64 id] w fun e w' => e = .returned (.int .i64 (wakeV s id)) ∧ Hid (RR S w' rb per n (wakeN s id)) ∧ Hid (Fr S w w') := by
  have HC := hid h
  obtain ⟨l, r, h, hr⟩ := h
  have HF := hid (rfind_c S w rb l per n s.L s.Q r h id)
  obtain ⟨c0, c1, c2, c3, _⟩ := h.c
  cases hf : findO s.L id with
  | none =>
    have e1 : wakeV s id = 14 := by unfold wakeV; rw [hf]
    have e2 : wakeN s id = s := by unfold wakeN; rw [hf]
    rw [e1, e2]
    rw [findP_none hf] at HF
    clear h ok hS hr hf e1 e2
    go_enter Try.func39, Try.ntmps39
    go_wp2_with (first | (go_at_call 25; refine HF.out.mono ?_; rintro e w' ⟨rfl, rfl⟩) | fail)
    go_ret
    exact ⟨rfl, HC.out, Fr.refl S w⟩
  | some x =>
    obtain ⟨j, hj, hx⟩ := findP_some ok.apart hf
    rw [hj] at HF
    have hxm := List.mem_of_getElem? hx
    have hxid := (findO_mem hf).2
    have hjl := (List.getElem?_eq_some_iff.1 hx).1
    have hj2 : ((j : Int) < (s.L.length : Int)) := by omega
    have hj0 : ¬ ((j : Int) < 0) := by omega
    obtain ⟨g, hg, x0, x1, x2, x3, x4, _⟩ := h.x hx
    rw [hg] at c2
    by_cases h3 : x.state = 3
    · have e1 : wakeV s id = 0 := by unfold wakeV; rw [hf]; exact if_pos h3
      have e2 : wakeN s id = readyC s x := by unfold wakeN; rw [hf]; exact if_pos h3
      rw [e1, e2]
      have hone := ok.one x hxm
      have hql := ok.qlen hone.2.2.2.2.2.1
      have HR := hid (rready_c S w rb l per n s.L s.Q r h hS j x hx x.core x.id rfl rfl hone.2.2.2.2.2.1 (by omega))
      rw [set_setO ok.apart hx (fun y => { y with state := 1 })] at HR
      have t1 : (x.state == 3) = true := by simpa using h3
      have HRR := hid hr
      clear h ok hS hf e1 e2 hr HC hone hql hxid hxm hx hjl h3
      go_enter Try.func39, Try.ntmps39
      go_wp2_with (first
        | (go_at_call 25; refine HF.out.mono ?_; rintro e w' ⟨rfl, rfl⟩)
        | (go_at_call 52; refine HR.out.mono ?_; rintro e w2 ⟨rfl, A, F⟩)
        | fail)
      go_ret
      exact ⟨rfl, A.out.imp fun _ a => ⟨r, a, HRR.out⟩, F⟩
    · have e1 : wakeV s id = 21 := by unfold wakeV; rw [hf]; exact if_neg h3
      have e2 : wakeN s id = s := by unfold wakeN; rw [hf]; exact if_neg h3
      rw [e1, e2]
      have t1 : (x.state == 3) = false := by simpa using h3
      clear h ok hS hf e1 e2 hr hxid hxm hx hjl h3
      go_enter Try.func39, Try.ntmps39
      go_wp2_with (first
        | (go_at_call 25; refine HF.out.mono ?_; rintro e w' ⟨rfl, rfl⟩)
        | fail)
      go_ret
      exact ⟨rfl, HC.out, Fr.refl S w⟩

set_option maxHeartbeats 2000000 in
set_option maxRecDepth 100000 in
/-- Block, whoever. -/
theorem rblock_t (hS : ∀ k, w.heap.size ≤ k → S k) (id : Int) :
    Calls Try.prog 40 #[.pointer (some ⟨rb, 0, none⟩), .int .i64 id] w fun e w' => e = .returned (.int .i64 (blockV s id)) ∧ Hid (RR S w' rb per n (blockN s id)) ∧ Hid (Fr S w w') := by
  have HC := hid h
  obtain ⟨l, r, h, hr⟩ := h
  have HF := hid (rfind_c S w rb l per n s.L s.Q r h id)
  obtain ⟨c0, c1, c2, c3, _⟩ := h.c
  cases hf : findO s.L id with
  | none =>
    have e1 : blockV s id = 14 := by unfold blockV; rw [hf]
    have e2 : blockN s id = s := by unfold blockN; rw [hf]
    rw [e1, e2]
    rw [findP_none hf] at HF
    clear h ok hS hr hf e1 e2
    go_enter Try.func40, Try.ntmps40
    go_wp2_with (first | (go_at_call 25; refine HF.out.mono ?_; rintro e w' ⟨rfl, rfl⟩) | fail)
    go_ret
    exact ⟨rfl, HC.out, Fr.refl S w⟩
  | some x =>
    obtain ⟨j, hj, hx⟩ := findP_some ok.apart hf
    rw [hj] at HF
    have hxm := List.mem_of_getElem? hx
    have hxid := (findO_mem hf).2
    have hjl := (List.getElem?_eq_some_iff.1 hx).1
    have hj2 : ((j : Int) < (s.L.length : Int)) := by omega
    have hj0 : ¬ ((j : Int) < 0) := by omega
    obtain ⟨g, hg, x0, x1, x2, x3, x4, _⟩ := h.x hx
    rw [hg] at c2
    by_cases h3 : x.state = 3
    · have e1 : blockV s id = 21 := by unfold blockV; rw [hf]; exact if_pos h3
      have e2 : blockN s id = s := by unfold blockN; rw [hf]; exact if_pos h3
      rw [e1, e2]
      have t1 : (x.state == 3) = true := by simpa using h3
      clear h ok hS hf e1 e2 hr hxid hxm hx hjl h3
      go_enter Try.func40, Try.ntmps40
      go_wp2_with (first
        | (go_at_call 25; refine HF.out.mono ?_; rintro e w' ⟨rfl, rfl⟩)
        | fail)
      go_ret
      exact ⟨rfl, HC.out, Fr.refl S w⟩
    · have e1 : blockV s id = 0 := by unfold blockV; rw [hf]; exact if_neg h3
      have e2 : blockN s id = blockS s x := by unfold blockN; rw [hf]; exact if_neg h3
      rw [e1, e2]
      have t1 : (x.state == 3) = false := by simpa using h3
      have HO := hid (rout_c S w rb l per n s.L s.Q r h hS ok.n8 (fun i hi => by have := ok.qlen hi; omega) id)
      have HX := hid hx
      have hfin : Hid (∀ (w2 : World) (l2 : RLay) (g2 : Nat), RAt S w2 rb l2 per n s.L (fun i => strike (s.Q i) id) r → l2.la = some ⟨g2, 0, none⟩ → RR S (w2.setCell ⟨g2, j * 5 + 4, none⟩ (.int .i64 3)) rb per n (blockS s x)) := hid (by
        intro w2 l2 g2 A hg2
        have B := A.setOne hx hg2 4 (by omega) (.int .i64 3) (y := { x with state := 3 }) rfl
        rw [set_setO ok.apart hx (fun y => { y with state := 3 })] at B
        refine ⟨l2, r, B.congr (fun i hi => ?_), hr⟩
        rw [← hxid]
        exact strike_all ok hxm i hi)
      clear h ok hS hf e1 e2 hr HC hxid hxm hx hjl h3
      go_enter Try.func40, Try.ntmps40
      go_wp2_with (first
        | (go_at_call 25; refine HF.out.mono ?_; rintro e w' ⟨rfl, rfl⟩)
        | (go_at_call 51; refine HO.out.mono ?_; rintro e w2 ⟨rfl, ⟨l2, A⟩, F⟩; obtain ⟨_, _, d2, _, _⟩ := A.c; obtain ⟨g2, hg2, _, _, _, _, y4, yf⟩ := A.x HX.out; rw [hg2] at d2; have yf := yf (j * 5 + 4); have A := hid A)
        | fail)
      go_ret
      exact ⟨rfl, hfin.out _ _ _ A.out hg2, F.out.setCell (fun _ => A.out.mine.2.2.1 g2 (by rw [hg2]; rfl)) _⟩

set_option maxHeartbeats 2000000 in
set_option maxRecDepth 100000 in
/-- Yield, whatever the core. -/
theorem ryield_t (hS : ∀ k, w.heap.size ≤ k → S k) (i : Int) :
    Calls Try.prog 43 #[.pointer (some ⟨rb, 0, none⟩), .int .i64 i] w fun e w' => e = .returned (.tuple #[.int .i64 (yieldV n s i).1, .int .i64 (yieldV n s i).2]) ∧ Hid (RR S w' rb per n (yieldN n s i)) ∧ Hid (Fr S w w') := by
  have HC := hid h
  obtain ⟨l, r, h, hr⟩ := h
  have HH := hid (rhas_c S w rb l per n s.L s.Q r h i)
  have HN := hid (rruns_c S w rb l per n s.L s.Q r h i)
  cases h3 : inR n i with
  | false =>
    have e1 : yieldV n s i = (0, 2) := by unfold yieldV; rw [if_pos h3]
    have e2 : yieldN n s i = s := by unfold yieldN; rw [if_pos h3]
    rw [e1, e2]
    rw [h3] at HH
    clear h ok hS hr h3 e1 e2
    go_enter Try.func43, Try.ntmps43
    go_wp2_with (first | (go_at_call 45; refine HH.out.mono ?_; rintro e w' ⟨rfl, rfl⟩) | fail)
    go_ret2
    exact ⟨rfl, HC.out, Fr.refl S w⟩
  | true =>
    obtain ⟨k, rfl, hk⟩ := inR_nat h3
    rw [h3] at HH
    cases hb : s.bs k with
    | false =>
      have hnb : ¬ s.bs (k : Int).toNat = true := by rw [show (k : Int).toNat = k from rfl, hb]; decide
      have e1 : yieldV n s (k : Int) = (0, 14) := by unfold yieldV; rw [if_neg (by rw [h3]; decide), if_neg hnb]
      have e2 : yieldN n s (k : Int) = s := by unfold yieldN; rw [if_neg (by rw [h3]; decide), if_neg hnb]
      rw [e1, e2]
      rw [runP_no ok hb] at HN
      clear h ok hS hr h3 e1 e2 hb hnb
      go_enter Try.func43, Try.ntmps43
      go_wp2_with (first | (go_at_call 45; refine HH.out.mono ?_; rintro e w' ⟨rfl, rfl⟩) | (go_at_call 46; refine HN.out.mono ?_; rintro e w' ⟨rfl, rfl⟩) | fail)
      go_ret2
      exact ⟨rfl, HC.out, Fr.refl S w⟩
    | true =>
      have hyb : s.bs (k : Int).toNat = true := hb
      obtain ⟨j, x, hj, hx, hid1, hst, hco, hfo⟩ := runP_yes ok hk hb
      have hxm := List.mem_of_getElem? hx
      have e1 : yieldV n s (k : Int) = (x.id, 0) := by unfold yieldV; rw [if_neg (by rw [h3]; decide), if_pos hyb, hid1]; rfl
      have e2 : yieldN n s (k : Int) = yieldS s x := by unfold yieldN; rw [if_neg (by rw [h3]; decide), if_pos hyb, show (k : Int).toNat = k from rfl, hfo]
      rw [e1, e2]
      rw [hj] at HN
      have hql := ok.qlen (ok.one x hxm).2.2.2.2.2.1
      have HR := hid (rready_c S w rb l per n s.L s.Q r h hS j x hx x.core x.id rfl rfl (ok.one x hxm).2.2.2.2.2.1 (by omega))
      have hjl := (List.getElem?_eq_some_iff.1 hx).1
      have hj2 : ((j : Int) < (s.L.length : Int)) := by omega
      have hj0 : ¬ ((j : Int) < 0) := by omega
      have hx1 : Hid ((s.L.set j { x with state := 1 })[j]? = some { x with state := 1 }) := hid (by rw [List.getElem?_set_self hjl])
      have hll : (s.L.set j { x with state := 1 }).length = s.L.length := List.length_set
      have hfin : Hid (∀ w2 l2, RAt S w2 rb l2 per n (s.L.set j { x with state := 1 }) (updN s.Q x.core (s.Q x.core ++ [x.id])) r → RR S w2 rb per n (yieldS s x)) := hid (by
        intro w2 l2 A
        rw [set_setO ok.apart hx (fun y => { y with state := 1 }), ← yield_Q ok hxm hst] at A
        exact ⟨l2, r, A, hr⟩)
      obtain ⟨id, hidd⟩ : ∃ id, id = x.id := ⟨_, rfl⟩
      clear h ok hS hr h3 e1 e2 hb hyb HC hql hx hxm hfo hid1
      go_enter Try.func43, Try.ntmps43
      go_wp2_with (first
        | (go_at_call 45; refine HH.out.mono ?_; rintro e w' ⟨rfl, rfl⟩)
        | (go_at_call 46; refine HN.out.mono ?_; rintro e w' ⟨rfl, rfl⟩)
        | (go_at_call 52; refine HR.out.mono ?_; rintro e w2 ⟨rfl, ⟨l2, A⟩, F⟩; obtain ⟨_, _, d2, _, _⟩ := A.c; obtain ⟨g2, hg2, y0, _⟩ := A.x hx1.out; rw [hg2, hll] at d2; dsimp only at y0; have A := hid A)
        | fail)
      go_ret2
      exact ⟨rfl, hfin.out _ _ A.out, F⟩
end
end Go.Proofs.Ytehjekcfhmmggaa

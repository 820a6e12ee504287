/-
  The reference's Remove. No conditions.
-/
import Derived.Test.YtehjekcfhmmggaaRef6
import Derived.Deep.RegionLaw
namespace Go.Proofs.Ytehjekcfhmmggaa
open Go.RowKit

theorem rones_take {L : List One} {q j : Nat} {u : Value} (h : (rones (L.take q))[j]? = some u) : (rones L)[j]? = some u := by
  have e : rones L = rones (L.take q) ++ rones (L.drop q) := by rw [← rones_append, List.take_append_drop]
  rw [e, List.getElem?_append_left (List.getElem?_eq_some_iff.1 h).1]
  exact h
theorem rones_drop {L : List One} {q j : Nat} (hq : q ≤ L.length) {u : Value} (h : (rones (L.drop q))[j]? = some u) : (rones L)[q * 5 + j]? = some u := by
  have e : rones L = rones (L.take q) ++ rones (L.drop q) := by rw [← rones_append, List.take_append_drop]
  have hl : (rones (L.take q)).length = q * 5 := by rw [rones_len, List.length_take, Nat.min_eq_left hq]
  rw [e, List.getElem?_append_right (by omega), hl, Nat.add_sub_cancel_left]
  exact h

/-- One cut out of the list. -/
theorem cut_eraseO {L : List One} (ha : ApartO L) {j : Nat} {x : One} (hx : L[j]? = some x) : L.take j ++ L.drop (j + 1) = cutO L x.id := by
  induction L generalizing j with
  | nil => cases hx
  | cons z L ih =>
    obtain ⟨h1, h2⟩ := List.pairwise_cons.1 ha
    unfold cutO at ih ⊢
    cases j with
    | zero =>
      obtain rfl : z = x := by simpa using hx
      rw [List.filter_cons_of_neg (by simp), List.filter_eq_self.2 (fun y hy => by simpa using fun e => h1 y hy e.symm)]
      rfl
    | succ j =>
      have hx' : L[j]? = some x := by simpa using hx
      rw [List.filter_cons_of_pos (by simpa using h1 x (List.mem_of_getElem? hx')), ← ih h2 hx']
      rfl

/-- What holds when both parts were appended. -/
structure RCut (S : Nat → Prop) (w : World) (rb : Nat) (l : RLay) (per n : Nat) (L : List One) (Q : Nat → List Int) (r : Nat → Int) (j : Nat) (v : Value) (w2 : World) : Prop where
  c2 : w2.cell? ⟨rb, 2, none⟩ = some (.slice l.la L.length l.lc)
  f2 : w2.frozen? ⟨rb, 2, none⟩ = false
  fin : ∃ l', RAt S (w2.setCell ⟨rb, 2, none⟩ v) rb l' per n (L.take j ++ L.drop (j + 1)) Q r
  fr : Fr S w (w2.setCell ⟨rb, 2, none⟩ v)

theorem rcut (S : Nat → Prop) (w : World) (rb : Nat) (l : RLay) (per n : Nat) (L : List One) (Q : Nat → List Int) (r : Nat → Int) (hS : ∀ k, w.heap.size ≤ k → S k) (h : RAt S w rb l per n L Q r) (j : Nat) (hj : j < L.length)
    (wb w1 w2 : World) (ao1 ao2 : Option Addr) (cap1 cap2 m : Nat) (hm : m = j + (L.length - (j + 1)))
    (hw : wb.heap = (w.alloc (.cells #[] 83)).heap) (hw2 : wb.os = w.os ∧ wb.tape = w.tape ∧ wb.output = w.output)
    (g1 : wb.grownBy w1 (some w.heap.size)) (o1 : w1.ownsRow w.heap.size 83 5 (.slice ao1 j cap1) j (rones (L.take j)))
    (o2 : w2.ownsRow w.heap.size 83 5 (.slice ao2 m cap2) m (rones (L.take j) ++ rones (L.drop (j + 1)))) (g2 : w1.grownBy w2 (blk ao1)) : RCut S w rb l per n L Q r j (.slice ao2 m cap2) w2 := by
  have hsz : wb.heap.size = w.heap.size + 1 := by rw [hw]; simp
  have F0 : Fr (fun k => w.heap.size ≤ k) w wb := ⟨hw2.1, hw2.2.1, hw2.2.2, by omega, fun j hj _ => by rw [hw]; exact Below.heap_alloc _ _ _ hj⟩
  have F1 := F0.grown g1 (fun j e _ => by cases e; exact Nat.le_refl _)
  have F2 := F1.grown g2 (fun j e _ => (owns_blk o1 j e).1)
  have hrb := heap_lt h.obj
  have hc := (F2.block rb hrb (Nat.not_le_of_lt hrb)).trans h.obj
  have hA := h.of_heap (w' := w2) (fun k hk _ => F2.block k hk (Nat.not_le_of_lt hk))
  have hlen : (L.take j ++ L.drop (j + 1)).length = m := by rw [List.length_append, List.length_take, List.length_drop, Nat.min_eq_left (by omega), hm]
  rw [← rones_append] at o2
  have hq := h.setL w2 ⟨F2.os, F2.tape, F2.output, F2.size, fun k hk _ => F2.block k hk (Nat.not_le_of_lt hk)⟩ ao2 cap2 (L.take j ++ L.drop (j + 1)) (by rw [hlen]; exact owns_base o2 (Nat.zero_le _)) (fun g e => .inr (owns_blk o2 g e).1) hS
  rw [hlen] at hq
  exact ⟨(cell_at hc).trans rfl, thawed hc, ⟨_, hq⟩, (F2.mono (fun k _ h => hS k h)).setCell (fun _ => h.mine.1) _⟩

section
variable (S : Nat → Prop) (w : World) (rb per n : Nat) (s : CS) (h : RR S w rb per n s) (ok : OKs per n s)
include h ok

set_option maxHeartbeats 4000000 in
set_option maxRecDepth 100000 in
theorem rremove_yes (hS : ∀ k, w.heap.size ≤ k → S k) (id : Int) (x : One) (hf : findO s.L id = some x) (h2 : x.state ≠ 2) :
    Calls Try.prog 38 #[.pointer (some ⟨rb, 0, none⟩), .int .i64 id] w fun e w' => e = .returned (.int .i64 0) ∧ Hid (RR S w' rb per n (removeS s x)) ∧ Hid (Fr S w w') := by
  obtain ⟨j0, hj0, jz0, jz1, jz2⟩ := info_ref1
  obtain ⟨l, r, h, hr⟩ := h
  have HF := hid (rfind_c S w rb l per n s.L s.Q r h id)
  obtain ⟨q, hq, hx⟩ := findP_some ok.apart hf
  rw [hq] at HF
  have hxm := List.mem_of_getElem? hx
  have hxid := (findO_mem hf).2
  have hlt := (List.getElem?_eq_some_iff.1 hx).1
  have hfew := ok.few
  have HO := hid (rout_c S w rb l per n s.L s.Q r h hS ok.n8 (fun i hi => by have := ok.qlen hi; omega) id)
  obtain ⟨c0, c1, c2, c3, _⟩ := h.c
  obtain ⟨g, hg, x0, x1, x2, x3, x4, _⟩ := h.x hx
  rw [hg] at c2
  have t1 : (x.state == 2) = false := by simpa using h2
  have hql : ((q : Int) < (s.L.length : Int)) := by omega
  have hq0 : ¬ ((q : Int) < 0) := by omega
  have hfin : Hid (∀ (w2 : World) (l2 : RLay), RAt S w2 rb l2 per n (s.L.take q ++ s.L.drop (q + 1)) (fun i => strike (s.Q i) id) r → RR S w2 rb per n (removeS s x)) := hid (by
    intro w2 l2 A
    rw [cut_eraseO ok.apart hx] at A
    refine ⟨l2, r, A.congr (fun i hi => ?_), hr⟩
    rw [← hxid]
    exact strike_all ok hxm i hi)
  have HS := hid hS
  obtain ⟨L, hL⟩ : ∃ L, s.L = L := ⟨_, rfl⟩
  simp only [hL] at HO c2 hlt hfew hql hfin
  clear h ok hr hf hx hxm hxid h2 hq hS hL
  go_enter Try.func38, Try.ntmps38
  go_wp2_with (first
    | (go_at_call 25; refine HF.out.mono ?_; rintro e w' ⟨rfl, rfl⟩)
    | (go_at_call 51; refine HO.out.mono ?_; rintro e w2 ⟨rfl, ⟨l2, A⟩, F⟩; have A := hid A)
    | fail)
  clear c0 c1 c2 c3 x0 x1 x2 x3 x4 hg
  obtain ⟨c0, c1, c2, c3, f⟩ := A.out.c
  obtain ⟨hcap, hmx⟩ := A.out.fit
  unfold maxLen at hmx
  obtain ⟨sc, hscd⟩ : ∃ sc, sc = l2.lc := ⟨_, rfl⟩
  rw [← hscd] at hcap hmx c2
  obtain ⟨b, hb⟩ : ∃ b, l2.la = some ⟨b, 0, none⟩ := by
    rcases A.out.list.2 with ⟨hv, h0⟩ | ⟨g', cap', cur, hv, _⟩
    · omega
    · simp only [Value.slice.injEq] at hv
      exact ⟨g', hv.1⟩
  have hseg := Seg.of_owns A.out.list
  rw [hb] at c2 hseg
  have hrb := heap_lt A.out.obj
  have hbw := hseg.lt b rfl
  have hend := hid (fun wb w1 w3 ao1 ao2 cap1 cap2 m => rcut S w2 rb l2 per n L _ r (fun k hk => HS.out k (Nat.le_trans F.out.size hk)) A.out q hlt wb w1 w3 ao1 ao2 cap1 cap2 m)
  have hrow1 : Hid (∀ wb : World, wb.heap = (w2.alloc (.cells #[] 83)).heap → wb.ownsRow w2.heap.size 83 5 (.slice (some ⟨w2.heap.size, 0, none⟩) 0 0) 0 [] ∧ ∀ ad, some (⟨b, 0, none⟩ : Addr) = some ad → ∀ j u, (rones (L.take q))[j]? = some u → wb.cell? (ad.add j) = some u) := by
    intro wb hw
    refine ⟨owns_of_heap (World.ownsRow_made w2 #[] 0 (Nat.le_refl _) (Nat.zero_le _) rfl) (fun j _ => by rw [hw]), fun ad had j u hu => ?_⟩
    cases had
    have hx : wb.heap[b]? = w2.heap[b]? := by rw [hw]; exact Below.heap_alloc _ _ _ hbw
    have := hseg.cells rfl j u (rones_take hu)
    rw [Addr.add_lit] at this ⊢
    rw [World.cell?_of_block (a := ⟨b, 0 + j, none⟩) hx]
    exact this
  have hold : Hid (∀ wb w1 : World, wb.heap = (w2.alloc (.cells #[] 83)).heap → wb.grownBy w1 (some w2.heap.size) → ∀ j, j < w2.heap.size → w1.heap[j]? = w2.heap[j]?) := hid (fun wb w1 hw hg j hj => (hg.block j (by rw [hw, World.size_alloc]; omega) (fun e => by have := Option.some.inj e; omega)).trans (by rw [hw]; exact Below.heap_alloc _ _ _ hj))
  have hl1 : Hid ((rones (L.take q)).length = q * 5) := hid (by rw [rones_len, List.length_take, Nat.min_eq_left (by omega)])
  have hl2 : Hid ((rones (L.drop (q + 1))).length = (L.length - (q + 1)) * 5) := hid (by rw [rones_len, List.length_drop])
  have h1a := hid (rones_one (L.take q))
  have h1b := hid (rones_one (L.drop (q + 1)))
  have f2 := f 2
  have hwr : IntKind.i64.wrap ((q : Int) + 1) = (q : Int) + 1 := IntWalk.i64_in _ (by omega)
  have hqs1 : (q : Int) ≤ (q : Int) + 1 := by omega
  have hq1 : ((q : Int) + 1 ≤ (L.length : Int)) := by omega
  have hq2 : q + 1 ≤ L.length := by omega
  have hq3 : (0 : Int) ≤ (q : Int) + 1 := by omega
  by_cases hsc : sc = q + 1
  · have hrow2 : Hid (∀ wb w1 : World, wb.heap = (w2.alloc (.cells #[] 83)).heap → wb.grownBy w1 (some w2.heap.size) → w1.cell? ⟨rb, 2, none⟩ = some (.slice (some ⟨b, 0, none⟩) L.length sc) ∧ ∀ ad, some (⟨b, 0, none⟩ : Addr) = some ad → ∀ j u, (rones (L.drop (q + 1)))[j]? = some u → w1.cell? (ad.add j) = some u) := hid (by
      intro wb w1 hw hg
      refine ⟨by rw [World.cell?_of_block (a := ⟨rb, 2, none⟩) (hold.out wb w1 hw hg rb hrb)]; exact c2, fun ad had j u hu => ?_⟩
      have : L.drop (q + 1) = [] := List.drop_eq_nil_of_le (by omega)
      rw [this] at hu
      cases hu)
    subst hsc
    have hL1 : L.length = q + 1 := by omega
    have hm : Hid (q = q + (L.length - (q + 1))) := hid (by omega)
    have hl2 := hid (show (rones (L.drop (q + 1))).length = 0 * 5 by rw [hl2.out, hL1]; omega)
    clear hL1 f hseg hold hb hscd HO HF
    go_region_law (first
      | (refine step_append_gen rfl (.tmp 24) (.tmp 30) 72 rfl 83 j0 (.agg #[.int .i64 0, .int .i64 0, .int .i64 0, .int .i64 0, .int .i64 0]) 5 40 Try.underlying72 hj0 jz0 jz1 jz2 rfl (by decide) w2.heap.size _ 0 0 [] (by simp [Act.eval, Act.put]) (hrow1.out _ (by rfl)).1 (some ⟨b, 0, none⟩) q (q + 1) _ (by simp [Act.eval, Act.put]) hl1.out (fun e => by cases e) (hrow1.out _ (by rfl)).2 h1a.out (by unfold maxLen; omega) (by omega) (by simp) ?_; intro ao1 cap1 w1 hown hgr hat; rw [Nat.zero_add, List.nil_append] at hown; have O1 := hid hown; have G1 := hid hgr; have R2 := hid (hrow2.out _ w1 (by rfl) hgr); have r1 := R2.out.1; clear hown hgr hat)
      | (refine step_append_gen rfl (.tmp 31) (.tmp 38) 72 rfl 83 j0 (.agg #[.int .i64 0, .int .i64 0, .int .i64 0, .int .i64 0, .int .i64 0]) 5 40 Try.underlying72 hj0 jz0 jz1 jz2 rfl (by decide) w2.heap.size ao1 q cap1 (rones (L.take q)) (by simp [Act.eval, Act.put]) O1.out (some ⟨b, 0, none⟩) 0 0 (rones (L.drop (q + 1))) (by simp [Act.eval, Act.put]) hl2.out (fun e => by cases e) R2.out.2 h1b.out (by unfold maxLen; omega) (by omega) (Nat.le_of_lt (Nat.lt_of_lt_of_le (by simp) G1.out.size)) ?_; intro ao2 cap2 w3 hown hgr hat; have O2 := hid hown; have G2 := hid hgr; have N := hend.out _ w1 w3 ao1 ao2 cap1 cap2 _ hm.out (by rfl) ⟨by rfl, by rfl, by rfl⟩ G1.out O1.out O2.out G2.out; have n1 := N.c2; have n2 := N.f2; have N := hid N; clear hown hgr hat))
    all_goals
      go_wp2_with fail
      go_ret
      exact ⟨rfl, N.out.fin.elim fun _ a => hfin.out _ _ a, F.out.trans N.out.fr⟩
  · have hrow2 : Hid (∀ wb w1 : World, wb.heap = (w2.alloc (.cells #[] 83)).heap → wb.grownBy w1 (some w2.heap.size) → w1.cell? ⟨rb, 2, none⟩ = some (.slice (some ⟨b, 0, none⟩) L.length sc) ∧ ∀ ad, some (⟨b, (q + 1) * 5, none⟩ : Addr) = some ad → ∀ j u, (rones (L.drop (q + 1)))[j]? = some u → w1.cell? (ad.add j) = some u) := hid (by
      intro wb w1 hw hg
      refine ⟨by rw [World.cell?_of_block (a := ⟨rb, 2, none⟩) (hold.out wb w1 hw hg rb hrb)]; exact c2, fun ad had j u hu => ?_⟩
      cases had
      have := hseg.cells rfl _ u (rones_drop (by omega) hu)
      rw [Addr.add_lit] at this ⊢
      rw [Nat.zero_add] at this
      rw [World.cell?_of_block (a := ⟨b, (q + 1) * 5 + j, none⟩) (hold.out wb w1 hw hg b hbw)]
      exact this)
    have hqs : q ≤ sc := by omega
    have hqt : q + 1 ≤ sc := by omega
    obtain ⟨M, hM⟩ : ∃ M, M = L.length - (q + 1) := ⟨_, rfl⟩
    have hMb : M ≤ 4096 := by omega
    rw [← hM] at hl2 hend
    have hM2 := hM.symm
    clear hM f hseg hold hb hscd HO HF
    go_region_law (first
      | (refine step_append_gen rfl (.tmp 24) (.tmp 30) 72 rfl 83 j0 (.agg #[.int .i64 0, .int .i64 0, .int .i64 0, .int .i64 0, .int .i64 0]) 5 40 Try.underlying72 hj0 jz0 jz1 jz2 rfl (by decide) w2.heap.size _ 0 0 [] (by simp [Act.eval, Act.put]) (hrow1.out _ (by rfl)).1 (some ⟨b, 0, none⟩) q sc _ (by simp [Act.eval, Act.put]) hl1.out (fun e => by cases e) (hrow1.out _ (by rfl)).2 h1a.out (by unfold maxLen; omega) (by omega) (by simp) ?_; intro ao1 cap1 w1 hown hgr hat; rw [Nat.zero_add, List.nil_append] at hown; have O1 := hid hown; have G1 := hid hgr; have R2 := hid (hrow2.out _ w1 (by rfl) hgr); have r1 := R2.out.1; clear hown hgr hat)
      | (refine step_append_gen rfl (.tmp 31) (.tmp 38) 72 rfl 83 j0 (.agg #[.int .i64 0, .int .i64 0, .int .i64 0, .int .i64 0, .int .i64 0]) 5 40 Try.underlying72 hj0 jz0 jz1 jz2 rfl (by decide) w2.heap.size ao1 q cap1 (rones (L.take q)) (by simp [Act.eval, Act.put]) O1.out (some ⟨b, (q + 1) * 5, none⟩) M (sc - (q + 1)) (rones (L.drop (q + 1))) (by simp [Act.eval, Act.put]) hl2.out (fun e => by cases e) R2.out.2 h1b.out (by unfold maxLen; omega) (by omega) (Nat.le_of_lt (Nat.lt_of_lt_of_le (by simp) G1.out.size)) ?_; intro ao2 cap2 w3 hown hgr hat; have O2 := hid hown; have G2 := hid hgr; have N := hend.out _ w1 w3 ao1 ao2 cap1 cap2 _ rfl (by rfl) ⟨by rfl, by rfl, by rfl⟩ G1.out O1.out O2.out G2.out; have n1 := N.c2; have n2 := N.f2; have N := hid N; clear hown hgr hat))
    all_goals
      go_wp2_with fail
      go_ret
      exact ⟨rfl, N.out.fin.elim fun _ a => hfin.out _ _ a, F.out.trans N.out.fr⟩

set_option maxHeartbeats 2000000 in
set_option maxRecDepth 100000 in
/-- Remove, whoever. -/
theorem rremove_t (hS : ∀ k, w.heap.size ≤ k → S k) (id : Int) :
    Calls Try.prog 38 #[.pointer (some ⟨rb, 0, none⟩), .int .i64 id] w fun e w' => e = .returned (.int .i64 (removeV s id)) ∧ Hid (RR S w' rb per n (removeN s id)) ∧ Hid (Fr S w w') := by
  have HC := hid h
  obtain ⟨l, r, h1, hr⟩ := h
  have HF := hid (rfind_c S w rb l per n s.L s.Q r h1 id)
  obtain ⟨c0, c1, c2, c3, _⟩ := h1.c
  cases hf : findO s.L id with
  | none =>
    have e1 : removeV s id = 14 := by unfold removeV; rw [hf]
    have e2 : removeN s id = s := by unfold removeN; rw [hf]
    rw [e1, e2]
    rw [findP_none hf] at HF
    clear h1 ok hS hr hf e1 e2
    go_enter Try.func38, Try.ntmps38
    go_wp2_with (first | (go_at_call 25; refine HF.out.mono ?_; rintro e w' ⟨rfl, rfl⟩) | fail)
    go_ret
    exact ⟨rfl, HC.out, Fr.refl S w⟩
  | some x =>
    by_cases h3 : x.state = 2
    · obtain ⟨j, hj, hx⟩ := findP_some ok.apart hf
      rw [hj] at HF
      have hjl := (List.getElem?_eq_some_iff.1 hx).1
      have hj2 : ((j : Int) < (s.L.length : Int)) := by omega
      have hj0 : ¬ ((j : Int) < 0) := by omega
      obtain ⟨g, hg, x0, x1, x2, x3, x4, _⟩ := h1.x hx
      rw [hg] at c2
      have e1 : removeV s id = 21 := by unfold removeV; rw [hf]; exact if_pos h3
      have e2 : removeN s id = s := by unfold removeN; rw [hf]; exact if_pos h3
      rw [e1, e2]
      have t1 : (x.state == 2) = true := by simpa using h3
      clear h1 ok hS hf e1 e2 hr hx hjl h3
      go_enter Try.func38, Try.ntmps38
      go_wp2_with (first
        | (go_at_call 25; refine HF.out.mono ?_; rintro e w' ⟨rfl, rfl⟩)
        | fail)
      go_ret
      exact ⟨rfl, HC.out, Fr.refl S w⟩
    · have e1 : removeV s id = 0 := by unfold removeV; rw [hf]; exact if_neg h3
      have e2 : removeN s id = removeS s x := by unfold removeN; rw [hf]; exact if_neg h3
      rw [e1, e2]
      exact rremove_yes S w rb per n s HC.out ok hS id x hf h3
end
end Go.Proofs.Ytehjekcfhmmggaa

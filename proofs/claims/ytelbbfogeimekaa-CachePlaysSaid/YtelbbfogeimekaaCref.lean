/-
  The reference's cache in memory; at, Get. No conditions.
-/
import Derived.Test.YtelbbfogeimekaaRows
import Derived.Test.YtelbbfogeimekaaCac0
import Derived.Test.YtelbbfogeimekaaSeg
import Derived.Deep.LoopGhost
namespace Go.Proofs.Ytelbbfogeimekaa
open Go.RowKit

def its : List (Ent Int Int) → List Value
  | [] => []
  | e :: L => .int .i64 e.g :: .int .u64 e.k :: .int .i64 e.v :: its L

theorem its_len (L : List (Ent Int Int)) : (its L).length = L.length * 3 := by
  induction L with
  | nil => rfl
  | cons e L ih => simp [its, ih]; omega

theorem its_append (A B : List (Ent Int Int)) : its (A ++ B) = its A ++ its B := by
  induction A with
  | nil => rfl
  | cons e A ih => simp [its, ih]

theorem its_at : ∀ {L : List (Ent Int Int)} {j : Nat} {e : Ent Int Int}, L[j]? = some e → (its L)[j * 3]? = some (.int .i64 e.g) ∧ (its L)[j * 3 + 1]? = some (.int .u64 e.k) ∧ (its L)[j * 3 + 2]? = some (.int .i64 e.v)
  | [], _, _, h => by cases h
  | x :: L, 0, e, h => by
    obtain rfl : x = e := by simpa using h
    exact ⟨rfl, rfl, rfl⟩
  | x :: L, j + 1, e, h => by
    have := its_at (L := L) (j := j) (e := e) (by simpa using h)
    rw [show (j + 1) * 3 = j * 3 + 1 + 1 + 1 by omega]
    simp only [its, List.getElem?_cons_succ]
    exact this

structure RAt (S : Nat → Prop) (w : World) (rb : Nat) (so : Option Addr) (sc : Nat) (room : Nat) (L : List (Ent Int Int)) : Prop where
  cells : w.heap[rb]? = some (.cells #[.int .i64 room, .slice so L.length sc] 49 (0, 0))
  seg : Seg w 74 3 so L.length sc (its L)
  ne : blk so ≠ some rb
  mine : S rb ∧ ∀ g, blk so = some g → S g

def REF (S : Nat → Prop) (w : World) (rb room : Nat) (L : List (Ent Int Int)) : Prop := ∃ so sc, RAt S w rb so sc room L

section
variable {S T : Nat → Prop} {w w' : World} {rb : Nat} {so : Option Addr} {sc room : Nat} {L : List (Ent Int Int)}

theorem RAt.of_heap (h : RAt S w rb so sc room L) (hb : ∀ k, k < w.heap.size → S k → w'.heap[k]? = w.heap[k]?) : RAt S w' rb so sc room L :=
  ⟨by rw [hb rb (heap_lt h.cells) h.mine.1]; exact h.cells, h.seg.of_heap (fun g hg => hb g (h.seg.lt g hg) (h.mine.2 g hg)), h.ne, h.mine⟩

theorem REF.kept (h : REF S w rb room L) (hf : Fr T w w') (hT : ∀ k, k < w.heap.size → S k → ¬ T k) : REF S w' rb room L := by
  obtain ⟨so, sc, h⟩ := h
  exact ⟨so, sc, h.of_heap (fun k hk hs => hf.block k hk (hT k hk hs))⟩

theorem REF.mono (h : REF S w rb room L) (hT : ∀ k, k < w.heap.size → S k → T k) : REF T w rb room L := by
  obtain ⟨so, sc, h⟩ := h
  exact ⟨so, sc, h.cells, h.seg, h.ne, hT _ (heap_lt h.cells) h.mine.1, fun g hg => hT g (h.seg.lt g hg) (h.mine.2 g hg)⟩

theorem RAt.locs (h : RAt S w rb so sc room L) : w.cell? ⟨rb, 0, none⟩ = some (.int .i64 room) ∧ w.cell? ⟨rb, 1, none⟩ = some (.slice so L.length sc) ∧ ∀ o, w.frozen? ⟨rb, o, none⟩ = false :=
  ⟨(cell_at h.cells).trans rfl, (cell_at h.cells).trans rfl, fun _ => thawed h.cells⟩

theorem RAt.item (h : RAt S w rb so sc room L) {j : Nat} {e : Ent Int Int} (he : L[j]? = some e) : ∃ b off, so = some ⟨b, off, none⟩ ∧ w.cell? ⟨b, off + j * 3, none⟩ = some (.int .i64 e.g) ∧ w.cell? ⟨b, off + j * 3 + 1, none⟩ = some (.int .u64 e.k) ∧ w.cell? ⟨b, off + j * 3 + 2, none⟩ = some (.int .i64 e.v) := by
  have hj : j < L.length := (List.getElem?_eq_some_iff.1 he).1
  obtain ⟨b, off, hb⟩ := h.seg.ptr (Nat.lt_of_lt_of_le (Nat.lt_of_le_of_lt (Nat.zero_le _) hj) h.seg.2.1)
  obtain ⟨a1, a2, a3⟩ := its_at he
  exact ⟨b, off, hb, h.seg.cell hb _ _ a1, h.seg.cell hb _ _ a2, h.seg.cell hb _ _ a3⟩
end

set_option maxHeartbeats 1000000 in
set_option maxRecDepth 100000 in
/-- at: the place of a key, or -1. -/
theorem at_ref (S : Nat → Prop) (w : World) (rb room : Nat) (L : List (Ent Int Int)) (h : REF S w rb room L) (g k : Int) : Calls Try.prog 33 #[.pointer (some ⟨rb, 0, none⟩), .int .i64 g, .int .u64 k] w fun e w' => e = .returned (.int .i64 (if hasE L g k = true then (idxE L g k : Int) else -1)) ∧ w = w' := by
  obtain ⟨so, sc, h⟩ := h
  obtain ⟨c0, c1, f⟩ := h.locs
  have hcap := h.seg.2.1
  have hmx := h.seg.2.2.1
  unfold maxLen at hmx
  have H := hid h
  obtain ⟨R, hR0⟩ : ∃ R : Int, R = if hasE L g k = true then (idxE L g k : Int) else -1 := ⟨_, rfl⟩
  rw [← hR0]
  have hR := hid hR0
  clear h f hR0
  go_enter Try.func33, Try.ntmps33
  go_wp2_with fail
  go_loopg [7] L.length (fun gg vi wr => ∃ j : Nat, j ≤ L.length ∧ (∀ i e, i < j → L[i]? = some e → isE g k e = false) ∧ gg = L.length - j ∧ vi = .int .i64 j ∧ wr = w)
  case atStart => exact ⟨0, Nat.zero_le _, fun i e hi => absurd hi (by omega), rfl, rfl, rfl⟩
  case round =>
    as_aux_lemma =>
      obtain ⟨j, hj, hbef0, rfl, rfl, rfl⟩ := hrel
      have hbef := hid hbef0
      clear hbef0
      by_cases hlt : j < L.length
      · obtain ⟨e, he⟩ : ∃ e, L[j]? = some e := ⟨L[j], List.getElem?_eq_getElem hlt⟩
        obtain ⟨b, off, hb, k1, k2, k3⟩ := H.out.item he
        subst hb
        have hjl : ((j : Int) < (L.length : Int)) := by omega
        have he := hid he
        by_cases h1 : e.g = g
        · by_cases h2 : e.k = k
          · have hi : isE g k e = true := isE_iff.2 ⟨h1, h2⟩
            have hfin : R = j := by
              have hh : hasE L g k = true := by
                unfold hasE
                exact List.any_eq_true.2 ⟨e, List.mem_of_getElem? he.out, hi⟩
              rw [hR.out, if_pos hh]
              have : idxE L g k = j := by
                have h3 := idxE_at hh
                obtain ⟨e', h4, h5, _⟩ := h3
                rcases Nat.lt_trichotomy (idxE L g k) j with h6 | h6 | h6
                · have := hbef.out _ e' h6 h4; rw [h5] at this; cases this
                · exact h6
                · have := idxE_before j e h6 he.out; rw [hi] at this; cases this
              rw [this]
            have hF := hid hfin
            have e1 : (e.g == g) = true := by simpa using h1
            have e2 : (e.k == k) = true := by simpa using h2
            clear hfin hi h1 h2 hj hlt
            go_wp2_with fail
            go_ret
            exact ⟨by rw [hF.out]; rfl, rfl⟩
          · have hi := hid (show isE g k e = false by simp [isE, h2])
            have e1 : (e.g == g) = true := by simpa using h1
            have e2 : (e.k == k) = false := by simpa using h2
            clear h1 h2
            go_wp2_with fail
            go_roundg (L.length - (j + 1))
            case measure => omega
            case rel => exact ⟨j + 1, by omega, fun i e' hi' he' => by
              rcases Nat.lt_succ_iff_lt_or_eq.1 hi' with h | rfl
              · exact hbef.out i e' h he'
              · obtain rfl := Option.some.inj (he.out.symm.trans he'); exact hi.out, rfl, by go_num, rfl⟩
        · have hi := hid (show isE g k e = false by simp [isE, h1])
          have e1 : (e.g == g) = false := by simpa using h1
          clear h1
          go_wp2_with fail
          go_roundg (L.length - (j + 1))
          case measure => omega
          case rel => exact ⟨j + 1, by omega, fun i e' hi' he' => by
            rcases Nat.lt_succ_iff_lt_or_eq.1 hi' with h | rfl
            · exact hbef.out i e' h he'
            · obtain rfl := Option.some.inj (he.out.symm.trans he'); exact hi.out, rfl, by go_num, rfl⟩
      · have hjn : ¬ ((j : Int) < (L.length : Int)) := by omega
        have hfin : R = -1 := by
          rw [hR.out, if_neg]
          intro hh
          obtain ⟨e', h4, h5, _⟩ := idxE_at hh
          have := hbef.out _ e' (Nat.lt_of_lt_of_le (idxE_lt hh) (by omega)) h4
          rw [h5] at this; cases this
        have hF := hid hfin
        clear hfin hj hlt
        go_wp2_with fail
        go_ret
        exact ⟨by rw [hF.out]; rfl, rfl⟩

/-- Get. -/
theorem get_ref (S : Nat → Prop) (w : World) (rb room : Nat) (L : List (Ent Int Int)) (h : REF S w rb room L) (g k : Int) : Calls Try.prog 18 #[.pointer (some ⟨rb, 0, none⟩), .int .i64 g, .int .u64 k] w fun e w' => e = .returned (.tuple #[.int .i64 ((getE L g k).getD 0), .bool (hasE L g k)]) ∧ w = w' := by
  have HA := hid (at_ref S w rb room L h g k)
  obtain ⟨so, sc, h⟩ := h
  obtain ⟨c0, c1, f⟩ := h.locs
  have hcap := h.seg.2.1
  have hmx := h.seg.2.2.1
  unfold maxLen at hmx
  cases hh : hasE L g k with
  | false =>
    have hg : getE L g k = none := by have := hasE_get g k L; rw [hh] at this; cases hx : getE L g k <;> rw [hx] at this <;> first | rfl | cases this
    rw [hh] at HA
    simp only [Bool.false_eq_true, ↓reduceIte] at HA
    rw [hg]
    clear h f hg hh
    go_enter Try.func18, Try.ntmps18
    go_wp2_with (first
      | (go_at_call 33; refine HA.out.mono ?_; rintro e w' ⟨rfl, rfl⟩)
      | fail)
    go_ret2
    exact ⟨rfl, rfl⟩
  | true =>
    obtain ⟨e, he, _, hg⟩ := idxE_at hh
    have hlt := idxE_lt hh
    obtain ⟨b, off, hb, k1, k2, k3⟩ := h.item he
    subst hb
    rw [hh] at HA
    simp only [↓reduceIte] at HA
    rw [hg]
    obtain ⟨q, hq⟩ : ∃ q, q = idxE L g k := ⟨_, rfl⟩
    rw [← hq] at HA k1 k2 k3 hlt
    have hql : ((q : Int) < (L.length : Int)) := by omega
    have hq0 : ¬ ((q : Int) < 0) := by omega
    clear h f hg hh he hq
    go_enter Try.func18, Try.ntmps18
    go_wp2_with (first
      | (go_at_call 33; refine HA.out.mono ?_; rintro e w' ⟨rfl, rfl⟩)
      | fail)
    go_ret2
    exact ⟨rfl, rfl⟩
end Go.Proofs.Ytelbbfogeimekaa

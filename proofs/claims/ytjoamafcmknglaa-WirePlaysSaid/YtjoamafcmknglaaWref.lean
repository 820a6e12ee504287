/-
  The reference's wire: what it is in memory, and how it turns. No conditions.
-/
import Derived.Test.YtjoamafcmknglaaOpen
import Derived.Test.YtjoamafcmknglaaSeg
namespace Go.Proofs.Ytjoamafcmknglaa
open Go.RowKit Go.Conc

def str (l : List UInt8) : Value := .string ⟨l.toArray⟩
def mv (m : Int × List UInt8) : List Value := [.int .i64 m.1, str m.2]
/-- Messages as cells. -/
def mvv : List (Int × List UInt8) → List Value
  | [] => []
  | m :: l => mv m ++ mvv l
theorem mvv_append (l l' : List (Int × List UInt8)) : mvv (l ++ l') = mvv l ++ mvv l' := by
  induction l with
  | nil => rfl
  | cons m l ih => simp [mvv, ih]

/-- The reference's wire of n ports at block rb, all its blocks among S. -/
structure VAt (S : Nat → Prop) (w : World) (rb gb gc ab n : Nat) (G : Nat → Int) (wa : Nat → Option Addr) (wc : Nat → Nat) (Q : QS) : Prop where
  l : w.heap[rb]? = some (.cells #[.slice (some ⟨gb, 0, none⟩) n gc, .slice (some ⟨ab, 0, none⟩) n n] 63 (0, 0))
  grp : ∃ cur, w.heap[gb]? = some (.cells cur 3 (0, 0)) ∧ ∀ i, i < n → cur[i]? = some (.int .i64 (G i))
  tab : ∃ cur, w.heap[ab]? = some (.cells cur 60 (0, 0)) ∧ ∀ i, i < n → cur[i]? = some (.slice (wa i) (Q i).length (wc i))
  row : ∀ i, i < n → Seg w 55 2 (wa i) (Q i).length (wc i) (mvv (Q i))
  len : ∀ i, i < n → (Q i).length ≤ 16
  ne : rb ≠ gb ∧ rb ≠ ab ∧ gb ≠ ab ∧ ∀ i, i < n → blk (wa i) ≠ some rb ∧ blk (wa i) ≠ some gb ∧ blk (wa i) ≠ some ab
  dist : ∀ i j, i < n → j < n → i ≠ j → ∀ g, blk (wa i) = some g → blk (wa j) ≠ some g
  mine : S rb ∧ S gb ∧ S ab ∧ ∀ i, i < n → ∀ g, blk (wa i) = some g → S g

def VP (S : Nat → Prop) (w : World) (rb n : Nat) (G : Nat → Int) (Q : QS) : Prop := ∃ gb gc ab wa wc, VAt S w rb gb gc ab n G wa wc Q

section
variable {S T : Nat → Prop} {w w' : World} {rb gb gc ab n : Nat} {G : Nat → Int} {wa : Nat → Option Addr} {wc : Nat → Nat} {Q : QS}

theorem VAt.of_heap (h : VAt S w rb gb gc ab n G wa wc Q) (hb : ∀ k, k < w.heap.size → S k → w'.heap[k]? = w.heap[k]?) : VAt S w' rb gb gc ab n G wa wc Q := by
  obtain ⟨g1, h1, h2⟩ := h.grp
  obtain ⟨p1, h3, h4⟩ := h.tab
  refine ⟨?_, ⟨g1, ?_, h2⟩, ⟨p1, ?_, h4⟩, fun i hi => (h.row i hi).of_heap (fun g hg => hb g ((h.row i hi).lt g hg) (h.mine.2.2.2 i hi g hg)), h.len, h.ne, h.dist, h.mine⟩
  · rw [hb _ (heap_lt h.l) h.mine.1]; exact h.l
  · rw [hb _ (heap_lt h1) h.mine.2.1]; exact h1
  · rw [hb _ (heap_lt h3) h.mine.2.2.1]; exact h3

theorem VP.kept (h : VP S w rb n G Q) (hf : Fr T w w') (hT : ∀ k, k < w.heap.size → S k → ¬ T k) : VP S w' rb n G Q := by
  obtain ⟨gb, gc, ab, wa, wc, h⟩ := h
  exact ⟨gb, gc, ab, wa, wc, h.of_heap (fun k hk hs => hf.block k hk (hT k hk hs))⟩

theorem VP.same (h : VP S w rb n G Q) (e : w'.heap = w.heap) : VP S w' rb n G Q := by
  obtain ⟨gb, gc, ab, wa, wc, h⟩ := h
  exact ⟨gb, gc, ab, wa, wc, h.of_heap (fun k hk hs => by rw [e])⟩

theorem VP.mono (h : VP S w rb n G Q) (hT : ∀ k, k < w.heap.size → S k → T k) : VP T w rb n G Q := by
  obtain ⟨gb, gc, ab, wa, wc, h⟩ := h
  obtain ⟨g1, h1, h2⟩ := h.grp
  obtain ⟨p1, h3, h4⟩ := h.tab
  exact ⟨gb, gc, ab, wa, wc, h.l, h.grp, h.tab, h.row, h.len, h.ne, h.dist, hT _ (heap_lt h.l) h.mine.1, hT _ (heap_lt h1) h.mine.2.1, hT _ (heap_lt h3) h.mine.2.2.1, fun i hi g hg => hT _ ((h.row i hi).lt g hg) (h.mine.2.2.2 i hi g hg)⟩

theorem VP.lt (h : VP S w rb n G Q) : rb < w.heap.size := by
  obtain ⟨gb, gc, ab, wa, wc, h⟩ := h
  exact heap_lt h.l

theorem VAt.cellsP (h : VAt S w rb gb gc ab n G wa wc Q) : w.cell? ⟨rb, 0, none⟩ = some (.slice (some ⟨gb, 0, none⟩) n gc) ∧ w.cell? ⟨rb, 1, none⟩ = some (.slice (some ⟨ab, 0, none⟩) n n) ∧
    (∀ i, i < n → w.cell? ⟨gb, i, none⟩ = some (.int .i64 (G i))) ∧ (∀ i, i < n → w.cell? ⟨ab, i, none⟩ = some (.slice (wa i) (Q i).length (wc i))) ∧ (∀ o, w.frozen? ⟨gb, o, none⟩ = false) ∧ (∀ o, w.frozen? ⟨ab, o, none⟩ = false) := by
  obtain ⟨g1, h1, h2⟩ := h.grp
  obtain ⟨p1, h3, h4⟩ := h.tab
  exact ⟨(cell_at h.l).trans rfl, (cell_at h.l).trans rfl, fun i hi => (cell_at h1).trans (h2 i hi), fun i hi => (cell_at h3).trans (h4 i hi), fun o => thawed h1, fun o => thawed h3⟩

theorem get_set (cur : Array Value) (p q : Nat) (v : Value) (h : (cur[p]?).isSome = true) : (cur.setIfInBounds p v)[q]? = if p = q then some v else cur[q]? := by
  rw [Array.getElem?_setIfInBounds]
  have : p < cur.size := by
    rcases Nat.lt_or_ge p cur.size with h' | h'
    · exact h'
    · rw [Array.getElem?_eq_none h'] at h; cases h
  split
  · rfl
  · rfl

/-- A group written. -/
theorem VAt.join (h : VAt S w rb gb gc ab n G wa wc Q) {i : Nat} (hi : i < n) (x : Int) : VAt S (w.setCell ⟨gb, i, none⟩ (.int .i64 x)) rb gb gc ab n (updA G i x) wa wc Q := by
  obtain ⟨g1, h1, h2⟩ := h.grp
  obtain ⟨p1, h3, h4⟩ := h.tab
  refine ⟨by rw [heap_set_ne h.ne.1]; exact h.l, ⟨_, heap_set h1 _, fun j hj => ?_⟩, ⟨p1, by rw [heap_set_ne (fun e => h.ne.2.2.1 e.symm)]; exact h3, h4⟩, fun j hj => (h.row j hj).of_heap (fun g hg => heap_set_ne (fun e => (h.ne.2.2.2 j hj).2.1 (by rw [hg]; exact congrArg some e)) _), h.len, h.ne, h.dist, h.mine⟩
  rw [get_set _ _ _ _ (by rw [h2 i hi]; rfl)]
  unfold updA
  by_cases e : j = i
  · subst e; simp
  · rw [if_neg (fun e' => e e'.symm), if_neg e]; exact h2 j hj

/-- A port's messages turned: in a world where the rest is as it was. -/
theorem VAt.turn {w1 : World} (h : VAt S w rb gb gc ab n G wa wc Q) {i : Nat} (hi : i < n) (hb : ∀ k, k < w.heap.size → blk (wa i) ≠ some k → w1.heap[k]? = w.heap[k]?)
    (a : Option Addr) (c : Nat) (l : List (Int × List UInt8)) (hl16 : l.length ≤ 16) (hseg : Seg w1 55 2 a l.length c (mvv l)) (hat : ∀ g, blk a = some g → blk (wa i) = some g ∨ (w.heap.size ≤ g ∧ S g)) :
    VP S (w1.setCell ⟨ab, i, none⟩ (.slice a l.length c)) rb n G (updA Q i l) := by
  obtain ⟨g1, h1, h2⟩ := h.grp
  obtain ⟨cur, t2, t3⟩ := h.tab
  have hr1 : w1.heap[rb]? = w.heap[rb]? := hb rb (heap_lt h.l) (h.ne.2.2.2 i hi).1
  have hg1 : w1.heap[gb]? = w.heap[gb]? := hb gb (heap_lt h1) (h.ne.2.2.2 i hi).2.1
  have ha1 : w1.heap[ab]? = w.heap[ab]? := hb ab (heap_lt t2) (h.ne.2.2.2 i hi).2.2
  have hne : ∀ g, blk a = some g → g ≠ rb ∧ g ≠ gb ∧ g ≠ ab := by
    intro g hg
    rcases hat g hg with e | ⟨e, _⟩
    · exact ⟨fun e' => (h.ne.2.2.2 i hi).1 (by rw [e, e']), fun e' => (h.ne.2.2.2 i hi).2.1 (by rw [e, e']), fun e' => (h.ne.2.2.2 i hi).2.2 (by rw [e, e'])⟩
    · have := heap_lt h.l; have := heap_lt t2; have := heap_lt h1
      exact ⟨by omega, by omega, by omega⟩
  have hdis : ∀ j, j < n → j ≠ i → ∀ g, blk a = some g → blk (wa j) ≠ some g := by
    intro j hj hji g hg
    rcases hat g hg with e | ⟨e, _⟩
    · exact h.dist i j hi hj (Ne.symm hji) g e
    · intro e'
      have := (h.row j hj).lt g e'
      omega
  refine ⟨gb, gc, ab, fun j => if j = i then a else wa j, fun j => if j = i then c else wc j, ?_, ⟨g1, ?_, h2⟩, ⟨_, heap_set (ha1.trans t2) _, fun j hj => ?_⟩, fun j hj => ?_, fun j hj => ?_, ⟨h.ne.1, h.ne.2.1, h.ne.2.2.1, fun j hj => ?_⟩, fun j k hj hk hjk g hg => ?_, ⟨h.mine.1, h.mine.2.1, h.mine.2.2.1, fun j hj g hg => ?_⟩⟩
  · rw [heap_set_ne h.ne.2.1, hr1]; exact h.l
  · rw [heap_set_ne h.ne.2.2.1, hg1]; exact h1
  · rw [get_set _ _ _ _ (by rw [t3 i hi]; rfl)]
    unfold updA
    by_cases e : j = i
    · subst e; simp
    · rw [if_neg (fun e' => e e'.symm), if_neg e, if_neg e, if_neg e]; exact t3 j hj
  · unfold updA
    by_cases e : j = i
    · subst e
      simp only [if_true]
      exact hseg.of_heap (fun g hg => heap_set_ne (hne g hg).2.2 _)
    · simp only [if_neg e]
      refine (h.row j hj).of_heap (fun g hg => ?_)
      rw [heap_set_ne (fun e' => (h.ne.2.2.2 j hj).2.2 (by rw [hg]; exact congrArg some e'))]
      exact hb g ((h.row j hj).lt g hg) (fun e' => h.dist j i hj hi e g hg e')
  · unfold updA
    by_cases e : j = i
    · simp only [if_pos e]; exact hl16
    · simp only [if_neg e]; exact h.len j hj
  · by_cases e : j = i
    · simp only [if_pos e]
      exact ⟨fun e' => (hne _ e').1 rfl, fun e' => (hne _ e').2.1 rfl, fun e' => (hne _ e').2.2 rfl⟩
    · simp only [if_neg e]; exact h.ne.2.2.2 j hj
  · by_cases e : j = i
    · simp only [if_pos e] at hg
      have hki : k ≠ i := fun e' => hjk (e.trans e'.symm)
      simp only [if_neg hki]
      exact hdis k hk hki g hg
    · simp only [if_neg e] at hg
      by_cases e' : k = i
      · simp only [if_pos e']
        exact fun q => hdis j hj e g q hg
      · simp only [if_neg e']; exact h.dist j k hj hk hjk g hg
  · by_cases e : j = i
    · simp only [if_pos e] at hg
      rcases hat g hg with q | ⟨_, q⟩
      · exact h.mine.2.2.2 i hi g q
      · exact q
    · simp only [if_neg e] at hg; exact h.mine.2.2.2 j hj g hg
end

set_option maxHeartbeats 400000 in
theorem v_has (w : World) (rb gb n cap : Nat) (v : Value) (h : w.heap[rb]? = some (.cells #[.slice (some ⟨gb, 0, none⟩) n cap, v] 63 (0, 0))) (i : Int) :
    Hid (Calls Try.prog 19 #[.pointer (some ⟨rb, 0, none⟩), .int .i64 i] w fun e w' => e = .returned (.bool (inR n i)) ∧ w = w') := by
  have c0 := cell_at (o := 0) h
  simp at c0
  clear h
  unfold Hid
  by_cases h0 : 0 ≤ i
  · go_enter Try.func19, Try.ntmps19
    go_wp2
    go_ret
    exact ⟨by simp [inR, h0], rfl⟩
  · go_enter Try.func19, Try.ntmps19
    go_wp2
    go_ret
    exact ⟨by rw [show inR n i = false from decide_eq_false (fun h => by omega)]; rfl, rfl⟩

section
variable (S : Nat → Prop) (w : World) (rb n : Nat) (G : Nat → Int) (Q : QS) (h : VP S w rb n G Q)
include h

theorem v_has' (i : Int) : Hid (Calls Try.prog 19 #[.pointer (some ⟨rb, 0, none⟩), .int .i64 i] w fun e w' => e = .returned (.bool (inR n i)) ∧ w = w') := by
  obtain ⟨gb, gc, ab, wa, wc, h⟩ := h
  exact v_has w rb gb n gc _ h.l i

set_option maxHeartbeats 400000 in
theorem v_join (i : Int) (x : Int) : Calls Try.prog 18 #[.pointer (some ⟨rb, 0, none⟩), .int .i64 i, .int .i64 x] w fun e w' => e = .returned (.int .i64 (if inR n i = true then 0 else 2)) ∧ Hid (VP S w' rb n (if inR n i = true then updA G i.toNat x else G) Q) ∧ Hid (Fr S w w') := by
  have HW := v_has' S w rb n G Q h i
  cases hr : inR n i with
  | false =>
    rw [hr] at HW
    have H := hid h
    clear h hr
    simp only [Bool.false_eq_true, ↓reduceIte]
    go_enter Try.func18, Try.ntmps18
    go_wp2_with (go_at_call 19; refine HW.out.mono ?_; rintro e w' ⟨rfl, rfl⟩)
    go_ret
    exact ⟨rfl, H.out, Fr.refl _ _⟩
  | true =>
    rw [hr] at HW
    obtain ⟨k, rfl, hk⟩ := inR_nat hr
    obtain ⟨gb, gc, ab, wa, wc, h⟩ := h
    obtain ⟨c0, c1, c2, c3, f0, f1⟩ := h.cellsP
    replace c2 := c2 k hk
    replace f0 := f0 k
    have hkn : ((k : Int) < (n : Int)) := by omega
    have hend : Hid (VP S (w.setCell ⟨gb, k, none⟩ (.int .i64 x)) rb n (updA G k x) Q ∧ Fr S w (w.setCell ⟨gb, k, none⟩ (.int .i64 x))) := ⟨⟨gb, gc, ab, wa, wc, h.join hk x⟩, (Fr.refl S w).setCell (fun _ => h.mine.2.1) _⟩
    clear h hr c1 c3 f1
    simp only [↓reduceIte, Int.toNat_natCast]
    go_enter Try.func18, Try.ntmps18
    go_wp2_with (go_at_call 19; refine HW.out.mono ?_; rintro e w' ⟨rfl, rfl⟩)
    go_ret
    exact ⟨rfl, hend.out.1, hend.out.2⟩
end
end Go.Proofs.Ytjoamafcmknglaa

/-
  The reference's scheduler in memory, and what a store does to it. No conditions.
-/
import Derived.Test.YtehjekcfhmmggaaCreG
import Derived.Test.YtehjekcfhmmggaaSeg
namespace Go.Proofs.Ytehjekcfhmmggaa
open Go.RowKit

def rones : List One → List Value
  | [] => []
  | x :: L => .int .i64 x.id :: .int .i64 x.weight :: .int .i64 x.credit :: .int .i64 x.core :: .int .i64 x.state :: rones L
def ronesOf (x : One) : List Value := [.int .i64 x.id, .int .i64 x.weight, .int .i64 x.credit, .int .i64 x.core, .int .i64 x.state]

theorem rones_len (L : List One) : (rones L).length = L.length * 5 := by
  induction L with
  | nil => rfl
  | cons e L ih => simp [rones, ih]; omega
theorem rones_append (A B : List One) : rones (A ++ B) = rones A ++ rones B := by
  induction A with
  | nil => rfl
  | cons e A ih => simp [rones, ih]
theorem rones_at : ∀ {L : List One} {j : Nat} {x : One}, L[j]? = some x → (rones L)[j * 5]? = some (.int .i64 x.id) ∧ (rones L)[j * 5 + 1]? = some (.int .i64 x.weight) ∧ (rones L)[j * 5 + 2]? = some (.int .i64 x.credit) ∧ (rones L)[j * 5 + 3]? = some (.int .i64 x.core) ∧ (rones L)[j * 5 + 4]? = some (.int .i64 x.state)
  | [], _, _, h => by cases h
  | y :: L, 0, x, h => by
    obtain rfl : y = x := by simpa using h
    exact ⟨rfl, rfl, rfl, rfl, rfl⟩
  | y :: L, j + 1, x, h => by
    have := rones_at (L := L) (j := j) (x := x) (by simpa using h)
    rw [show (j + 1) * 5 = j * 5 + 1 + 1 + 1 + 1 + 1 by omega]
    simp only [rones, List.getElem?_cons_succ]
    exact this
theorem rones_set : ∀ {L : List One} {j : Nat} {x y : One} {k : Nat} {v : Value}, L[j]? = some x → k < 5 → (ronesOf x).set k v = ronesOf y → (rones L).set (j * 5 + k) v = rones (L.set j y)
  | [], _, _, _, _, _, h, _, _ => by cases h
  | z :: L, 0, x, y, k, v, h, hk, he => by
    obtain rfl : z = x := by simpa using h
    show (ronesOf z ++ rones L).set (0 * 5 + k) v = ronesOf y ++ rones L
    rw [← he, List.set_append_left _ _ (by simp [ronesOf]; omega), show 0 * 5 + k = k by omega]
  | z :: L, j + 1, x, y, k, v, h, hk, he => by
    have ih := rones_set (L := L) (j := j) (by simpa using h) hk he
    rw [show (j + 1) * 5 + k = j * 5 + k + 1 + 1 + 1 + 1 + 1 by omega, List.set_cons_succ]
    simp only [rones, List.set_cons_succ]
    rw [ih]
theorem rones_one (L : List One) : ∀ u ∈ rones L, u.oneCell' = true := by
  induction L with
  | nil => intro u hu; cases hu
  | cons x L ih =>
    intro u hu
    simp only [rones, List.mem_cons] at hu
    rcases hu with rfl | rfl | rfl | rfl | rfl | hu
    · rfl
    · rfl
    · rfl
    · rfl
    · rfl
    · exact ih u hu

/-- Where its parts lie. -/
structure RLay where
  la : Option Addr
  lc : Nat
  qb : Nat
  qa : Nat → Option Addr
  qc : Nat → Nat

def ranC (r : Nat → Int) : List Value := (List.range 8).map fun i => .int .i64 (r i)
def refC (n per : Nat) (l : RLay) (len : Nat) (r : Nat → Int) : Array Value := #[.int .i64 n, .int .i64 per, .slice l.la len l.lc, .slice (some ⟨l.qb, 0, none⟩) n n, .int .i64 (r 0), .int .i64 (r 1), .int .i64 (r 2), .int .i64 (r 3), .int .i64 (r 4), .int .i64 (r 5), .int .i64 (r 6), .int .i64 (r 7)]

def RQ (w : World) (l : RLay) (n : Nat) (Q : Nat → List Int) : Prop :=
  ∃ cur : Array Value, w.heap[l.qb]? = some (.cells cur 49 (0, 0)) ∧ ∀ i, i < n → cur[i]? = some (.slice (l.qa i) (Q i).length (l.qc i))

structure RAt (S : Nat → Prop) (w : World) (rb : Nat) (l : RLay) (per n : Nat) (L : List One) (Q : Nat → List Int) (r : Nat → Int) : Prop where
  obj : w.heap[rb]? = some (.cells (refC n per l L.length r) 75 (0, 0))
  row : RQ w l n Q
  list : w.ownsRow 0 83 5 (.slice l.la L.length l.lc) L.length (rones L)
  queue : ∀ i, i < n → w.ownsRow 0 3 1 (.slice (l.qa i) (Q i).length (l.qc i)) (Q i).length (ints (Q i))
  qinj : ∀ i j g, i < n → j < n → blk (l.qa i) = some g → blk (l.qa j) = some g → i = j
  mine : S rb ∧ S l.qb ∧ (∀ g, blk l.la = some g → S g) ∧ ∀ i g, i < n → blk (l.qa i) = some g → S g

theorem heap_mod {w w' : World} {k : Nat} {o : Obj} (h : w'.heap[k]? = w.heap[k]?) (h2 : w.heap[k]? = some o) : w'.heap[k]? = some o := h.trans h2

theorem owns_set {w : World} {base e size c n : Nat} {g : Nat} {xs ys : List Value} (h : w.ownsRow base e size (.slice (some ⟨g, 0, none⟩) n c) n xs) (j : Nat) (v : Value) (hy : xs.set j v = ys) : (w.setCell ⟨g, j, none⟩ v).ownsRow base e size (.slice (some ⟨g, 0, none⟩) n c) n ys := by
  subst hy
  obtain ⟨h1, h2⟩ := h
  refine ⟨by simpa using h1, ?_⟩
  rcases h2 with ⟨hv, _⟩ | ⟨g', cap', cur, hv, hb, hg, h3, h4, h5, h6⟩
  · simp only [Value.slice.injEq] at hv; cases hv.1
  · simp only [Value.slice.injEq] at hv
    obtain ⟨hv1, hv2, rfl⟩ := hv
    cases hv1
    refine .inr ⟨g, c, _, rfl, hb, heap_set hg v, h3, h4, by simpa using h5, ?_⟩
    rw [← h6, Array.toList_setIfInBounds]
    exact List.take_set

section
variable {S T : Nat → Prop} {w w' : World} {rb : Nat} {l : RLay} {per n : Nat} {L : List One} {Q : Nat → List Int} {r : Nat → Int}

theorem RAt.of_heap (h : RAt S w rb l per n L Q r) (hb : ∀ k, k < w.heap.size → S k → w'.heap[k]? = w.heap[k]?) : RAt S w' rb l per n L Q r := by
  obtain ⟨cur, hc, hr⟩ := h.row
  exact ⟨heap_mod (hb rb (heap_lt h.obj) h.mine.1) h.obj, ⟨cur, heap_mod (hb _ (heap_lt hc) h.mine.2.1) hc, hr⟩,
    owns_of_heap h.list (fun g hg => by rw [ownBlock_slice] at hg; exact hb g (owns_lt h.list g hg) (h.mine.2.2.1 g hg)),
    fun i hi => owns_of_heap (h.queue i hi) (fun g hg => by rw [ownBlock_slice] at hg; exact hb g (owns_lt (h.queue i hi) g hg) (h.mine.2.2.2 i g hi hg)), h.qinj, h.mine⟩
theorem RAt.kept (h : RAt S w rb l per n L Q r) (hf : Fr T w w') (hT : ∀ k, k < w.heap.size → S k → ¬ T k) : RAt S w' rb l per n L Q r :=
  h.of_heap (fun k hk hs => hf.block k hk (hT k hk hs))
theorem RAt.mono (h : RAt S w rb l per n L Q r) (hT : ∀ k, k < w.heap.size → S k → T k) : RAt T w rb l per n L Q r := by
  obtain ⟨cur, hc, _⟩ := h.row
  exact ⟨h.obj, h.row, h.list, h.queue, h.qinj, hT _ (heap_lt h.obj) h.mine.1, hT _ (heap_lt hc) h.mine.2.1, fun g hg => hT g (owns_lt h.list g hg) (h.mine.2.2.1 g hg), fun i g hi hg => hT g (owns_lt (h.queue i hi) g hg) (h.mine.2.2.2 i g hi hg)⟩
theorem RAt.congr (h : RAt S w rb l per n L Q r) {Q' : Nat → List Int} (hQ : ∀ i, i < n → Q' i = Q i) : RAt S w rb l per n L Q' r := by
  obtain ⟨cur, hc, hr⟩ := h.row
  exact ⟨h.obj, ⟨cur, hc, fun i hi => by rw [hQ i hi]; exact hr i hi⟩, h.list, fun i hi => by rw [hQ i hi]; exact h.queue i hi, h.qinj, h.mine⟩

/-- Its own cells. -/
theorem RAt.c (h : RAt S w rb l per n L Q r) : w.cell? ⟨rb, 0, none⟩ = some (.int .i64 n) ∧ w.cell? ⟨rb, 1, none⟩ = some (.int .i64 per) ∧ w.cell? ⟨rb, 2, none⟩ = some (.slice l.la L.length l.lc) ∧ w.cell? ⟨rb, 3, none⟩ = some (.slice (some ⟨l.qb, 0, none⟩) n n) ∧ ∀ o, w.frozen? ⟨rb, o, none⟩ = false :=
  ⟨(cell_at h.obj).trans rfl, (cell_at h.obj).trans rfl, (cell_at h.obj).trans rfl, (cell_at h.obj).trans rfl, fun _ => thawed h.obj⟩
theorem RAt.rn (h : RAt S w rb l per n L Q r) {i : Nat} (hi : i < 8) : w.cell? ⟨rb, 4 + i, none⟩ = some (.int .i64 (r i)) := by
  refine (cell_at h.obj).trans ?_
  match i, hi with
  | 0, _ => rfl
  | 1, _ => rfl
  | 2, _ => rfl
  | 3, _ => rfl
  | 4, _ => rfl
  | 5, _ => rfl
  | 6, _ => rfl
  | 7, _ => rfl
theorem RAt.q (h : RAt S w rb l per n L Q r) {i : Nat} (hi : i < n) : w.cell? ⟨l.qb, i, none⟩ = some (.slice (l.qa i) (Q i).length (l.qc i)) ∧ w.frozen? ⟨l.qb, i, none⟩ = false := by
  obtain ⟨cur, hc, hr⟩ := h.row
  exact ⟨(cell_at hc).trans (hr i hi), thawed hc⟩
theorem RAt.x (h : RAt S w rb l per n L Q r) {j : Nat} {x : One} (hx : L[j]? = some x) : ∃ g, l.la = some ⟨g, 0, none⟩ ∧ w.cell? ⟨g, j * 5, none⟩ = some (.int .i64 x.id) ∧ w.cell? ⟨g, j * 5 + 1, none⟩ = some (.int .i64 x.weight) ∧ w.cell? ⟨g, j * 5 + 2, none⟩ = some (.int .i64 x.credit) ∧ w.cell? ⟨g, j * 5 + 3, none⟩ = some (.int .i64 x.core) ∧ w.cell? ⟨g, j * 5 + 4, none⟩ = some (.int .i64 x.state) ∧ ∀ o, w.frozen? ⟨g, o, none⟩ = false := by
  have hj := (List.getElem?_eq_some_iff.1 hx).1
  have hs := Seg.of_owns h.list
  rcases h.list.2 with ⟨hv, h0⟩ | ⟨g, cap, cur, hv, _, hg, _⟩
  · omega
  · simp only [Value.slice.injEq] at hv
    obtain ⟨a0, a1, a2, a3, a4⟩ := rones_at hx
    have hc : ∀ k u, (rones L)[k]? = some u → w.cell? ⟨g, k, none⟩ = some u := fun k u hu => by
      have := hs.cell hv.1 k u hu
      rwa [Nat.zero_add] at this
    exact ⟨g, hv.1, hc _ _ a0, hc _ _ a1, hc _ _ a2, hc _ _ a3, hc _ _ a4, fun o => thawed hg⟩
/-- A queue's elements. -/
theorem RAt.qe (h : RAt S w rb l per n L Q r) {i : Nat} (hi : i < n) {j : Nat} {y : Int} (hy : (Q i)[j]? = some y) : ∃ g, l.qa i = some ⟨g, 0, none⟩ ∧ w.cell? ⟨g, j, none⟩ = some (.int .i64 y) := by
  have hj := (List.getElem?_eq_some_iff.1 hy).1
  have hs := Seg.of_owns (h.queue i hi)
  rcases (h.queue i hi).2 with ⟨hv, h0⟩ | ⟨g, cap, cur, hv, _, hg, _⟩
  · omega
  · simp only [Value.slice.injEq] at hv
    have := hs.cell hv.1 j (.int .i64 y) (by unfold ints; rw [List.getElem?_map, hy]; rfl)
    rw [Nat.zero_add] at this
    exact ⟨g, hv.1, this⟩
theorem RAt.fit (h : RAt S w rb l per n L Q r) : L.length ≤ l.lc ∧ l.lc ≤ maxLen := ⟨(owns_len h.list).2.1, (owns_len h.list).2.2.1⟩
theorem RAt.qfit (h : RAt S w rb l per n L Q r) {i : Nat} (hi : i < n) : (Q i).length ≤ l.qc i ∧ l.qc i ≤ maxLen := ⟨(owns_len (h.queue i hi)).2.1, (owns_len (h.queue i hi)).2.2.1⟩

theorem RAt.ne_q (h : RAt S w rb l per n L Q r) : rb ≠ l.qb := by
  obtain ⟨cur, hc, _⟩ := h.row
  exact other_type h.obj hc (by decide)

/-- A store into one's cells. -/
theorem RAt.setOne (h : RAt S w rb l per n L Q r) {j : Nat} {x y : One} (hx : L[j]? = some x) {g : Nat} (hg : l.la = some ⟨g, 0, none⟩) (k : Nat) (hk : k < 5) (v : Value) (hy : (ronesOf x).set k v = ronesOf y) :
    RAt S (w.setCell ⟨g, j * 5 + k, none⟩ v) rb l per n (L.set j y) Q r := by
  obtain ⟨cur, hc, hr⟩ := h.row
  obtain ⟨_, c0, h0⟩ := owns_blk h.list g (by rw [hg]; rfl)
  refine ⟨?_, ⟨cur, heap_mod (heap_set_ne (other_type hc h0 (by decide)) v) hc, hr⟩, ?_, fun i hi => owns_of_heap (h.queue i hi) (fun k hk => ?_), h.qinj, h.mine⟩
  · rw [List.length_set]
    exact heap_mod (heap_set_ne (other_type h.obj h0 (by decide)) v) h.obj
  · rw [List.length_set]
    have hl := h.list
    rw [hg] at hl ⊢
    exact owns_set hl _ v (rones_set hx hk hy)
  · rw [ownBlock_slice] at hk
    obtain ⟨_, c2, h2⟩ := owns_blk (h.queue i hi) k hk
    exact heap_set_ne (other_type h2 h0 (by decide)) v

/-- A store into its charges. -/
theorem RAt.setRan (h : RAt S w rb l per n L Q r) {i : Nat} (hi : i < 8) (v : Int) : RAt S (w.setCell ⟨rb, 4 + i, none⟩ (.int .i64 v)) rb l per n L Q (updN r i v) := by
  obtain ⟨cur, hc, hr⟩ := h.row
  refine ⟨?_, ⟨cur, heap_mod (heap_set_ne (Ne.symm h.ne_q) _) hc, hr⟩, owns_of_heap h.list (fun k hk => ?_), fun i hi => owns_of_heap (h.queue i hi) (fun k hk => ?_), h.qinj, h.mine⟩
  · refine (heap_set h.obj _).trans ?_
    match i, hi with
    | 0, _ => rfl
    | 1, _ => rfl
    | 2, _ => rfl
    | 3, _ => rfl
    | 4, _ => rfl
    | 5, _ => rfl
    | 6, _ => rfl
    | 7, _ => rfl
  · rw [ownBlock_slice] at hk
    obtain ⟨_, c2, h2⟩ := owns_blk h.list k hk
    exact heap_set_ne (other_type h2 h.obj (by decide)) _
  · rw [ownBlock_slice] at hk
    obtain ⟨_, c2, h2⟩ := owns_blk (h.queue i hi) k hk
    exact heap_set_ne (other_type h2 h.obj (by decide)) _

/-- A queue turned: w1 when the row was written, then the queue's cell stored. -/
theorem RAt.setQ (h : RAt S w rb l per n L Q r) {i : Nat} (hi : i < n) (w1 : World) (hg : w.grownBy w1 (blk (l.qa i))) (ao : Option Addr) (c : Nat) (q : List Int) (hown : w1.ownsRow 0 3 1 (.slice ao q.length c) q.length (ints q)) (hnew : ∀ g, blk ao = some g → blk (l.qa i) = some g ∨ w.heap.size ≤ g) (hS : ∀ k, w.heap.size ≤ k → S k) :
    RAt S (w1.setCell ⟨l.qb, i, none⟩ (.slice ao q.length c)) rb { l with qa := updN l.qa i ao, qc := updN l.qc i c } per n L (updN Q i q) r := by
  obtain ⟨cur, hcr, hr⟩ := h.row
  have hq := owns_blk (h.queue i hi)
  have old : ∀ k, k < w.heap.size → blk (l.qa i) ≠ some k → w1.heap[k]? = w.heap[k]? := fun k hk hn => hg.block k hk (fun e => hn e.symm)
  have oldc : ∀ {k : Nat} {c : Array Value} {e : TypeId} {f : Nat × Nat}, w.heap[k]? = some (.cells c e f) → e ≠ 3 → w1.heap[k]? = some (.cells c e f) := by
    intro k c e f hk he
    rw [old k (heap_lt hk) (fun e2 => ?_)]
    · exact hk
    · obtain ⟨_, c2, h2⟩ := hq k e2
      exact other_type h2 hk (Ne.symm he) rfl
  have hx1 := oldc hcr (by decide)
  have hnx : ∀ {k : Nat}, k ≠ l.qb → (w1.setCell ⟨l.qb, i, none⟩ (.slice ao q.length c)).heap[k]? = w1.heap[k]? := fun hk => heap_set_ne hk _
  have han : ∀ g, blk ao = some g → g ≠ l.qb := fun g hg' => by
    obtain ⟨_, c2, h2⟩ := owns_blk hown g hg'
    exact other_type h2 hx1 (by decide)
  refine ⟨?_, ⟨_, heap_set hx1 _, ?_⟩, ?_, ?_, ?_, h.mine.1, h.mine.2.1, h.mine.2.2.1, ?_⟩
  · exact heap_mod (hnx h.ne_q) (oldc h.obj (by decide))
  · intro k hk
    have a0 := hr k hk
    have hin : k < cur.size := (Array.getElem?_eq_some_iff.1 a0).1
    rw [Array.getElem?_setIfInBounds]
    by_cases e : k = i
    · subst e
      rw [if_pos rfl, if_pos hin]
      simp [updN]
    · rw [if_neg (by omega)]
      simp only [updN, if_neg e]
      exact a0
  · refine owns_of_heap h.list (fun g hg' => ?_)
    rw [ownBlock_slice] at hg'
    obtain ⟨_, c2, h2⟩ := owns_blk h.list g hg'
    rw [hnx (other_type h2 hcr (by decide)), oldc h2 (by decide), h2]
  · intro k hk
    by_cases e : k = i
    · subst e
      simp only [updN_same]
      exact owns_of_heap hown (fun g hg' => by rw [ownBlock_slice] at hg'; exact hnx (han g hg'))
    · simp only [updN_ne _ _ e]
      refine owns_of_heap (h.queue k hk) (fun g hg' => ?_)
      rw [ownBlock_slice] at hg'
      obtain ⟨_, c2, h2⟩ := owns_blk (h.queue k hk) g hg'
      rw [hnx (other_type h2 hcr (by decide)), old g (owns_lt (h.queue k hk) g hg') (fun e2 => e (h.qinj k i g hk hi hg' e2))]
  · intro a b g ha hb hga hgb
    have hlt : ∀ k, k < n → blk (l.qa k) = some g → g < w.heap.size := fun k hk hgk => owns_lt (h.queue k hk) g hgk
    by_cases ea : a = i
    · by_cases eb : b = i
      · rw [ea, eb]
      · simp only [updN, if_pos ea] at hga
        simp only [updN, if_neg eb] at hgb
        rcases hnew g hga with e2 | e2
        · exact absurd (h.qinj b i g hb hi hgb e2) eb
        · have := hlt b hb hgb; omega
    · simp only [updN, if_neg ea] at hga
      by_cases eb : b = i
      · simp only [updN, if_pos eb] at hgb
        rcases hnew g hgb with e2 | e2
        · exact absurd (h.qinj a i g ha hi hga e2) ea
        · have := hlt a ha hga; omega
      · simp only [updN, if_neg eb] at hgb
        exact h.qinj a b g ha hb hga hgb
  · intro k g hk hgk
    by_cases e : k = i
    · simp only [updN, if_pos e] at hgk
      rcases hnew g hgk with e2 | e2
      · exact h.mine.2.2.2 i g hi e2
      · exact hS g e2
    · simp only [updN, if_neg e] at hgk
      exact h.mine.2.2.2 k g hk hgk

/-- The list turned: w1 when the row was written, then the cell stored. -/
theorem RAt.setL (h : RAt S w rb l per n L Q r) (w1 : World) (hg : w.grownBy w1 (blk l.la)) (ao : Option Addr) (c : Nat) (M : List One) (hown : w1.ownsRow 0 83 5 (.slice ao M.length c) M.length (rones M)) (hnew : ∀ g, blk ao = some g → blk l.la = some g ∨ w.heap.size ≤ g) (hS : ∀ k, w.heap.size ≤ k → S k) :
    RAt S (w1.setCell ⟨rb, 2, none⟩ (.slice ao M.length c)) rb { l with la := ao, lc := c } per n M Q r := by
  obtain ⟨cur, hcr, hr⟩ := h.row
  have hq := owns_blk h.list
  have oldc : ∀ {k : Nat} {c : Array Value} {e : TypeId} {f : Nat × Nat}, w.heap[k]? = some (.cells c e f) → e ≠ 83 → w1.heap[k]? = some (.cells c e f) := by
    intro k c e f hk he
    rw [hg.block k (heap_lt hk) (fun e2 => ?_)]
    · exact hk
    · obtain ⟨_, c2, h2⟩ := hq k e2.symm
      exact other_type h2 hk (Ne.symm he) rfl
  have hx1 := oldc h.obj (by decide)
  have hnx : ∀ {k : Nat}, k ≠ rb → (w1.setCell ⟨rb, 2, none⟩ (.slice ao M.length c)).heap[k]? = w1.heap[k]? := fun hk => heap_set_ne hk _
  refine ⟨(heap_set hx1 _).trans rfl, ⟨cur, heap_mod (hnx (Ne.symm h.ne_q)) (oldc hcr (by decide)), hr⟩, ?_, ?_, h.qinj, h.mine.1, h.mine.2.1, ?_, h.mine.2.2.2⟩
  · refine owns_of_heap hown (fun g hg' => ?_)
    rw [ownBlock_slice] at hg'
    obtain ⟨_, c2, h2⟩ := owns_blk hown g hg'
    exact hnx (other_type h2 hx1 (by decide))
  · intro k hk
    refine owns_of_heap (h.queue k hk) (fun g hg' => ?_)
    rw [ownBlock_slice] at hg'
    obtain ⟨_, c2, h2⟩ := owns_blk (h.queue k hk) g hg'
    rw [hnx (other_type h2 h.obj (by decide)), oldc h2 (by decide), h2]
  · intro g hg'
    rcases hnew g hg' with e | e
    · exact h.mine.2.2.1 g e
    · exact hS g e
end
end Go.Proofs.Ytehjekcfhmmggaa

/-
  A scheduler in memory, and what a store does to it. No conditions.
-/
import Derived.Test.YtehjekcfhmmggaaRows
import Derived.Test.YtehjekcfhmmggaaCre0
namespace Go.Proofs.Ytehjekcfhmmggaa
open Go.RowKit

def ints (l : List Int) : List Value := l.map (Value.int .i64)
theorem ints_length (l : List Int) : (ints l).length = l.length := by simp [ints]

def oneCells (x : One) : Array Value := #[.int .i64 x.state, .int .i64 x.core, .int .i64 x.weight, .int .i64 x.credit]

/-- Where its parts lie. -/
structure Lay where
  xb : Nat
  mb : Nat
  qa : Nat → Option Addr
  qc : Nat → Nat
  pb : Int → Nat

def Cores (w : World) (l : Lay) (n : Nat) (s : CS) : Prop :=
  ∃ cur : Array Value, w.heap[l.xb]? = some (.cells cur 67 (0, 0)) ∧ ∀ i, i < n → cur[i * 4]? = some (.slice (l.qa i) (s.Q i).length (l.qc i)) ∧ cur[i * 4 + 1]? = some (.int .i64 (s.rv i)) ∧ cur[i * 4 + 2]? = some (.bool (s.bs i)) ∧ cur[i * 4 + 3]? = some (.int .i64 (s.ran i))

structure CAt (S : Nat → Prop) (w : World) (cb : Nat) (l : Lay) (per n : Nat) (s : CS) : Prop where
  obj : w.heap[cb]? = some (.cells #[.int .i64 per, .slice (some ⟨l.xb, 0, none⟩) n n, .map (some l.mb), .int .i64 s.sum] 38 (0, 0))
  row : Cores w l n s
  map : MAPF Try.prog 3 w l.mb (lookF s.L l.pb) s.L.length
  look : ∀ x ∈ s.L, w.heap[l.pb x.id]? = some (.cells (oneCells x) 29 (0, 0))
  queue : ∀ i, i < n → w.ownsRow 0 3 1 (.slice (l.qa i) (s.Q i).length (l.qc i)) (s.Q i).length (ints (s.Q i))
  pinj : ∀ x ∈ s.L, ∀ y ∈ s.L, l.pb x.id = l.pb y.id → x.id = y.id
  qinj : ∀ i j g, i < n → j < n → blk (l.qa i) = some g → blk (l.qa j) = some g → i = j
  mine : S cb ∧ S l.xb ∧ S l.mb ∧ (∀ i g, i < n → blk (l.qa i) = some g → S g) ∧ ∀ x ∈ s.L, S (l.pb x.id)

theorem updN_or {α : Type} (f : Nat → α) (i : Nat) (v : α) (k : Nat) : updN f i v k = f k ∨ (k = i ∧ updN f i v k = v) := by
  by_cases e : k = i
  · exact .inr ⟨e, by simp [updN, e]⟩
  · exact .inl (updN_ne _ _ e)

theorem other_type {w : World} {a b : Nat} {c c' : Array Value} {e e' : TypeId} {f f' : Nat × Nat} (h : w.heap[a]? = some (.cells c e f)) (h' : w.heap[b]? = some (.cells c' e' f')) (hne : e ≠ e') : a ≠ b := by
  rintro rfl
  rw [h] at h'
  simp at h'
  exact hne h'.2.1
theorem other_map {w : World} {a b : Nat} {c : Array Value} {e : TypeId} {f : Nat × Nat} {es : Array MapEntry} {k : Nat} (h : w.heap[a]? = some (.cells c e f)) (h' : w.heap[b]? = some (.map es k)) : a ≠ b := by
  rintro rfl
  rw [h] at h'
  cases h'
theorem owns_blk {w : World} {base e size n : Nat} {a : Option Addr} {l c : Nat} {xs : List Value} (h : w.ownsRow base e size (.slice a l c) n xs) : ∀ g, blk a = some g → base ≤ g ∧ ∃ cur, w.heap[g]? = some (.cells cur e (0, 0)) := by
  intro g hg
  rcases h.2 with ⟨hv, _⟩ | ⟨g', cp, cur, hv, hb, hg', _⟩
  · simp only [Value.slice.injEq] at hv; rw [hv.1] at hg; cases hg
  · simp only [Value.slice.injEq] at hv
    rw [hv.1] at hg
    cases hg
    exact ⟨hb, cur, hg'⟩

section
variable {S T : Nat → Prop} {w w' : World} {cb : Nat} {l : Lay} {per n : Nat} {s : CS}

theorem CAt.of_heap (h : CAt S w cb l per n s) (hb : ∀ k, k < w.heap.size → S k → w'.heap[k]? = w.heap[k]?) : CAt S w' cb l per n s := by
  obtain ⟨cur, hc, hr⟩ := h.row
  refine ⟨by rw [hb cb (heap_lt h.obj) h.mine.1]; exact h.obj, ⟨cur, by rw [hb _ (heap_lt hc) h.mine.2.1]; exact hc, hr⟩, h.map.of_heap (hb _ h.map.lt h.mine.2.2.1), fun x hx => by rw [hb _ (heap_lt (h.look x hx)) (h.mine.2.2.2.2 x hx)]; exact h.look x hx, fun i hi => owns_of_heap (h.queue i hi) (fun g hg => by rw [ownBlock_slice] at hg; exact hb g (owns_lt (h.queue i hi) g hg) (h.mine.2.2.2.1 i g hi hg)), h.pinj, h.qinj, h.mine⟩
theorem CAt.kept (h : CAt S w cb l per n s) (hf : Fr T w w') (hT : ∀ k, k < w.heap.size → S k → ¬ T k) : CAt S w' cb l per n s :=
  h.of_heap (fun k hk hs => hf.block k hk (hT k hk hs))
theorem CAt.mono (h : CAt S w cb l per n s) (hT : ∀ k, k < w.heap.size → S k → T k) : CAt T w cb l per n s := by
  obtain ⟨cur, hc, _⟩ := h.row
  exact ⟨h.obj, h.row, h.map, h.look, h.queue, h.pinj, h.qinj, hT _ (heap_lt h.obj) h.mine.1, hT _ (heap_lt hc) h.mine.2.1, hT _ h.map.lt h.mine.2.2.1, fun i g hi hg => hT g (owns_lt (h.queue i hi) g hg) (h.mine.2.2.2.1 i g hi hg), fun x hx => hT _ (heap_lt (h.look x hx)) (h.mine.2.2.2.2 x hx)⟩

/-- The scheduler's own cells. -/
theorem CAt.c (h : CAt S w cb l per n s) : w.cell? ⟨cb, 0, none⟩ = some (.int .i64 per) ∧ w.cell? ⟨cb, 1, none⟩ = some (.slice (some ⟨l.xb, 0, none⟩) n n) ∧ w.cell? ⟨cb, 2, none⟩ = some (.map (some l.mb)) ∧ w.cell? ⟨cb, 3, none⟩ = some (.int .i64 s.sum) ∧ w.frozen? ⟨cb, 3, none⟩ = false :=
  ⟨(cell_at h.obj).trans rfl, (cell_at h.obj).trans rfl, (cell_at h.obj).trans rfl, (cell_at h.obj).trans rfl, thawed h.obj⟩
/-- A core's. -/
theorem CAt.k (h : CAt S w cb l per n s) {i : Nat} (hi : i < n) : w.cell? ⟨l.xb, i * 4, none⟩ = some (.slice (l.qa i) (s.Q i).length (l.qc i)) ∧ w.cell? ⟨l.xb, i * 4 + 1, none⟩ = some (.int .i64 (s.rv i)) ∧ w.cell? ⟨l.xb, i * 4 + 2, none⟩ = some (.bool (s.bs i)) ∧ w.cell? ⟨l.xb, i * 4 + 3, none⟩ = some (.int .i64 (s.ran i)) ∧ ∀ o, w.frozen? ⟨l.xb, o, none⟩ = false := by
  obtain ⟨cur, hc, hr⟩ := h.row
  obtain ⟨a, b, c, d⟩ := hr i hi
  exact ⟨(cell_at hc).trans a, (cell_at hc).trans b, (cell_at hc).trans c, (cell_at hc).trans d, fun o => thawed hc⟩
/-- One's. -/
theorem CAt.x (h : CAt S w cb l per n s) {x : One} (hx : x ∈ s.L) : w.cell? ⟨l.pb x.id, 0, none⟩ = some (.int .i64 x.state) ∧ w.cell? ⟨l.pb x.id, 1, none⟩ = some (.int .i64 x.core) ∧ w.cell? ⟨l.pb x.id, 2, none⟩ = some (.int .i64 x.weight) ∧ w.cell? ⟨l.pb x.id, 3, none⟩ = some (.int .i64 x.credit) ∧ ∀ o, w.frozen? ⟨l.pb x.id, o, none⟩ = false :=
  ⟨(cell_at (h.look x hx)).trans rfl, (cell_at (h.look x hx)).trans rfl, (cell_at (h.look x hx)).trans rfl, (cell_at (h.look x hx)).trans rfl, fun _ => thawed (h.look x hx)⟩

theorem CAt.ne_cx (h : CAt S w cb l per n s) : cb ≠ l.xb := by
  obtain ⟨cur, hc, _⟩ := h.row
  exact other_type h.obj hc (by decide)
theorem CAt.ne_cm (h : CAt S w cb l per n s) : cb ≠ l.mb := by
  obtain ⟨es, k, hm⟩ := h.map.obj
  exact other_map h.obj hm
theorem CAt.ne_xm (h : CAt S w cb l per n s) : l.xb ≠ l.mb := by
  obtain ⟨es, k, hm⟩ := h.map.obj
  obtain ⟨cur, hc, _⟩ := h.row
  exact other_map hc hm

/-- A store into one's block. -/
theorem CAt.setOne (h : CAt S w cb l per n s) {x : One} (hx : x ∈ s.L) (ha : ApartO s.L) (j : Nat) (v : Value) (f : One → One) (hf : ∀ y, (f y).id = y.id) (hc : (oneCells x).setIfInBounds j v = oneCells (f x)) :
    CAt S (w.setCell ⟨l.pb x.id, j, none⟩ v) cb l per n { s with L := setO s.L x.id f } := by
  obtain ⟨cur, hcr, hr⟩ := h.row
  obtain ⟨es, k, hm⟩ := h.map.obj
  have hl := h.look x hx
  refine ⟨?_, ⟨cur, ?_, hr⟩, ?_, ?_, ?_, ?_, h.qinj, h.mine.1, h.mine.2.1, h.mine.2.2.1, h.mine.2.2.2.1, ?_⟩
  · rw [heap_set_ne (other_type h.obj hl (by decide))]; exact h.obj
  · rw [heap_set_ne (other_type hcr hl (by decide))]; exact hcr
  · show MAPF _ _ _ _ (lookF (setO s.L x.id f) l.pb) (setO s.L x.id f).length
    rw [lookF_set _ _ _ hf, setO_length]
    exact h.map.of_heap (heap_set_ne (other_map hl hm).symm v)
  · intro y hy
    obtain ⟨z, hz, rfl⟩ := mem_setO.1 hy
    rw [setO_id hf]
    by_cases e : z.id = x.id
    · obtain rfl := ha.one hz hx e
      rw [if_pos rfl, ← hc]
      exact heap_set hl v
    · rw [if_neg e, heap_set_ne (fun e2 => e (h.pinj z hz x hx e2))]
      exact h.look z hz
  · intro i hi
    refine owns_of_heap (h.queue i hi) (fun g hg => ?_)
    rw [ownBlock_slice] at hg
    obtain ⟨_, c2, h2⟩ := owns_blk (h.queue i hi) g hg
    exact heap_set_ne (other_type h2 hl (by decide)) v
  · intro y hy z hz e
    obtain ⟨y', hy', rfl⟩ := mem_setO.1 hy
    obtain ⟨z', hz', rfl⟩ := mem_setO.1 hz
    rw [setO_id hf, setO_id hf] at e ⊢
    exact h.pinj y' hy' z' hz' e
  · intro y hy
    obtain ⟨y', hy', rfl⟩ := mem_setO.1 hy
    rw [setO_id hf]
    exact h.mine.2.2.2.2 y' hy'

/-- A store into a core's cells. -/
theorem CAt.setCore (h : CAt S w cb l per n s) {i : Nat} (hi : i < n) (j : Nat) (hj : j < 4) (hj0 : 0 < j) (v : Value) (s' : CS) (hL : s'.L = s.L) (hQ : s'.Q = s.Q) (hs : s'.sum = s.sum)
    (h1 : ∀ k, s'.rv k = s.rv k ∨ (k = i ∧ j = 1 ∧ v = .int .i64 (s'.rv k))) (h2 : ∀ k, s'.bs k = s.bs k ∨ (k = i ∧ j = 2 ∧ v = .bool (s'.bs k))) (h3 : ∀ k, s'.ran k = s.ran k ∨ (k = i ∧ j = 3 ∧ v = .int .i64 (s'.ran k)))
    (hv : (j = 1 → v = .int .i64 (s'.rv i)) ∧ (j = 2 → v = .bool (s'.bs i)) ∧ (j = 3 → v = .int .i64 (s'.ran i))) :
    CAt S (w.setCell ⟨l.xb, i * 4 + j, none⟩ v) cb l per n s' := by
  obtain ⟨cur, hcr, hr⟩ := h.row
  obtain ⟨es, m, hm⟩ := h.map.obj
  obtain ⟨xb, mb, qa, qc, pb⟩ := l
  refine ⟨?_, ⟨_, heap_set hcr v, ?_⟩, ?_, ?_, ?_, ?_, h.qinj, h.mine.1, h.mine.2.1, h.mine.2.2.1, h.mine.2.2.2.1, ?_⟩
  · rw [heap_set_ne h.ne_cx, hs]; exact h.obj
  · intro k hk
    obtain ⟨a0, a1, a2, a3⟩ := hr k hk
    have hin : ∀ m u, cur[k * 4 + m]? = some u → k * 4 + m < cur.size := fun m u hu => (Array.getElem?_eq_some_iff.1 hu).1
    have at0 : ∀ m, m < 4 → ∀ u, cur[k * 4 + m]? = some u → (cur.setIfInBounds (i * 4 + j) v)[k * 4 + m]? = some (if k = i ∧ m = j then v else u) := by
      intro m hm4 u hu
      rw [Array.getElem?_setIfInBounds]
      by_cases e : k = i ∧ m = j
      · obtain ⟨rfl, rfl⟩ := e
        rw [if_pos rfl, if_pos (hin _ _ hu), if_pos ⟨rfl, rfl⟩]
      · rw [if_neg (fun e2 => e ⟨by omega, by omega⟩), if_neg e]
        exact hu
    refine ⟨?_, ?_, ?_, ?_⟩
    · have := at0 0 (by omega) _ a0
      rw [if_neg (by omega)] at this
      rw [hQ]
      exact this
    · rw [at0 1 (by omega) _ a1]
      split
      · rename_i e; rw [hv.1 e.2.symm, e.1]
      · rename_i e
        rcases h1 k with h1 | ⟨e1, e2, _⟩
        · rw [h1]
        · exact absurd ⟨e1, e2.symm⟩ e
    · rw [at0 2 (by omega) _ a2]
      split
      · rename_i e; rw [hv.2.1 e.2.symm, e.1]
      · rename_i e
        rcases h2 k with h2 | ⟨e1, e2, _⟩
        · rw [h2]
        · exact absurd ⟨e1, e2.symm⟩ e
    · rw [at0 3 (by omega) _ a3]
      split
      · rename_i e; rw [hv.2.2 e.2.symm, e.1]
      · rename_i e
        rcases h3 k with h3 | ⟨e1, e2, _⟩
        · rw [h3]
        · exact absurd ⟨e1, e2.symm⟩ e
  · rw [hL]
    exact h.map.of_heap (heap_set_ne (Ne.symm h.ne_xm) v)
  · intro y hy
    rw [hL] at hy
    rw [heap_set_ne (other_type (h.look y hy) hcr (by decide))]
    exact h.look y hy
  · intro k hk
    rw [hQ]
    refine owns_of_heap (h.queue k hk) (fun g hg => ?_)
    rw [ownBlock_slice] at hg
    obtain ⟨_, c2, h2⟩ := owns_blk (h.queue k hk) g hg
    exact heap_set_ne (other_type h2 hcr (by decide)) v
  · rw [hL]; exact h.pinj
  · rw [hL]; exact h.mine.2.2.2.2

theorem CAt.setRv (h : CAt S w cb l per n s) {i : Nat} (hi : i < n) (x : Int) : CAt S (w.setCell ⟨l.xb, i * 4 + 1, none⟩ (.int .i64 x)) cb l per n { s with rv := updN s.rv i x } :=
  h.setCore hi 1 (by omega) (by omega) _ _ rfl rfl rfl (fun k => (updN_or s.rv i x k).imp id (fun ⟨a, b⟩ => ⟨a, rfl, congrArg (Value.int .i64) b.symm⟩)) (fun k => .inl rfl) (fun k => .inl rfl) ⟨fun _ => by simp [updN], fun e => by omega, fun e => by omega⟩
theorem CAt.setBs (h : CAt S w cb l per n s) {i : Nat} (hi : i < n) (x : Bool) : CAt S (w.setCell ⟨l.xb, i * 4 + 2, none⟩ (.bool x)) cb l per n { s with bs := updN s.bs i x } :=
  h.setCore hi 2 (by omega) (by omega) _ _ rfl rfl rfl (fun k => .inl rfl) (fun k => (updN_or s.bs i x k).imp id (fun ⟨a, b⟩ => ⟨a, rfl, congrArg Value.bool b.symm⟩)) (fun k => .inl rfl) ⟨fun e => by omega, fun _ => by simp [updN], fun e => by omega⟩
theorem CAt.setRan (h : CAt S w cb l per n s) {i : Nat} (hi : i < n) (x : Int) : CAt S (w.setCell ⟨l.xb, i * 4 + 3, none⟩ (.int .i64 x)) cb l per n { s with ran := updN s.ran i x } :=
  h.setCore hi 3 (by omega) (by omega) _ _ rfl rfl rfl (fun k => .inl rfl) (fun k => .inl rfl) (fun k => (updN_or s.ran i x k).imp id (fun ⟨a, b⟩ => ⟨a, rfl, congrArg (Value.int .i64) b.symm⟩)) ⟨fun e => by omega, fun e => by omega, fun _ => by simp [updN]⟩

/-- A queue turned: w1 when the row was written, then the core's cell stored. -/
theorem CAt.setQ (h : CAt S w cb l per n s) {i : Nat} (hi : i < n) (w1 : World) (hg : w.grownBy w1 (blk (l.qa i))) (ao : Option Addr) (c : Nat) (q : List Int) (hown : w1.ownsRow 0 3 1 (.slice ao q.length c) q.length (ints q)) (hnew : ∀ g, blk ao = some g → blk (l.qa i) = some g ∨ w.heap.size ≤ g) (hS : ∀ k, w.heap.size ≤ k → S k) :
    CAt S (w1.setCell ⟨l.xb, i * 4, none⟩ (.slice ao q.length c)) cb { l with qa := updN l.qa i ao, qc := updN l.qc i c } per n { s with Q := updN s.Q i q } := by
  obtain ⟨cur, hcr, hr⟩ := h.row
  obtain ⟨es, m, hm⟩ := h.map.obj
  have hq := owns_blk (h.queue i hi)
  have old : ∀ k, k < w.heap.size → blk (l.qa i) ≠ some k → w1.heap[k]? = w.heap[k]? := fun k hk hn => hg.block k hk (fun e => hn e.symm)
  have oldc : ∀ {k : Nat} {c : Array Value} {e : TypeId} {f : Nat × Nat}, w.heap[k]? = some (.cells c e f) → e ≠ 3 → w1.heap[k]? = some (.cells c e f) := by
    intro k c e f hk he
    rw [old k (heap_lt hk) (fun e2 => ?_)]
    · exact hk
    · obtain ⟨_, c2, h2⟩ := hq k e2
      exact other_type h2 hk (Ne.symm he) rfl
  have hx1 := oldc hcr (by decide)
  have hnx : ∀ {k : Nat}, k ≠ l.xb → (w1.setCell ⟨l.xb, i * 4, none⟩ (.slice ao q.length c)).heap[k]? = w1.heap[k]? := fun hk => heap_set_ne hk _
  have han : ∀ g, blk ao = some g → g ≠ l.xb := fun g hg' => by
    obtain ⟨_, c2, h2⟩ := owns_blk hown g hg'
    exact other_type h2 hx1 (by decide)
  refine ⟨?_, ⟨_, heap_set hx1 _, ?_⟩, ?_, ?_, ?_, h.pinj, ?_, h.mine.1, h.mine.2.1, h.mine.2.2.1, ?_, h.mine.2.2.2.2⟩
  · rw [hnx h.ne_cx]; exact oldc h.obj (by decide)
  · intro k hk
    obtain ⟨a0, a1, a2, a3⟩ := hr k hk
    have hin : k * 4 < cur.size := (Array.getElem?_eq_some_iff.1 a0).1
    have at0 : ∀ m, 0 < m → m < 4 → ∀ u, cur[k * 4 + m]? = some u → (cur.setIfInBounds (i * 4) (.slice ao q.length c))[k * 4 + m]? = some u := by
      intro m hm0 hm4 u hu
      rw [Array.getElem?_setIfInBounds, if_neg (by omega)]
      exact hu
    refine ⟨?_, at0 1 (by omega) (by omega) _ a1, at0 2 (by omega) (by omega) _ a2, at0 3 (by omega) (by omega) _ a3⟩
    rw [Array.getElem?_setIfInBounds]
    by_cases e : k = i
    · subst e
      rw [if_pos rfl, if_pos hin]
      simp [updN]
    · rw [if_neg (by omega)]
      simp only [updN, if_neg e]
      exact a0
  · refine h.map.of_heap ((hnx (Ne.symm h.ne_xm)).trans (old _ h.map.lt (fun e => ?_)))
    obtain ⟨_, c2, h2⟩ := hq _ e
    exact other_map h2 hm rfl
  · intro y hy
    rw [hnx (other_type (h.look y hy) hcr (by decide))]
    exact oldc (h.look y hy) (by decide)
  · intro k hk
    by_cases e : k = i
    · subst e
      simp only [updN_same]
      exact owns_of_heap hown (fun g hg' => by rw [ownBlock_slice] at hg'; exact hnx (han g hg'))
    · simp only [updN_ne _ _ e]
      refine owns_of_heap (h.queue k hk) (fun g hg' => ?_)
      rw [ownBlock_slice] at hg'
      obtain ⟨_, c2, h2⟩ := owns_blk (h.queue k hk) g hg'
      rw [hnx (other_type h2 hcr (by decide)), old g (owns_lt (h.queue k hk) g hg') (fun e2 => e (h.qinj k i g hk hi hg' e2))]
  · intro a b g ha hb hga hgb
    have hlt : ∀ k, k < n → blk (l.qa k) = some g → g < w.heap.size := fun k hk hgk => owns_lt (h.queue k hk) g hgk
    by_cases ea : a = i
    · by_cases eb : b = i
      · rw [ea, eb]
      · simp only [updN, if_pos ea] at hga
        simp only [updN, if_neg eb] at hgb
        rcases hnew g hga with e2 | e2
        · exact absurd (h.qinj b i g hb hi hgb e2) eb
        · have := hlt b hb hgb; omega
    · simp only [updN, if_neg ea] at hga
      by_cases eb : b = i
      · simp only [updN, if_pos eb] at hgb
        rcases hnew g hgb with e2 | e2
        · exact absurd (h.qinj a i g ha hi hga e2) ea
        · have := hlt a ha hga; omega
      · simp only [updN, if_neg eb] at hgb
        exact h.qinj a b g ha hb hga hgb
  · intro k g hk hgk
    by_cases e : k = i
    · simp only [updN, if_pos e] at hgk
      rcases hnew g hgk with e2 | e2
      · exact h.mine.2.2.2.1 i g hi e2
      · exact hS g e2
    · simp only [updN, if_neg e] at hgk
      exact h.mine.2.2.2.1 k g hk hgk
end
end Go.Proofs.Ytehjekcfhmmggaa

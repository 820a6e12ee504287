/-
  The reference's lines, each function walked once: it does to its cores what the lines do. No conditions.
-/
import Derived.Test.YtmnomjeiijpinaaApartW
import Derived.Test.YtmnomjeiijpinaaSeg
namespace Go.Proofs.Ytmnomjeiijpinaa
open Go.RowKit Go.Conc

/-- A core of the reference in the table, at the place i. -/
def RCore (cur : Array Value) (i : Nat) (a : Option Addr) (cap : Nat) (c : LC) : Prop :=
  cur[i * 4]? = some (.slice a c.ev.length cap) ∧ cur[i * 4 + 1]? = some (.int .u64 c.clock) ∧ cur[i * 4 + 2]? = some (.int .u64 c.due) ∧ cur[i * 4 + 3]? = some (.bool c.armed)

def evv (l : List Int) : List Value := l.map (Value.int .i64)

/-- The reference's lines of n cores at block rb, all theirs among the blocks S. -/
structure RAt (S : Nat → Prop) (w : World) (rb ab n : Nat) (wa : Nat → Option Addr) (wc : Nat → Nat) (st : Nat → LC) : Prop where
  l : w.heap[rb]? = some (.cells #[.slice (some ⟨ab, 0, none⟩) n n] 62 (0, 0))
  tab : ∃ cur, w.heap[ab]? = some (.cells cur 59 (0, 0)) ∧ ∀ i, i < n → RCore cur i (wa i) (wc i) (st i)
  row : ∀ i, i < n → Seg w 3 1 (wa i) (st i).ev.length (wc i) (evv (st i).ev)
  ne : rb ≠ ab ∧ ∀ i, i < n → blk (wa i) ≠ some rb ∧ blk (wa i) ≠ some ab
  dist : ∀ i j, i < n → j < n → i ≠ j → ∀ g, blk (wa i) = some g → blk (wa j) ≠ some g
  mine : S rb ∧ S ab ∧ ∀ i, i < n → ∀ g, blk (wa i) = some g → S g

def RP (S : Nat → Prop) (w : World) (rb n : Nat) (st : Nat → LC) : Prop := ∃ ab wa wc, RAt S w rb ab n wa wc st

theorem RP.kept {S T : Nat → Prop} {w w' : World} {rb n : Nat} {st : Nat → LC} (h : RP S w rb n st) (hf : Fr T w w') (hT : ∀ k, S k → ¬ T k) : RP S w' rb n st := by
  obtain ⟨ab, wa, wc, h1, ⟨cur, h2, h3⟩, h4, h5, h6, h7⟩ := h
  refine ⟨ab, wa, wc, ?_, ⟨cur, ?_, h3⟩, fun i hi => (h4 i hi).of_heap (fun g hg => hf.block g ((h4 i hi).lt g hg) (hT g (h7.2.2 i hi g hg))), h5, h6, h7⟩
  · rw [hf.block rb (heap_lt h1) (hT rb h7.1)]; exact h1
  · rw [hf.block ab (heap_lt h2) (hT ab h7.2.1)]; exact h2

theorem RP.mono {S T : Nat → Prop} {w : World} {rb n : Nat} {st : Nat → LC} (h : RP S w rb n st) (hT : ∀ k, k < w.heap.size → S k → T k) : RP T w rb n st := by
  obtain ⟨ab, wa, wc, h1, ⟨cur, h2, h3⟩, h4, h5, h6, h7⟩ := h
  exact ⟨ab, wa, wc, h1, ⟨cur, h2, h3⟩, h4, h5, h6, hT _ (heap_lt h1) h7.1, hT _ (heap_lt h2) h7.2.1, fun i hi g hg => hT _ ((h4 i hi).lt g hg) (h7.2.2 i hi g hg)⟩

def inR (n : Nat) (i : Int) : Bool := decide (0 ≤ i ∧ i < n)

set_option maxHeartbeats 400000 in
theorem r_has (w : World) (rb ab n cap : Nat) (h : w.heap[rb]? = some (.cells #[.slice (some ⟨ab, 0, none⟩) n cap] 62 (0, 0))) (i : Int) :
    Calls Try.prog 22 #[.pointer (some ⟨rb, 0, none⟩), .int .i64 i] w fun e w' => e = .returned (.bool (inR n i)) ∧ w = w' := by
  have c0 := cell_at (o := 0) h
  simp at c0
  clear h
  by_cases h0 : 0 ≤ i
  · go_enter Try.func22, Try.ntmps22
    go_wp2
    go_ret
    exact ⟨by simp [inR, h0], rfl⟩
  · go_enter Try.func22, Try.ntmps22
    go_wp2
    go_ret
    exact ⟨by rw [show inR n i = false from decide_eq_false (fun h => by omega)]; rfl, rfl⟩

theorem get_set (cur : Array Value) (p q : Nat) (v : Value) (h : (cur[p]?).isSome = true) : (cur.setIfInBounds p v)[q]? = if p = q then some v else cur[q]? := by
  rw [Array.getElem?_setIfInBounds]
  have : p < cur.size := by
    rcases Nat.lt_or_ge p cur.size with h' | h'
    · exact h'
    · rw [Array.getElem?_eq_none h'] at h; cases h
  split
  · rfl
  · rfl

/-- One cell of core i written. -/
theorem RCore.set {cur : Array Value} {n : Nat} {wa : Nat → Option Addr} {wc : Nat → Nat} {st : Nat → LC} (h : ∀ i, i < n → RCore cur i (wa i) (wc i) (st i)) {i : Nat} (hi : i < n) (k : Nat) (hk : k < 4) (v : Value) (a : Option Addr) (c : Nat) (x : LC)
    (h0 : (if k = 0 then v else .slice (wa i) (st i).ev.length (wc i)) = .slice a x.ev.length c) (h1 : (if k = 1 then v else .int .u64 (st i).clock) = .int .u64 x.clock) (h2 : (if k = 2 then v else .int .u64 (st i).due) = .int .u64 x.due)
    (h3 : (if k = 3 then v else .bool (st i).armed) = .bool x.armed) :
    ∀ j, j < n → RCore (cur.setIfInBounds (i * 4 + k) v) j (if j = i then a else wa j) (if j = i then c else wc j) (upd st i x j) := by
  intro j hj
  obtain ⟨r0, r1, r2, r3⟩ := h i hi
  have hs : (cur[i * 4 + k]?).isSome = true := by
    match k, hk with
    | 0, _ => rw [Nat.add_zero, r0]; rfl
    | 1, _ => rw [r1]; rfl
    | 2, _ => rw [r2]; rfl
    | 3, _ => rw [r3]; rfl
  unfold RCore
  rw [get_set _ _ _ _ hs, get_set _ _ _ _ hs, get_set _ _ _ _ hs, get_set _ _ _ _ hs]
  by_cases e : j = i
  · subst e
    simp only [upd, if_true]
    rw [← h0, ← h1, ← h2, ← h3, r0, r1, r2, r3]
    refine ⟨?_, ?_, ?_, ?_⟩
    all_goals
      match k, hk with
      | 0, _ => simp
      | 1, _ => simp
      | 2, _ => simp
      | 3, _ => simp
  · obtain ⟨q0, q1, q2, q3⟩ := h j hj
    rw [if_neg (show ¬ i * 4 + k = j * 4 from by omega), if_neg (show ¬ i * 4 + k = j * 4 + 1 from by omega), if_neg (show ¬ i * 4 + k = j * 4 + 2 from by omega), if_neg (show ¬ i * 4 + k = j * 4 + 3 from by omega)]
    simp only [upd, if_neg e]
    exact ⟨q0, q1, q2, q3⟩

theorem RAt.cores {S : Nat → Prop} {w : World} {rb ab n : Nat} {wa : Nat → Option Addr} {wc : Nat → Nat} {st : Nat → LC} (h : RAt S w rb ab n wa wc st) {i : Nat} (hi : i < n) :
    w.cell? ⟨ab, i * 4, none⟩ = some (.slice (wa i) (st i).ev.length (wc i)) ∧ w.cell? ⟨ab, i * 4 + 1, none⟩ = some (.int .u64 (st i).clock) ∧ w.cell? ⟨ab, i * 4 + 2, none⟩ = some (.int .u64 (st i).due) ∧ w.cell? ⟨ab, i * 4 + 3, none⟩ = some (.bool (st i).armed) ∧
    ∀ o, w.frozen? ⟨ab, o, none⟩ = false := by
  obtain ⟨cur, h2, h3⟩ := h.tab
  obtain ⟨r0, r1, r2, r3⟩ := h3 i hi
  exact ⟨by rw [cell_at h2, r0], by rw [cell_at h2, r1], by rw [cell_at h2, r2], by rw [cell_at h2, r3], fun o => thawed h2⟩

/-- A field of core i that is no slice. -/
theorem RAt.field {S : Nat → Prop} {w : World} {rb ab n : Nat} {wa : Nat → Option Addr} {wc : Nat → Nat} {st : Nat → LC} (h : RAt S w rb ab n wa wc st) {i : Nat} (hi : i < n) (k : Nat) (h0 : k ≠ 0) (hk : k < 4) (v : Value) (x : LC) (hx : x.ev = (st i).ev)
    (h1 : (if k = 1 then v else .int .u64 (st i).clock) = .int .u64 x.clock) (h2 : (if k = 2 then v else .int .u64 (st i).due) = .int .u64 x.due)
    (h3 : (if k = 3 then v else .bool (st i).armed) = .bool x.armed) :
    RAt S (w.setCell ⟨ab, i * 4 + k, none⟩ v) rb ab n wa wc (upd st i x) := by
  obtain ⟨cur, t2, t3⟩ := h.tab
  have ha : (fun j => if j = i then wa i else wa j) = wa := by funext j; split <;> simp_all
  have hc : (fun j => if j = i then wc i else wc j) = wc := by funext j; split <;> simp_all
  have hev : ∀ j, (upd st i x j).ev = (st j).ev := by intro j; unfold upd; split <;> simp_all
  refine ⟨by rw [heap_set_ne h.ne.1]; exact h.l, ⟨_, heap_set t2 v, ?_⟩, fun j hj => ?_, h.ne, h.dist, h.mine⟩
  · have := RCore.set t3 hi k hk v (wa i) (wc i) x (by rw [if_neg h0, hx]) h1 h2 h3
    intro j hj
    have q := this j hj
    rw [show (if j = i then wa i else wa j) = wa j from congrFun ha j, show (if j = i then wc i else wc j) = wc j from congrFun hc j] at q
    exact q
  · rw [hev j]
    exact (h.row j hj).of_heap (fun g hg => heap_set_ne (fun e => (h.ne.2 j hj).2 (by rw [hg]; exact congrArg some e)) v)

/-- Core i's events turned: in a world where the rest is as it was. -/
theorem RAt.events {S : Nat → Prop} {w w1 : World} {rb ab n : Nat} {wa : Nat → Option Addr} {wc : Nat → Nat} {st : Nat → LC} (h : RAt S w rb ab n wa wc st) {i : Nat} (hi : i < n) (hb : ∀ k, k < w.heap.size → blk (wa i) ≠ some k → w1.heap[k]? = w.heap[k]?)
    (a : Option Addr) (c : Nat) (l : List Int) (hseg : Seg w1 3 1 a l.length c (evv l)) (hat : ∀ g, blk a = some g → blk (wa i) = some g ∨ (w.heap.size ≤ g ∧ S g)) :
    RP S (w1.setCell ⟨ab, i * 4, none⟩ (.slice a l.length c)) rb n (upd st i { st i with ev := l }) := by
  obtain ⟨cur, t2, t3⟩ := h.tab
  have hr1 : w1.heap[rb]? = w.heap[rb]? := hb rb (heap_lt h.l) (h.ne.2 i hi).1
  have ha1 : w1.heap[ab]? = w.heap[ab]? := hb ab (heap_lt t2) (h.ne.2 i hi).2
  have hne : ∀ g, blk a = some g → g ≠ rb ∧ g ≠ ab := by
    intro g hg
    rcases hat g hg with e | ⟨e, _⟩
    · exact ⟨fun e' => (h.ne.2 i hi).1 (by rw [e, e']), fun e' => (h.ne.2 i hi).2 (by rw [e, e'])⟩
    · have := heap_lt h.l; have := heap_lt t2
      exact ⟨by omega, by omega⟩
  have hdis : ∀ j, j < n → j ≠ i → ∀ g, blk a = some g → blk (wa j) ≠ some g := by
    intro j hj hji g hg
    rcases hat g hg with e | ⟨e, _⟩
    · exact h.dist i j hi hj (Ne.symm hji) g e
    · intro e'
      have := (h.row j hj).lt g e'
      omega
  refine ⟨ab, fun j => if j = i then a else wa j, fun j => if j = i then c else wc j, ?_, ⟨_, heap_set (ha1.trans t2) _, RCore.set t3 hi 0 (by omega) _ a c _ rfl rfl rfl rfl⟩, fun j hj => ?_, ⟨h.ne.1, fun j hj => ?_⟩, fun j k hj hk hjk g hg => ?_, ⟨h.mine.1, h.mine.2.1, fun j hj g hg => ?_⟩⟩
  · rw [heap_set_ne h.ne.1, hr1]; exact h.l
  · by_cases e : j = i
    · subst e
      simp only [if_true, upd]
      exact hseg.of_heap (fun g hg => heap_set_ne (hne g hg).2 _)
    · simp only [if_neg e, upd]
      refine (h.row j hj).of_heap (fun g hg => ?_)
      rw [heap_set_ne (fun e' => (h.ne.2 j hj).2 (by rw [hg]; exact congrArg some e'))]
      exact hb g ((h.row j hj).lt g hg) (fun e' => h.dist j i hj hi e g hg e')
  · by_cases e : j = i
    · simp only [if_pos e]
      exact ⟨fun e' => (hne _ e').1 rfl, fun e' => (hne _ e').2 rfl⟩
    · simp only [if_neg e]; exact h.ne.2 j hj
  · by_cases e : j = i
    · simp only [if_pos e] at hg
      have hki : k ≠ i := fun e' => hjk (e.trans e'.symm)
      simp only [if_neg hki]
      exact hdis k hk hki g hg
    · simp only [if_neg e] at hg
      by_cases e' : k = i
      · simp only [if_pos e']
        exact fun q => hdis j hj e g q hg
      · simp only [if_neg e']; exact h.dist j k hj hk hjk g hg
  · by_cases e : j = i
    · simp only [if_pos e] at hg
      rcases hat g hg with q | ⟨_, q⟩
      · exact h.mine.2.2 i hi g q
      · exact q
    · simp only [if_neg e] at hg; exact h.mine.2.2 j hj g hg

set_option maxHeartbeats 1000000 in
theorem r_send_room (S : Nat → Prop) (w : World) (rb ab n : Nat) (wa : Nat → Option Addr) (wc : Nat → Nat) (st : Nat → LC) (h : RAt S w rb ab n wa wc st) (hS : ∀ k, w.heap.size ≤ k → S k) (i : Nat) (hi : i < n) (x : Int) (hl : (st i).ev.length < 16) :
    Calls Try.prog 18 #[.pointer (some ⟨rb, 0, none⟩), .int .i64 i, .int .i64 x] w fun e w' => e = .returned (.int .i64 0) ∧ Hid (RP S w' rb n (upd st i { st i with ev := (st i).ev ++ [x] })) ∧ Hid (Fr S w w') := by
  have H := hid h
  obtain ⟨i0, hi0, hz0, hz1, hz2⟩ := info_parts Try.info3
  have hhas := r_has w rb ab n n h.l i
  rw [show inR n (i : Int) = true from by simp [inR, hi]] at hhas
  have Hhas := hid hhas
  have hrb := heap_lt h.l
  have hab : ab < w.heap.size := by obtain ⟨cur, h2, _⟩ := h.tab; exact heap_lt h2
  have c0 := cell_at (o := 0) h.l
  simp at c0
  obtain ⟨c1, c2, c3, c4, f1⟩ := h.cores hi
  obtain ⟨l, el⟩ : ∃ l, l = (st i).ev.length := ⟨_, rfl⟩
  have hne := h.ne.2 i hi
  have hold : ∀ (wb : World) (g : Nat), wb.heap = (w.alloc (.cells #[.int .i64 x] 3)).heap → g < w.heap.size → wb.heap[g]? = w.heap[g]? := by
    intro wb g hw hg
    rw [hw, Below.heap_alloc _ _ _ hg]
  have hrow : Hid (∀ wb : World, wb.heap = (w.alloc (.cells #[.int .i64 x] 3)).heap → Seg wb 3 1 (wa i) l (wc i) (evv (st i).ev) ∧ ∀ j u, [Value.int .i64 x][j]? = some u → wb.cell? ((⟨w.heap.size, 0, none⟩ : Addr).add j) = some u) := by
    intro wb hw
    refine ⟨by rw [el]; exact (h.row i hi).of_heap (fun g hg => hold wb g hw ((h.row i hi).lt g hg)), World.news_of_block (cs := #[Value.int .i64 x]) (t := 3) (fr := (0, 0)) (by rw [hw]; exact heap_alloc_new w _)⟩
  have hend : Hid (∀ (wb w1 : World) (g' off' cap' : Nat), wb.heap = (w.alloc (.cells #[.int .i64 x] 3)).heap → (wb.os = w.os ∧ wb.tape = w.tape ∧ wb.output = w.output) → Seg w1 3 1 (some ⟨g', off', none⟩) (l + 1) cap' (evv (st i).ev ++ [.int .i64 x]) → wb.grownBy w1 (blk (wa i)) → (blk (wa i) = some g' ∨ wb.heap.size ≤ g') →
      (w1.cell? ⟨rb, 0, none⟩ = some (.slice (some ⟨ab, 0, none⟩) n n) ∧ w1.cell? ⟨ab, i * 4, none⟩ = some (.slice (wa i) l (wc i)) ∧ w1.frozen? ⟨ab, i * 4, none⟩ = false) ∧
      Hid (RP S (w1.setCell ⟨ab, i * 4, none⟩ (.slice (some ⟨g', off', none⟩) (l + 1) cap')) rb n (upd st i { st i with ev := (st i).ev ++ [x] })) ∧ Hid (Fr S w (w1.setCell ⟨ab, i * 4, none⟩ (.slice (some ⟨g', off', none⟩) (l + 1) cap')))) := by
    intro wb w1 g' off' cap' hw hw2 hseg hgr hat
    have hsz : wb.heap.size = w.heap.size + 1 := by rw [hw]; simp
    have hb : ∀ k, k < w.heap.size → blk (wa i) ≠ some k → w1.heap[k]? = w.heap[k]? := fun k hk hn => (hgr.block k (by omega) (fun e => hn e.symm)).trans (hold wb k hw hk)
    obtain ⟨cur, t2, t3⟩ := h.tab
    have hr1 := hb rb hrb hne.1
    have ha1 := hb ab hab hne.2
    refine ⟨⟨?_, ?_, ?_⟩, ?_, ?_⟩
    · rw [World.cell?_of_block (a := ⟨rb, 0, none⟩) hr1]; exact c0
    · rw [World.cell?_of_block (a := ⟨ab, i * 4, none⟩) ha1, el]; exact c1
    · rw [World.frozen?_of_block (a := ⟨ab, i * 4, none⟩) ha1]; exact f1 _
    · have := h.events hi hb (some ⟨g', off', none⟩) cap' ((st i).ev ++ [x]) (by simpa [evv, el] using hseg) (fun g hg => by
        cases hg
        rcases hat with e | e
        · exact .inl e
        · exact .inr ⟨by show w.heap.size ≤ g'; omega, hS _ (by show w.heap.size ≤ g'; omega)⟩)
      unfold Hid; simpa [el] using this
    · have hFb : Fr S w wb := ⟨hw2.1, hw2.2.1, hw2.2.2, by omega, fun k hk _ => hold wb k hw hk⟩
      exact (hFb.grown hgr (fun g hg _ => h.mine.2.2 i hi g hg)).setCell (fun _ => h.mine.2.1) _
  rw [← el] at c1 hl
  replace f1 := f1 (i * 4)
  clear hhas h el hne hold c2 c3 c4
  go_enter Try.func18, Try.ntmps18
  go_wp2_with (go_at_call 22; refine Hhas.out.mono ?_; rintro e w' ⟨rfl, rfl⟩)
  go_region_law (refine step_append_seg rfl (.tmp 33) (.tmp 35) 22 rfl 3 i0 (.int .i64 0) 1 8 Try.underlying22 hi0 hz0 hz1 hz2 rfl (by decide) (wa i) l (wc i) _ (by simp [Act.eval]) (hrow.out _ (by rfl)).1 _ 1 1 [.int .i64 x] (by simp [Act.eval]) rfl (by decide) (hrow.out _ (by rfl)).2 (by simp [Value.oneCell']) (by unfold maxLen; omega) (by omega) ?_; intro g' off' cap' w1 hown hgr hat; obtain ⟨⟨q0, q1, q2⟩, HN, HF⟩ := hend.out _ w1 g' off' cap' (by rfl) ⟨by rfl, by rfl, by rfl⟩ hown hgr hat; clear hown hgr hat)
  all_goals go_wp2
  all_goals go_ret
  all_goals exact ⟨rfl, HN.out, HF.out⟩
end Go.Proofs.Ytmnomjeiijpinaa

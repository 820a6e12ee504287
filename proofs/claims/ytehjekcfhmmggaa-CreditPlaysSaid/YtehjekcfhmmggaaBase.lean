/-
  Small plain lemmas on worlds, frames and appends that the walks of this seat share. No program is named here; no conditions.
-/
import Derived.WalkKit
import Derived.WalkSpells
import Derived.WalkLawsBesides
import Derived.Deep.AppendLies
import Derived.Deep.RegionLaw
import Derived.Laws.CopyOwn
import Derived.Deep.QuietTactic
import Derived.BigQuiet
namespace Go.Proofs.Ytehjekcfhmmggaa
open Go.RowKit

theorem hid {p : Prop} (h : p) : Hid p := h

/-- Outside the set S of blocks nothing that was there has changed. -/
structure Fr (S : Nat → Prop) (w w' : World) : Prop where
  os : w'.os = w.os
  tape : w'.tape = w.tape
  output : w'.output = w.output
  size : w.heap.size ≤ w'.heap.size
  block : ∀ k, k < w.heap.size → ¬ S k → w'.heap[k]? = w.heap[k]?

theorem Fr.refl (S : Nat → Prop) (w : World) : Fr S w w := ⟨rfl, rfl, rfl, Nat.le_refl _, fun _ _ _ => rfl⟩
theorem Fr.mono {S T : Nat → Prop} {w w' : World} (h : Fr S w w') (hST : ∀ k, k < w.heap.size → S k → T k) : Fr T w w' :=
  ⟨h.os, h.tape, h.output, h.size, fun k hk hn => h.block k hk (fun hs => hn (hST k hk hs))⟩
theorem Fr.trans {S : Nat → Prop} {a b c : World} (h : Fr S a b) (k : Fr S b c) : Fr S a c :=
  ⟨k.os.trans h.os, k.tape.trans h.tape, k.output.trans h.output, Nat.le_trans h.size k.size,
    fun i hi hn => (k.block i (Nat.lt_of_lt_of_le hi h.size) hn).trans (h.block i hi hn)⟩
/-- The second step may touch what the first one made. -/
theorem Fr.then {S T : Nat → Prop} {a b c : World} (h : Fr S a b) (k : Fr T b c) (hT : ∀ i, i < a.heap.size → T i → S i) : Fr S a c :=
  ⟨k.os.trans h.os, k.tape.trans h.tape, k.output.trans h.output, Nat.le_trans h.size k.size,
    fun i hi hn => (k.block i (Nat.lt_of_lt_of_le hi h.size) (fun ht => hn (hT i hi ht))).trans (h.block i hi hn)⟩
theorem Fr.drew {S : Nat → Prop} {a w : World} (h : Fr S a w) : Fr S a w.drew := ⟨h.os, h.tape, h.output, h.size, h.block⟩
theorem Fr.alloc {S : Nat → Prop} {a w : World} (h : Fr S a w) (o : Obj) : Fr S a (w.alloc o) :=
  h.then (T := fun _ => False) ⟨rfl, rfl, rfl, by simp, fun k hk _ => Below.heap_alloc _ _ _ hk⟩ (fun _ _ h => h.elim)
theorem Fr.setCell {S : Nat → Prop} {a w : World} (h : Fr S a w) {p : Addr} (hp : p.block < a.heap.size → S p.block) (u : Value) : Fr S a (w.setCell p u) :=
  h.then (T := fun k => k = p.block) ⟨rfl, rfl, rfl, by simp, fun _ _ hn => Below.heap_setCell _ _ _ _ hn⟩ (fun i hi e => by subst e; exact hp hi)
theorem Fr.grown {S : Nat → Prop} {a w w' : World} {row : Option Nat} (h : Fr S a w) (hg : w.grownBy w' row) (hr : ∀ k, row = some k → k < a.heap.size → S k) : Fr S a w' :=
  h.then (T := fun k => row = some k) ⟨hg.os, hg.tape, hg.output, hg.size, fun k hk hn => hg.block k hk (fun e => hn e.symm)⟩ (fun i hi e => hr i e hi)
theorem Fr.below {S : Nat → Prop} {w w' : World} {B : Nat} (h : Fr S w w') (hB : B ≤ w.heap.size) (hS : ∀ k, k < B → ¬ S k) : Below B w w' :=
  ⟨h.os, h.tape, h.output, h.size, fun k hk => h.block k (Nat.lt_of_lt_of_le hk hB) (hS k hk)⟩
theorem Fr.cell {S : Nat → Prop} {w w' : World} (h : Fr S w w') {p : Addr} (hp : p.block < w.heap.size) (hn : ¬ S p.block) : w'.cell? p = w.cell? p :=
  World.cell?_of_block (h.block p.block hp hn)

theorem grown_drew {w w' : World} {r : Option Nat} (h : w.drew.grownBy w' r) : w.grownBy w' r := ⟨h.os, h.tape, h.output, h.size, h.block⟩

/-- The block that a slice lies in. -/
def blk (a : Option Addr) : Option Nat := a.map (·.block)
@[simp] theorem blk_none : blk none = none := rfl
@[simp] theorem blk_some (a : Addr) : blk (some a) = some a.block := rfl
theorem ownBlock_slice (a : Option Addr) (l c : Nat) : (Value.slice a l c).ownBlock = blk a := by cases a <;> rfl

theorem heap_lt {w : World} {b : Nat} {o : Obj} (h : w.heap[b]? = some o) : b < w.heap.size := (Array.getElem?_eq_some_iff.1 h).1
theorem cell_at {w : World} {b o : Nat} {c : Array Value} {e : TypeId} {fr : Nat × Nat} (h : w.heap[b]? = some (.cells c e fr)) : w.cell? ⟨b, o, none⟩ = c[o]? := cell_of_row w b o c e fr h
theorem thawed {w : World} {b o : Nat} {c : Array Value} {e : TypeId} (h : w.heap[b]? = some (.cells c e (0, 0))) : w.frozen? ⟨b, o, none⟩ = false := by
  simp [World.frozen?, h]
theorem heap_set {w : World} {b o : Nat} {c : Array Value} {e : TypeId} {fr : Nat × Nat} (h : w.heap[b]? = some (.cells c e fr)) (v : Value) :
    (w.setCell ⟨b, o, none⟩ v).heap[b]? = some (.cells (c.setIfInBounds o v) e fr) := by
  simp [World.setCell, Array.getElem?_modify, h]
theorem heap_set_ne {w : World} {k : Nat} {a : Addr} (h : k ≠ a.block) (v : Value) : (w.setCell a v).heap[k]? = w.heap[k]? := Below.heap_setCell _ _ _ _ h
theorem owns_of_heap {w w' : World} {base : Nat} {e : TypeId} {size : Nat} {v : Value} {n : Nat} {xs : List Value} (h : w.ownsRow base e size v n xs)
    (hb : ∀ g, v.ownBlock = some g → w'.heap[g]? = w.heap[g]?) : w'.ownsRow base e size v n xs := by
  refine ⟨h.1, ?_⟩
  rcases h.2 with h2 | ⟨g, cap, cur, hv, hbg, hg, r⟩
  · exact .inl h2
  · exact .inr ⟨g, cap, cur, hv, hbg, by rw [hb g (by rw [hv]; rfl)]; exact hg, r⟩
theorem owns_lt {w : World} {base : Nat} {e : TypeId} {size : Nat} {a : Option Addr} {l c n : Nat} {xs : List Value} (h : w.ownsRow base e size (.slice a l c) n xs) : ∀ g, blk a = some g → g < w.heap.size := by
  intro g hg
  exact (h.lt g (by rw [ownBlock_slice]; exact hg)).2
theorem owns_len {w : World} {base : Nat} {e : TypeId} {size : Nat} {a : Option Addr} {l c n : Nat} {xs : List Value} (h : w.ownsRow base e size (.slice a l c) n xs) : l = n ∧ l ≤ c ∧ c ≤ maxLen ∧ (a = none → c = 0) := by
  rcases h.2 with ⟨hv, h0⟩ | ⟨g, cap, cur, hv, _, _, h1, h2, _⟩
  · simp only [Value.slice.injEq] at hv
    obtain ⟨rfl, rfl, rfl⟩ := hv
    exact ⟨h0.symm, Nat.le_refl _, Nat.zero_le _, fun _ => rfl⟩
  · simp only [Value.slice.injEq] at hv
    obtain ⟨rfl, rfl, rfl⟩ := hv
    exact ⟨rfl, h1, h2, fun h => by cases h⟩

/-- append onto an owned slice, from whatever source, nil and empty too. -/
theorem run_append_gen {P : Program} (w : World) (t ty : TypeId) (e : TypeId) (i : TypeInfo) (z : Value) (size bytes : Nat) (ht : P.underlying t = some (.slice e)) (hi : P.info? e = some i) (hz : i.zero = some z)
    (hsize : i.size = size) (hby : i.bytes = bytes) (hzs : z.cells.size = size) (hsz : 0 < size)
    (base : Nat) (ao : Option Addr) (l cap : Nat) (xs : List Value) (hown : w.ownsRow base e size (.slice ao l cap) l xs)
    (bo : Option Addr) (m c : Nat) (news : List Value) (hl : news.length = m * size) (hb0 : bo = none → m = 0) (hnews : ∀ ad, bo = some ad → ∀ j u, news[j]? = some u → w.cell? (ad.add j) = some u) (h1 : ∀ u ∈ news, u.oneCell' = true)
    (h63 : l + m ≤ maxLen) (hbytes : (l + m) * bytes ≤ 140737488355328) (hbase : base ≤ w.heap.size) :
    ∃ ao' cap' w', (Builtin.append_ #[t, t] ty #[.slice ao l cap, .slice bo m c]).run P w = .ok (.slice ao' (l + m) cap') w' ∧
      w'.ownsRow base e size (.slice ao' (l + m) cap') (l + m) (xs ++ news) ∧ w.grownBy w' (blk ao) ∧ (∀ g, blk ao' = some g → blk ao = some g ∨ g = w.heap.size) := by
  cases bo with
  | none =>
    obtain rfl := hb0 rfl
    obtain rfl : news = [] := List.eq_nil_of_length_eq_zero (by simpa using hl)
    have hlc := (owns_len hown).2.1
    refine ⟨ao, cap, w, ?_, by simpa using hown, World.grownBy.refl _ _, fun g h => .inl h⟩
    cases ao <;> simp [Builtin.append_, run_underlying ht, sizeOf, typeInfo, hi, Builtin.lenOf, Builtin.firstCells, hlc, storeCells]
  | some ad =>
    obtain ⟨v', w', hr, h2, h3, _, h5⟩ := run_append_own_at (P := P) w base t ty e i z size bytes ht hi hz hsize hby hzs hsz (.slice ao l cap) l xs hown ad m c news hl (hnews ad rfl) h1 h63 hbytes hbase
    obtain ⟨ao', cap', rfl⟩ : ∃ ao' cap', v' = .slice ao' (l + m) cap' := by
      rcases h2.2 with ⟨h, h0⟩ | ⟨g, cp, _, h, _⟩
      · exact ⟨none, 0, by rw [h, h0]⟩
      · exact ⟨_, _, h⟩
    rw [ownBlock_slice] at h3 h5
    rw [ownBlock_slice] at h5
    refine ⟨ao', cap', w', hr, h2, h3, fun g h => ?_⟩
    rcases h5 with h5 | h5
    · exact .inl (h5 ▸ h)
    · exact .inr (by rw [h5] at h; exact (Option.some.inj h).symm)

theorem wp_append_gen {P : Program} {w : World} {o : Oper} {a : Act} {K : Act → World → Prop} {Q : Exit → Act → World → Prop} (s x : Operand) (t : TypeId)
    (ho : o.op = .call { callee := .builtin .append, args := #[s, x], argTypes := #[t, t] })
    (e : TypeId) (i : TypeInfo) (z : Value) (size bytes : Nat) (ht : P.underlying t = some (.slice e)) (hi : P.info? e = some i) (hz : i.zero = some z)
    (hsize : i.size = size) (hby : i.bytes = bytes) (hzs : z.cells.size = size) (hsz : 0 < size)
    (base : Nat) (ao : Option Addr) (l cap : Nat) (xs : List Value) (hs : a.eval s = .slice ao l cap) (hown : w.ownsRow base e size (.slice ao l cap) l xs)
    (bo : Option Addr) (m c : Nat) (news : List Value) (hx : a.eval x = .slice bo m c) (hl : news.length = m * size) (hb0 : bo = none → m = 0) (hnews : ∀ ad, bo = some ad → ∀ j u, news[j]? = some u → w.cell? (ad.add j) = some u) (h1 : ∀ u ∈ news, u.oneCell' = true)
    (h63 : l + m ≤ maxLen) (hbytes : (l + m) * bytes ≤ 140737488355328) (hbase : base ≤ w.heap.size)
    (h : ∀ ao' cap' w', w'.ownsRow base e size (.slice ao' (l + m) cap') (l + m) (xs ++ news) → w.grownBy w' (blk ao) → (∀ g, blk ao' = some g → blk ao = some g ∨ g = w.heap.size) → K (a.put o.dst (.slice ao' (l + m) cap')) w') : o.wp P a w K Q := by
  obtain ⟨ao', cap', w', hr, h2, h3, h4⟩ := run_append_gen (P := P) w t o.type e i z size bytes ht hi hz hsize hby hzs hsz base ao l cap xs hown bo m c news hl hb0 hnews h1 h63 hbytes hbase
  unfold Oper.wp execOp
  simp only [ho, resolve, invoke, builtin, Sem.run_bind, Sem.run_pure, Result.andThen_ok, List.map_toArray, List.map_cons, List.map_nil, hs, hx, hr]
  exact h ao' cap' w' h2 h3 h4

theorem wpList_append_gen {P : Program} {w : World} {ops : Array Oper} {rest : List Oper} {o : Oper} {a : Act} {Q : Exit → Act → World → Prop} (hgd : o.guard = none) (s x : Operand) (t : TypeId)
    (ho : o.op = .call { callee := .builtin .append, args := #[s, x], argTypes := #[t, t] })
    (e : TypeId) (i : TypeInfo) (z : Value) (size bytes : Nat) (ht : P.underlying t = some (.slice e)) (hi : P.info? e = some i) (hz : i.zero = some z)
    (hsize : i.size = size) (hby : i.bytes = bytes) (hzs : z.cells.size = size) (hsz : 0 < size)
    (base : Nat) (ao : Option Addr) (l cap : Nat) (xs : List Value) (hs : a.eval s = .slice ao l cap) (hown : w.ownsRow base e size (.slice ao l cap) l xs)
    (bo : Option Addr) (m c : Nat) (news : List Value) (hx : a.eval x = .slice bo m c) (hl : news.length = m * size) (hb0 : bo = none → m = 0) (hnews : ∀ ad, bo = some ad → ∀ j u, news[j]? = some u → w.cell? (ad.add j) = some u) (h1 : ∀ u ∈ news, u.oneCell' = true)
    (h63 : l + m ≤ maxLen) (hbytes : (l + m) * bytes ≤ 140737488355328) (hbase : base ≤ w.heap.size)
    (h : ∀ ao' cap' w', w'.ownsRow base e size (.slice ao' (l + m) cap') (l + m) (xs ++ news) → w.grownBy w' (blk ao) → (∀ g, blk ao' = some g → blk ao = some g ∨ g = w.heap.size) → wpList P ops Q rest (a.put o.dst (.slice ao' (l + m) cap')) w') : wpList P ops Q (o :: rest) a w :=
  wpList_plain hgd fun _ hK => wp_append_gen s x t ho e i z size bytes ht hi hz hsize hby hzs hsz base ao l cap xs hs hown bo m c news hx hl hb0 hnews h1 h63 hbytes hbase fun ao' cap' w' h2 h3 h4 => hK _ _ (h ao' cap' w' h2 h3 h4)

theorem step_append_gen {P : Program} {w : World} {ops : Array Oper} {o : Oper} {a : Act} {K : Act → World → Prop} {Q : Exit → Act → World → Prop} {E : Prop} (hgd : o.guard = none) (s x : Operand) (t : TypeId)
    (ho : o.op = .call { callee := .builtin .append, args := #[s, x], argTypes := #[t, t] })
    (e : TypeId) (i : TypeInfo) (z : Value) (size bytes : Nat) (ht : P.underlying t = some (.slice e)) (hi : P.info? e = some i) (hz : i.zero = some z)
    (hsize : i.size = size) (hby : i.bytes = bytes) (hzs : z.cells.size = size) (hsz : 0 < size)
    (base : Nat) (ao : Option Addr) (l cap : Nat) (xs : List Value) (hs : a.eval s = .slice ao l cap) (hown : w.ownsRow base e size (.slice ao l cap) l xs)
    (bo : Option Addr) (m c : Nat) (news : List Value) (hx : a.eval x = .slice bo m c) (hl : news.length = m * size) (hb0 : bo = none → m = 0) (hnews : ∀ ad, bo = some ad → ∀ j u, news[j]? = some u → w.cell? (ad.add j) = some u) (h1 : ∀ u ∈ news, u.oneCell' = true)
    (h63 : l + m ≤ maxLen) (hbytes : (l + m) * bytes ≤ 140737488355328) (hbase : base ≤ w.heap.size)
    (h : ∀ ao' cap' w', w'.ownsRow base e size (.slice ao' (l + m) cap') (l + m) (xs ++ news) → w.grownBy w' (blk ao) → (∀ g, blk ao' = some g → blk ao = some g ∨ g = w.heap.size) → K (a.put o.dst (.slice ao' (l + m) cap')) w') :
    if Region.wanted o (yielded ops a.tmps) = true then Oper.wp P o a w K Q else E := by
  have hw : Region.wanted o (yielded ops a.tmps) = true := by simp [Region.wanted, hgd]
  rw [if_pos hw]
  exact wp_append_gen s x t ho e i z size bytes ht hi hz hsize hby hzs hsz base ao l cap xs hs hown bo m c news hx hl hb0 hnews h1 h63 hbytes hbase h


/-! ### rows: append with room, clear -/
theorem zeroCells_one {z : Array Value} (h0 : 0 < z.size) (h1 : ∀ u ∈ z.toList, u.oneCell' = true) (n : Nat) : ∀ v ∈ (Builtin.zeroCells z n).toList, v.oneCell' = true := by
  intro v hv
  simp only [Builtin.zeroCells, Array.toList_map, Array.toList_range, List.mem_map] at hv
  obtain ⟨i, _, rfl⟩ := hv
  have hm := Nat.mod_lt i h0
  rw [getElem!_pos z _ hm]
  exact h1 _ (by simp)

theorem run_clear_row {P : Program} (w : World) (t e ty : TypeId) (z : Value) (ht : P.underlying t = some (.slice e)) (hv : ∀ w, (zeroValue e).run P w = .ok z w) (h0 : 0 < z.cells.size) (h1 : ∀ u ∈ z.cells.toList, u.oneCell' = true)
    (g o n c : Nat) (cur : Array Value) (et : TypeId) (hn : 0 < n) (hg : w.heap[g]? = some (.cells cur et (0, 0))) (hfit : o + n * z.cells.size ≤ cur.size) :
    (Builtin.clear_ #[t] ty #[.slice (some ⟨g, o, none⟩) n c]).run P w = .ok (.tuple #[]) (w.setRow g (cur.toList.take o ++ (Builtin.zeroCells z.cells n).toList ++ cur.toList.drop (o + n * z.cells.size)).toArray) := by
  have hl : (Builtin.zeroCells z.cells n).toList.length = n * z.cells.size := by rw [Array.length_toList, size_zeroCells]
  have hst := run_storeCells_at P g o et (Builtin.zeroCells z.cells n).toList 0 cur w hg (by rw [hl]; simpa using hfit) (zeroCells_one h0 h1 n)
  simp only [Nat.add_zero, hl] at hst
  obtain ⟨m, rfl⟩ : ∃ m, n = m + 1 := ⟨n - 1, by omega⟩
  simp [Builtin.clear_, run_underlying ht, hv, hst]

theorem wpList_clear_row {P : Program} {w : World} {ops : Array Oper} {rest : List Oper} {o : Oper} {a : Act} {Q : Exit → Act → World → Prop} (hgd : o.guard = none) (x : Operand) (t : TypeId)
    (ho : o.op = .call { callee := .builtin .clear, args := #[x], argTypes := #[t] })
    (e : TypeId) (z : Value) (ht : P.underlying t = some (.slice e)) (hv : ∀ w, (zeroValue e).run P w = .ok z w) (h0 : 0 < z.cells.size) (h1 : ∀ u ∈ z.cells.toList, u.oneCell' = true)
    (g off n c : Nat) (cur : Array Value) (et : TypeId) (hx : a.eval x = .slice (some ⟨g, off, none⟩) n c) (hn : 0 < n) (hg : w.heap[g]? = some (.cells cur et (0, 0))) (hfit : off + n * z.cells.size ≤ cur.size)
    (h : ∀ w', w' = w.setRow g (cur.toList.take off ++ (Builtin.zeroCells z.cells n).toList ++ cur.toList.drop (off + n * z.cells.size)).toArray → wpList P ops Q rest (a.put o.dst (.tuple #[])) w') : wpList P ops Q (o :: rest) a w := by
  refine wpList_plain hgd fun K hK => ?_
  have hr := run_clear_row (P := P) w t e o.type z ht hv h0 h1 g off n c cur et hn hg hfit
  unfold Oper.wp execOp
  simp only [ho, resolve, invoke, builtin, Sem.run_bind, Sem.run_pure, Result.andThen_ok, List.map_toArray, List.map_cons, List.map_nil, hx, hr]
  exact hK _ _ (h _ rfl)

theorem step_append_row {P : Program} {w : World} {ops : Array Oper} {o : Oper} {a : Act} {K : Act → World → Prop} {Q : Exit → Act → World → Prop} {E : Prop} (hgd : o.guard = none) (s x : Operand) (t : TypeId)
    (ho : o.op = .call { callee := .builtin .append, args := #[s, x], argTypes := #[t, t] })
    (e : TypeId) (i : TypeInfo) (size : Nat) (ht : P.underlying t = some (.slice e)) (hi : P.info? e = some i) (hsize : i.size = size)
    (g l cap : Nat) (cur : Array Value) (hs : a.eval s = .slice (some ⟨g, 0, none⟩) l cap) (hg : w.heap[g]? = some (.cells cur e (0, 0)))
    (ad : Addr) (m c : Nat) (news : List Value) (hx : a.eval x = .slice (some ad) m c) (hl : news.length = m * size) (hnews : ∀ j u, news[j]? = some u → w.cell? (ad.add j) = some u) (h1 : ∀ u ∈ news, u.oneCell' = true)
    (hroom : l + m ≤ cap) (hfit : l * size + news.length ≤ cur.size)
    (h : ∀ w', w' = w.setRow g (cur.toList.take (l * size) ++ news ++ cur.toList.drop (l * size + news.length)).toArray → K (a.put o.dst (.slice (some ⟨g, 0, none⟩) (l + m) cap)) w') :
    if Region.wanted o (yielded ops a.tmps) = true then Oper.wp P o a w K Q else E := by
  have hw : Region.wanted o (yielded ops a.tmps) = true := by simp [Region.wanted, hgd]
  rw [if_pos hw]
  subst hsize
  have hr := run_append_room (P := P) w t o.type e i ht hi g l cap cur hg ad m c news hl hnews h1 hroom hfit
  unfold Oper.wp execOp
  simp only [ho, resolve, invoke, builtin, Sem.run_bind, Sem.run_pure, Result.andThen_ok, List.map_toArray, List.map_cons, List.map_nil, hs, hx, hr]
  exact h _ rfl

theorem grown_setRow (w : World) (g : Nat) (cs : Array Value) : w.grownBy (w.setRow g cs) (some g) :=
  ⟨rfl, rfl, rfl, by simp, fun k _ hk => setRow_other w g k _ (fun e => hk (by rw [e]))⟩

/-- copy into a row known whole, from whatever source. -/
theorem wpList_copy_gen {P : Program} {w : World} {ops : Array Oper} {rest : List Oper} {o : Oper} {a : Act} {Q : Exit → Act → World → Prop} (hgd : o.guard = none) (d s : Operand) (dT sT : TypeId)
    (ho : o.op = .call { callee := .builtin .copy, args := #[d, s], argTypes := #[dT, sT] }) (elem : TypeId) (hu : P.underlying dT = some (.slice elem)) (hsz : (P.info? elem).map (·.size) = some 1)
    (g dLen dCap : Nat) (so : Option Addr) (sLen sCap : Nat) (hd : a.eval d = .slice (some ⟨g, 0, none⟩) dLen dCap) (hs : a.eval s = .slice so sLen sCap)
    (cur : Array Value) (t : TypeId) (hg : w.heap[g]? = some (.cells cur t (0, 0))) (cs : List Value) (hn : cs.length = Nat.min sLen dLen) (hnil : so = none → cs = [])
    (hsrc : ∀ ad, so = some ad → ∀ j v, cs[j]? = some v → w.cell? (ad.add j) = some v) (hfit : cs.length ≤ cur.size) (h1 : ∀ v ∈ cs, v.oneCell' = true)
    (h : ∀ w', w'.heap[g]? = some (.cells (cs ++ cur.toList.drop cs.length).toArray t (0, 0)) → w.grownBy w' (some g) → wpList P ops Q rest (a.put o.dst (goInt cs.length)) w') : wpList P ops Q (o :: rest) a w := by
  cases so with
  | none =>
    obtain rfl := hnil rfl
    refine wpList_copy_nothing hgd d s dT sT ho elem hu hsz (some ⟨g, 0, none⟩) none dLen dCap sLen sCap hd hs hn.symm ?_
    exact h w (by simpa using hg) (World.grownBy.refl _ _)
  | some ad =>
    refine wpList_copy_own hgd d s dT sT ho elem hu hsz g 0 dLen dCap ad sLen sCap hd hs cur t hg cs hn (hsrc ad rfl) (by simpa using hfit) h1 ?_
    refine h _ ?_ (grown_setRow _ _ _)
    rw [setRow_heap w g _ _ t _ hg]
    simp

/-- What is left behind a delete of the places i to j, in a row of cells. -/
theorem deleted_row (cur xs : List Value) (cap l i j sz : Nat) (zs : List Value) (hc : cur.length = cap * sz) (hx : cur.take (l * sz) = xs) (hlc : l ≤ cap) (hij : i ≤ j) (hjl : j ≤ l) (hz : zs.length = (j - i) * sz) (news : List Value) (hnews : news = xs.drop (j * sz)) :
    let r1 := cur.take (i * sz) ++ news ++ cur.drop (i * sz + news.length)
    let r2 := r1.take ((l - (j - i)) * sz) ++ zs ++ r1.drop ((l - (j - i)) * sz + (j - i) * sz)
    r1.length = cap * sz ∧ r2.length = cap * sz ∧ r2.take ((l - (j - i)) * sz) = xs.take (i * sz) ++ xs.drop (j * sz) := by
  have h1 : l * sz ≤ cap * sz := Nat.mul_le_mul_right _ hlc
  have h2 : j * sz ≤ l * sz := Nat.mul_le_mul_right _ hjl
  have h3 : i * sz ≤ j * sz := Nat.mul_le_mul_right _ hij
  have h4 : (j - i) * sz = j * sz - i * sz := Nat.sub_mul _ _ _
  have h5 : (l - (j - i)) * sz = l * sz - (j * sz - i * sz) := by rw [Nat.sub_mul, h4]
  have hxl : xs.length = l * sz := by rw [← hx, List.length_take]; omega
  have hnl : news.length = l * sz - j * sz := by rw [hnews, List.length_drop, hxl]
  intro r1 r2
  have e1 : r1.length = cap * sz := by
    simp only [r1, List.length_append, List.length_take, List.length_drop]
    omega
  have ht : cur.take (i * sz) = xs.take (i * sz) := by
    rw [← hx, List.take_take, Nat.min_eq_left (by omega)]
  have e3 : r1.take (l * sz - (j * sz - i * sz)) = xs.take (i * sz) ++ xs.drop (j * sz) := by
    simp only [r1, ht, ← hnews]
    rw [List.take_append_of_le_length (by simp only [List.length_append, List.length_take, hnl, hxl]; omega)]
    rw [List.take_of_length_le (by simp only [List.length_append, List.length_take, hnl, hxl]; omega)]
  refine ⟨e1, ?_, ?_⟩
  · simp only [r2, List.length_append, List.length_take, List.length_drop, e1, hz, h4, h5]
    omega
  · simp only [r2, h5]
    rw [List.append_assoc, List.take_append_of_le_length (by rw [List.length_take, e1]; omega), List.take_take, Nat.min_self, e3]

/-! ### masks -/
theorem and_mask64 (x : Int) (p : Nat) (hp : p ≤ 62) : bits .and .i64 x ((2 ^ p - 1 : Nat) : Int) = x % ((2 ^ p : Nat) : Int) := by
  have h64 : (2 : Nat) ^ p ≤ 2 ^ 62 := Nat.pow_le_pow_right (by omega) hp
  have hpos : 0 < (2 : Nat) ^ p := Nat.two_pow_pos p
  have e1 : (BitVec.ofInt 64 ((2 ^ p - 1 : Nat) : Int)).toNat = 2 ^ p - 1 := by
    rw [BitVec.toNat_ofInt]; omega
  have e2 : ((BitVec.ofInt 64 x) &&& (BitVec.ofInt 64 ((2 ^ p - 1 : Nat) : Int))).toNat = (x % ((2 ^ p : Nat) : Int)).toNat := by
    rw [BitVec.toNat_and, e1, Nat.and_two_pow_sub_one_eq_mod, BitVec.toNat_ofInt]
    have hd : ((2 ^ p : Nat) : Int) ∣ ((2 ^ 64 : Nat) : Int) := by
      refine Int.natCast_dvd_natCast.2 (Nat.pow_dvd_pow 2 (by omega))
    have h0 : 0 ≤ x % ((2 ^ 64 : Nat) : Int) := Int.emod_nonneg _ (by omega)
    have : ((x % ((2 ^ 64 : Nat) : Int)).toNat % 2 ^ p : Nat) = ((x % ((2 ^ 64 : Nat) : Int)) % ((2 ^ p : Nat) : Int)).toNat := by
      obtain ⟨Y, hY⟩ := Int.eq_ofNat_of_zero_le h0
      rw [hY, Int.toNat_natCast, ← Int.natCast_emod, Int.toNat_natCast]
    rw [this, Int.emod_emod_of_dvd _ hd]
  have h0 : 0 ≤ x % ((2 ^ p : Nat) : Int) := Int.emod_nonneg _ (by omega)
  have h1 : x % ((2 ^ p : Nat) : Int) < ((2 ^ p : Nat) : Int) := Int.emod_lt_of_pos _ (by omega)
  unfold bits
  show IntKind.i64.wrap ((BitVec.ofInt 64 x &&& BitVec.ofInt 64 ((2 ^ p - 1 : Nat) : Int)).toNat : Int) = _
  rw [e2, Int.toNat_of_nonneg h0, IntKind.wrap_i64]
  omega
theorem and_mask64_nat (x : Int) (p M : Nat) (hp : p ≤ 62) (hM : M + 1 = 2 ^ p) : ∃ N : Nat, bits .and .i64 x (M : Int) = (N : Int) ∧ N ≤ M ∧ (N : Int) = x % ((M + 1 : Nat) : Int) := by
  have h := and_mask64 x p hp
  rw [← hM] at h
  have hp : 0 < (M + 1) := by omega
  have h0 : 0 ≤ x % ((M + 1 : Nat) : Int) := Int.emod_nonneg _ (by omega)
  have h1 : x % ((M + 1 : Nat) : Int) < ((M + 1 : Nat) : Int) := Int.emod_lt_of_pos _ (by omega)
  refine ⟨(x % ((M + 1 : Nat) : Int)).toNat, ?_, by omega, by omega⟩
  rw [Int.toNat_of_nonneg h0, ← h]
  simp

theorem and_maskU0 (x : Int) (p M : Nat) (hp : p ≤ 62) (hM : M + 1 = 2 ^ p) : ∃ N : Nat, bits .and .u64 x (M : Int) = (N : Int) ∧ N ≤ M := by
  have h64 : (2 : Nat) ^ p ≤ 2 ^ 62 := Nat.pow_le_pow_right (by omega) hp
  have e1 : (BitVec.ofInt 64 (M : Int)).toNat = 2 ^ p - 1 := by
    rw [BitVec.toNat_ofInt]; omega
  refine ⟨(BitVec.ofInt 64 x).toNat % 2 ^ p, ?_, by have := Nat.mod_lt (BitVec.ofInt 64 x).toNat (Nat.two_pow_pos p); omega⟩
  have e2 : ((BitVec.ofInt 64 x) &&& (BitVec.ofInt 64 (M : Int))).toNat = (BitVec.ofInt 64 x).toNat % 2 ^ p := by
    rw [BitVec.toNat_and, e1, Nat.and_two_pow_sub_one_eq_mod]
  unfold bits
  show IntKind.u64.wrap ((BitVec.ofInt 64 x &&& BitVec.ofInt 64 (M : Int)).toNat : Int) = _
  rw [e2, IntKind.wrap_u64]
  have := Nat.mod_lt (BitVec.ofInt 64 x).toNat (Nat.two_pow_pos p)
  omega

theorem heap2 (w : World) (o1 o2 : Obj) : ((w.alloc o1).alloc o2).heap[w.heap.size]? = some o1 ∧ ((w.alloc o1).alloc o2).heap[w.heap.size + 1]? = some o2 :=
  ⟨heap_alloc2_old w o1 o2, heap_alloc2_new w o1 o2⟩
theorem heap3 (w : World) (o1 o2 o3 : Obj) : (((w.alloc o1).alloc o2).alloc o3).heap[w.heap.size]? = some o1 ∧ (((w.alloc o1).alloc o2).alloc o3).heap[w.heap.size + 1]? = some o2 ∧ (((w.alloc o1).alloc o2).alloc o3).heap[w.heap.size + 1 + 1]? = some o3 := by
  have h := heap2 (w.alloc o1) o2 o3
  rw [World.size_alloc] at h
  refine ⟨?_, h.1, h.2⟩
  rw [Below.heap_alloc _ _ _ (by rw [World.size_alloc, World.size_alloc]; omega)]
  exact (heap2 w o1 o2).1

end Go.Proofs.Ytehjekcfhmmggaa

/-
  A slice over a row whose elements lie from some place of the row on: popped at its head by reslicing, appended to at its tail. No program is named here; no conditions.
-/
import Derived.Test.YtehjekcfhmmggaaBase
import Derived.ArgAppend
namespace Go.Proofs.Ytehjekcfhmmggaa
open Go.RowKit

def Seg (w : World) (e : TypeId) (size : Nat) (a : Option Addr) (len cap : Nat) (xs : List Value) : Prop :=
  xs.length = len * size ∧ len ≤ cap ∧ cap ≤ maxLen ∧
    ((a = none ∧ cap = 0) ∨ ∃ g off cur, a = some ⟨g, off, none⟩ ∧ w.heap[g]? = some (.cells cur e (0, 0)) ∧ off + cap * size ≤ cur.size ∧ (cur.toList.drop off).take (len * size) = xs)

theorem Seg.nil (w : World) (e : TypeId) (size : Nat) : Seg w e size none 0 0 [] := ⟨by simp, Nat.le_refl _, Nat.zero_le _, .inl ⟨rfl, rfl⟩⟩

section
variable {w w' : World} {e : TypeId} {size : Nat} {a : Option Addr} {len cap : Nat} {xs : List Value}

theorem Seg.of_heap (h : Seg w e size a len cap xs) (hb : ∀ g, blk a = some g → w'.heap[g]? = w.heap[g]?) : Seg w' e size a len cap xs := by
  obtain ⟨h1, h2, h3, h4⟩ := h
  refine ⟨h1, h2, h3, ?_⟩
  rcases h4 with h4 | ⟨g, off, cur, ha, hg, hs, hx⟩
  · exact .inl h4
  · exact .inr ⟨g, off, cur, ha, by rw [hb g (by rw [ha]; rfl)]; exact hg, hs, hx⟩

theorem Seg.lt (h : Seg w e size a len cap xs) : ∀ g, blk a = some g → g < w.heap.size := by
  intro g hg
  rcases h.2.2.2 with ⟨h4, _⟩ | ⟨g', off, cur, ha, hg', _⟩
  · rw [h4] at hg; cases hg
  · rw [ha] at hg
    cases hg
    exact heap_lt hg'

theorem Seg.of_owns {base n : Nat} (h : w.ownsRow base e size (.slice a len cap) n xs) : Seg w e size a len cap xs := by
  obtain ⟨h1, h2⟩ := h
  rcases h2 with ⟨hv, h0⟩ | ⟨g, cap', cur, hv, hb, hg, h3, h4, h5, h6⟩
  · simp only [Value.slice.injEq] at hv
    obtain ⟨rfl, rfl, rfl⟩ := hv
    subst h0
    exact ⟨h1, Nat.le_refl _, Nat.zero_le _, .inl ⟨rfl, rfl⟩⟩
  · simp only [Value.slice.injEq] at hv
    obtain ⟨rfl, rfl, rfl⟩ := hv
    exact ⟨h1, h3, h4, .inr ⟨g, 0, cur, rfl, hg, by omega, by simpa [h1] using h6⟩⟩

theorem Seg.ptr (h : Seg w e size a len cap xs) (h0 : 0 < cap) : ∃ g off, a = some ⟨g, off, none⟩ := by
  rcases h.2.2.2 with ⟨_, h4⟩ | ⟨g, off, cur, ha, _⟩
  · omega
  · exact ⟨g, off, ha⟩

theorem Seg.cells (h : Seg w e size a len cap xs) {b : Addr} (hb : a = some b) (j : Nat) (u : Value) (hu : xs[j]? = some u) : w.cell? (b.add j) = some u := by
  rcases h.2.2.2 with ⟨h4, _⟩ | ⟨g, off, cur, ha, hg, hs, hx⟩
  · rw [h4] at hb; cases hb
  · rw [ha] at hb
    cases hb
    rw [Addr.add_lit, cell_at hg]
    rw [← hx, List.getElem?_take] at hu
    split at hu
    · rw [List.getElem?_drop] at hu
      simpa using hu
    · cases hu

theorem Seg.cell (h : Seg w e size a len cap xs) {g off : Nat} (hb : a = some ⟨g, off, none⟩) (j : Nat) (u : Value) (hu : xs[j]? = some u) : w.cell? ⟨g, off + j, none⟩ = some u := by
  have := h.cells hb j u hu
  rwa [Addr.add_lit] at this

theorem Seg.thaw (h : Seg w e size a len cap xs) {g off o : Nat} (hb : a = some ⟨g, off, none⟩) : w.frozen? ⟨g, o, none⟩ = false := by
  rcases h.2.2.2 with ⟨h4, _⟩ | ⟨g', off', cur, ha, hg, hs, hx⟩
  · rw [h4] at hb; cases hb
  · rw [ha] at hb
    cases hb
    exact thawed hg

/-- One taken at the head. -/
def popA (a : Option Addr) (cap size : Nat) : Option Addr := if cap = 1 then a else a.map (·.add size)
theorem popA_blk (a : Option Addr) (cap size : Nat) : blk (popA a cap size) = blk a := by
  unfold popA
  split
  · rfl
  · cases a with
    | none => rfl
    | some a => cases a; simp [blk, Addr.add]; split <;> rfl

theorem Seg.pop {y ys : List Value} (h : Seg w e size a (len + 1) cap (y ++ ys)) (hy : y.length = size) : Seg w e size (popA a cap size) len (cap - 1) ys := by
  obtain ⟨h1, h2, h3, h4⟩ := h
  have hl : ys.length = len * size := by rw [List.length_append, hy, Nat.add_mul] at h1; omega
  refine ⟨hl, by omega, by omega, ?_⟩
  rcases h4 with ⟨_, h4⟩ | ⟨g, off, cur, ha, hg, hs, hx⟩
  · omega
  · right
    unfold popA
    split
    · rename_i hc
      subst hc
      obtain rfl : len = 0 := by omega
      obtain rfl : ys = [] := List.eq_nil_of_length_eq_zero (by simpa using hl)
      exact ⟨g, off, cur, ha, hg, by omega, by simp⟩
    · obtain ⟨k, rfl⟩ : ∃ k, cap = k + 1 := ⟨cap - 1, by omega⟩
      refine ⟨g, off + size, cur, by rw [ha]; simp [Addr.add_lit], hg, ?_, ?_⟩
      · rw [Nat.add_mul] at hs; simp only [Nat.add_sub_cancel]; omega
      · have e1 := congrArg (List.drop size) hx
        rw [List.drop_take, List.drop_drop, List.drop_left' hy] at e1
        rw [← e1]
        congr 1
        rw [Nat.add_mul]; omega

/-- One cell of an element written. -/
theorem Seg.set (h : Seg w e size a len cap xs) {g off : Nat} (hb : a = some ⟨g, off, none⟩) (j : Nat) (v : Value) : Seg (w.setCell ⟨g, off + j, none⟩ v) e size a len cap (xs.set j v) := by
  obtain ⟨h1, h2, h3, h4⟩ := h
  refine ⟨by simpa using h1, h2, h3, ?_⟩
  rcases h4 with ⟨h4, _⟩ | ⟨g', off', cur, ha, hg, hs, hx⟩
  · rw [h4] at hb; cases hb
  · rw [ha] at hb
    cases hb
    refine .inr ⟨g, off, _, ha, heap_set hg v, by simpa using hs, ?_⟩
    rw [← hx]
    simp [List.drop_set]
    rw [if_neg (by omega)]
    exact List.take_set

end

/-- append onto such a slice. -/
theorem run_append_seg {P : Program} (w : World) (t ty : TypeId) (e : TypeId) (i : TypeInfo) (z : Value) (size bytes : Nat) (ht : P.underlying t = some (.slice e)) (hi : P.info? e = some i) (hz : i.zero = some z)
    (hsize : i.size = size) (hby : i.bytes = bytes) (hzs : z.cells.size = size) (hsz : 0 < size)
    (ao : Option Addr) (l cap : Nat) (xs : List Value) (hown : Seg w e size ao l cap xs)
    (ad : Addr) (m c : Nat) (news : List Value) (hl : news.length = m * size) (hm : 0 < m) (hnews : ∀ j u, news[j]? = some u → w.cell? (ad.add j) = some u) (h1 : ∀ u ∈ news, u.oneCell' = true)
    (h63 : l + m ≤ maxLen) (hbytes : (l + m) * bytes ≤ 140737488355328) :
    ∃ g' off' cap' w', (Builtin.append_ #[t, t] ty #[.slice ao l cap, .slice (some ad) m c]).run P w = .ok (.slice (some ⟨g', off', none⟩) (l + m) cap') w' ∧
      Seg w' e size (some ⟨g', off', none⟩) (l + m) cap' (xs ++ news) ∧ w.grownBy w' (blk ao) ∧ (blk ao = some g' ∨ w.heap.size ≤ g') := by
  have big : ∀ v' w', w'.ownsRow w.heap.size e size v' (l + m) (xs ++ news) → ∃ g' cap', v' = .slice (some ⟨g', 0, none⟩) (l + m) cap' ∧ Seg w' e size (some ⟨g', 0, none⟩) (l + m) cap' (xs ++ news) ∧ w.heap.size ≤ g' := by
    intro v' w' h
    obtain ⟨g, cp, rfl, hg, _⟩ := h.form (by omega)
    exact ⟨g, cp, rfl, Seg.of_owns h, hg⟩
  by_cases hroom : l + m ≤ cap
  · obtain ⟨h0, h2, h3, h4⟩ := hown
    rcases h4 with ⟨_, h4⟩ | ⟨g, off, cur, rfl, hg, hs, hx⟩
    · omega
    · subst hsize
      have hms : (l + m) * i.size ≤ cap * i.size := Nat.mul_le_mul_right _ hroom
      have hlm : (l + m) * i.size = l * i.size + m * i.size := Nat.add_mul _ _ _
      have hf := run_firstCells_some (P := P) w i.size m ad m c news hl hnews
      have hst := run_storeCells_at P g (off + l * i.size) e news 0 cur w hg (by omega) h1
      simp only [Nat.add_zero] at hst
      refine ⟨g, off, cap, _, by simp [Builtin.append_, run_underlying ht, sizeOf, typeInfo, hi, Builtin.lenOf, hroom, hf, Addr.add_lit, hst]; rfl, ⟨by rw [List.length_append, h0, hl, hlm], hroom, h3, .inr ⟨g, off, _, rfl, setRow_heap w g cur _ e (0, 0) hg, ?_, ?_⟩⟩, ?_, .inl rfl⟩
      · simp only [List.size_toArray, List.length_append, List.length_take, List.length_drop, Array.length_toList]; omega
      · have ec : cur.toList.length = cur.size := Array.length_toList
        rw [List.toList_toArray, List.drop_append_of_le_length (by rw [List.length_take]; omega), List.drop_take, show off + l * i.size - off = l * i.size from by omega, hx,
          ← List.append_assoc, List.take_append_of_le_length (by rw [List.length_append, h0, hl, hlm]; omega), List.take_of_length_le (by rw [List.length_append, h0, hl, hlm]; omega)]
      · exact grown_setRow w g _
  · cases ao with
    | some b =>
      obtain ⟨v', w', hr, h5, h6⟩ := run_append_arg_grows (P := P) w t ty e i z size bytes ht hi hz hsize hby hzs hsz b l cap xs hown.1 (fun j u hu => hown.cells rfl j u hu) ad m c news hl hnews (by omega) h63 hbytes
      obtain ⟨g', cap', rfl, h7, h8⟩ := big v' w' h5
      exact ⟨g', 0, cap', w', hr, h7, ⟨h6.os, h6.tape, h6.output, h6.size, fun k hk _ => h6.block k hk (by simp)⟩, .inr h8⟩
    | none =>
      have hc0 : cap = 0 := by
        rcases hown.2.2.2 with ⟨_, h4⟩ | ⟨g, off, cur, h, _⟩
        · exact h4
        · cases h
      subst hc0
      obtain rfl : l = 0 := by have := hown.2.1; omega
      obtain rfl : xs = [] := List.eq_nil_of_length_eq_zero (by simpa using hown.1)
      obtain ⟨v', w', hr, h5, h6, _⟩ := run_append_own (P := P) w w.heap.size t ty e i z size bytes ht hi hz hsize hby hzs hsz (.slice none 0 0) 0 [] (World.ownsRow_nil w _ e size) ad m c news hl hnews h1 h63 hbytes (Nat.le_refl _)
      obtain ⟨g', cap', rfl, h7, h8⟩ := big v' w' (by simpa using h5)
      exact ⟨g', 0, cap', w', hr, h7, h6, .inr h8⟩

theorem wp_append_seg {P : Program} {w : World} {o : Oper} {a : Act} {K : Act → World → Prop} {Q : Exit → Act → World → Prop} (s x : Operand) (t : TypeId)
    (ho : o.op = .call { callee := .builtin .append, args := #[s, x], argTypes := #[t, t] })
    (e : TypeId) (i : TypeInfo) (z : Value) (size bytes : Nat) (ht : P.underlying t = some (.slice e)) (hi : P.info? e = some i) (hz : i.zero = some z)
    (hsize : i.size = size) (hby : i.bytes = bytes) (hzs : z.cells.size = size) (hsz : 0 < size)
    (ao : Option Addr) (l cap : Nat) (xs : List Value) (hs : a.eval s = .slice ao l cap) (hown : Seg w e size ao l cap xs)
    (ad : Addr) (m c : Nat) (news : List Value) (hx : a.eval x = .slice (some ad) m c) (hl : news.length = m * size) (hm : 0 < m) (hnews : ∀ j u, news[j]? = some u → w.cell? (ad.add j) = some u) (h1 : ∀ u ∈ news, u.oneCell' = true)
    (h63 : l + m ≤ maxLen) (hbytes : (l + m) * bytes ≤ 140737488355328)
    (h : ∀ g' off' cap' w', Seg w' e size (some ⟨g', off', none⟩) (l + m) cap' (xs ++ news) → w.grownBy w' (blk ao) → (blk ao = some g' ∨ w.heap.size ≤ g') → K (a.put o.dst (.slice (some ⟨g', off', none⟩) (l + m) cap')) w') : o.wp P a w K Q := by
  obtain ⟨g', off', cap', w', hr, h2, h3, h4⟩ := run_append_seg (P := P) w t o.type e i z size bytes ht hi hz hsize hby hzs hsz ao l cap xs hown ad m c news hl hm hnews h1 h63 hbytes
  unfold Oper.wp execOp
  simp only [ho, resolve, invoke, builtin, Sem.run_bind, Sem.run_pure, Result.andThen_ok, List.map_toArray, List.map_cons, List.map_nil, hs, hx, hr]
  exact h g' off' cap' w' h2 h3 h4

theorem wpList_append_seg {P : Program} {w : World} {ops : Array Oper} {rest : List Oper} {o : Oper} {a : Act} {Q : Exit → Act → World → Prop} (hgd : o.guard = none) (s x : Operand) (t : TypeId)
    (ho : o.op = .call { callee := .builtin .append, args := #[s, x], argTypes := #[t, t] })
    (e : TypeId) (i : TypeInfo) (z : Value) (size bytes : Nat) (ht : P.underlying t = some (.slice e)) (hi : P.info? e = some i) (hz : i.zero = some z)
    (hsize : i.size = size) (hby : i.bytes = bytes) (hzs : z.cells.size = size) (hsz : 0 < size)
    (ao : Option Addr) (l cap : Nat) (xs : List Value) (hs : a.eval s = .slice ao l cap) (hown : Seg w e size ao l cap xs)
    (ad : Addr) (m c : Nat) (news : List Value) (hx : a.eval x = .slice (some ad) m c) (hl : news.length = m * size) (hm : 0 < m) (hnews : ∀ j u, news[j]? = some u → w.cell? (ad.add j) = some u) (h1 : ∀ u ∈ news, u.oneCell' = true)
    (h63 : l + m ≤ maxLen) (hbytes : (l + m) * bytes ≤ 140737488355328)
    (h : ∀ g' off' cap' w', Seg w' e size (some ⟨g', off', none⟩) (l + m) cap' (xs ++ news) → w.grownBy w' (blk ao) → (blk ao = some g' ∨ w.heap.size ≤ g') → wpList P ops Q rest (a.put o.dst (.slice (some ⟨g', off', none⟩) (l + m) cap')) w') : wpList P ops Q (o :: rest) a w :=
  wpList_plain hgd fun _ hK => wp_append_seg s x t ho e i z size bytes ht hi hz hsize hby hzs hsz ao l cap xs hs hown ad m c news hx hl hm hnews h1 h63 hbytes fun g' off' cap' w' h2 h3 h4 => hK _ _ (h g' off' cap' w' h2 h3 h4)

theorem step_append_seg {P : Program} {w : World} {ops : Array Oper} {o : Oper} {a : Act} {K : Act → World → Prop} {Q : Exit → Act → World → Prop} {E : Prop} (hgd : o.guard = none) (s x : Operand) (t : TypeId)
    (ho : o.op = .call { callee := .builtin .append, args := #[s, x], argTypes := #[t, t] })
    (e : TypeId) (i : TypeInfo) (z : Value) (size bytes : Nat) (ht : P.underlying t = some (.slice e)) (hi : P.info? e = some i) (hz : i.zero = some z)
    (hsize : i.size = size) (hby : i.bytes = bytes) (hzs : z.cells.size = size) (hsz : 0 < size)
    (ao : Option Addr) (l cap : Nat) (xs : List Value) (hs : a.eval s = .slice ao l cap) (hown : Seg w e size ao l cap xs)
    (ad : Addr) (m c : Nat) (news : List Value) (hx : a.eval x = .slice (some ad) m c) (hl : news.length = m * size) (hm : 0 < m) (hnews : ∀ j u, news[j]? = some u → w.cell? (ad.add j) = some u) (h1 : ∀ u ∈ news, u.oneCell' = true)
    (h63 : l + m ≤ maxLen) (hbytes : (l + m) * bytes ≤ 140737488355328)
    (h : ∀ g' off' cap' w', Seg w' e size (some ⟨g', off', none⟩) (l + m) cap' (xs ++ news) → w.grownBy w' (blk ao) → (blk ao = some g' ∨ w.heap.size ≤ g') → K (a.put o.dst (.slice (some ⟨g', off', none⟩) (l + m) cap')) w') :
    if Region.wanted o (yielded ops a.tmps) = true then Oper.wp P o a w K Q else E := by
  have hw : Region.wanted o (yielded ops a.tmps) = true := by simp [Region.wanted, hgd]
  rw [if_pos hw]
  exact wp_append_seg s x t ho e i z size bytes ht hi hz hsize hby hzs hsz ao l cap xs hs hown ad m c news hx hl hm hnews h1 h63 hbytes h
end Go.Proofs.Ytehjekcfhmmggaa

/-
  Go's slices.DeleteFunc at int, with the closure of out: what is of one number goes out of a row. No conditions.
-/
import Derived.Test.YtehjekcfhmmggaaCre3
import Derived.Shelf.Abstract
namespace Go.Proofs.Ytehjekcfhmmggaa
open Go.RowKit
open Go.Maps (Keyed)

/-- The row while it is gone through: j were looked at. -/
structure Goes (cur cur' : Array Value) (xs : List Int) (id : Int) (j : Nat) : Prop where
  size : cur'.size = cur.size
  low : ∀ (k : Nat) y, (strike (xs.take j) id)[k]? = some y → cur'[k]? = some (Value.int .i64 y)
  high : ∀ (k : Nat), j ≤ k → cur'[k]? = cur[k]?

theorem strike_take {xs : List Int} {j : Nat} {v : Int} (hv : xs[j]? = some v) (id : Int) : strike (xs.take (j + 1)) id = if v = id then strike (xs.take j) id else strike (xs.take j) id ++ [v] := by
  unfold strike
  rw [List.take_add_one, hv]
  by_cases h : v = id <;> simp [h]
theorem strike_le (xs : List Int) (id : Int) (j : Nat) : (strike (xs.take j) id).length ≤ j := by
  unfold strike
  have := List.length_filter_le (fun x => decide (x ≠ id)) (xs.take j)
  rw [List.length_take] at this
  omega

theorem Goes.start {cur : Array Value} {xs : List Int} {id : Int} {i : Nat} (hc : ∀ (k : Nat) y, xs[k]? = some y → cur[k]? = some (Value.int .i64 y)) (hb : ∀ (k : Nat) y, k < i → xs[k]? = some y → y ≠ id) (hi : xs[i]? = some id) :
    Goes cur cur xs id (i + 1) ∧ (strike (xs.take (i + 1)) id).length = i := by
  have hs : strike (xs.take i) id = xs.take i := by
    unfold strike
    rw [List.filter_eq_self]
    intro y hy
    obtain ⟨k, hk, rfl⟩ := List.getElem_of_mem hy
    rw [List.length_take] at hk
    have := hb k (xs.take i)[k] (by omega) (by rw [List.getElem_take]; exact List.getElem?_eq_getElem (by omega))
    simpa using this
  have hl := (List.getElem?_eq_some_iff.1 hi).1
  rw [strike_take hi, if_pos rfl, hs]
  refine ⟨⟨rfl, fun k y hk => ?_, fun k _ => rfl⟩, by rw [List.length_take]; omega⟩
  rw [strike_take hi, if_pos rfl, hs, List.getElem?_take] at hk
  split at hk
  · exact hc k y hk
  · cases hk

theorem Goes.skip {cur cur' : Array Value} {xs : List Int} {id : Int} {j : Nat} (h : Goes cur cur' xs id j) (hv : xs[j]? = some id) : Goes cur cur' xs id (j + 1) :=
  ⟨h.size, fun k y hk => h.low k y (by rw [strike_take hv, if_pos rfl] at hk; exact hk), fun k hk => h.high k (by omega)⟩
theorem Goes.keep {cur cur' : Array Value} {xs : List Int} {id : Int} {j : Nat} {v : Int} (h : Goes cur cur' xs id j) (hv : xs[j]? = some v) (hne : v ≠ id) (hj : j < cur.size) :
    Goes cur (cur'.setIfInBounds (strike (xs.take j) id).length (Value.int .i64 v)) xs id (j + 1) := by
  have hle := strike_le xs id j
  refine ⟨by simpa using h.size, fun k y hk => ?_, fun k hk => ?_⟩
  · rw [strike_take hv, if_neg hne] at hk
    rw [Array.getElem?_setIfInBounds]
    by_cases e : (strike (xs.take j) id).length = k
    · subst e
      rw [List.getElem?_concat_length] at hk
      rw [if_pos rfl, if_pos (by rw [h.size]; omega), Option.some.inj hk]
    · rw [if_neg e]
      refine h.low k y ?_
      have hlt := (List.getElem?_eq_some_iff.1 hk).1
      rw [List.length_append, List.length_singleton] at hlt
      rw [List.getElem?_append_left (by omega)] at hk
      exact hk
  · rw [Array.getElem?_setIfInBounds, if_neg (by omega)]
    exact h.high k (by omega)

theorem grown_set (w : World) (a : Addr) (v : Value) : w.grownBy (w.setCell a v) (some a.block) :=
  ⟨rfl, rfl, rfl, by simp, fun _ _ hn => heap_set_ne (fun e => hn (by rw [e])) v⟩

theorem int3 : ∃ z, (∀ w, (zeroValue 3).run Try.prog w = .ok z w) ∧ z.cells.size = 1 ∧ ∀ u ∈ z.cells.toList, u.oneCell' = true :=
  ⟨.int .i64 0, fun w => by kernel_rfl, rfl, fun u hu => by simp [Value.cells] at hu; subst hu; rfl⟩

theorem strike_none {xs : List Int} {id : Int} (h : ∀ y ∈ xs, y ≠ id) : strike xs id = xs := by
  unfold strike
  rw [List.filter_eq_self]
  intro y hy
  simpa using h y hy

set_option maxHeartbeats 2000000 in
set_option maxRecDepth 100000 in
theorem deleteFunc (w : World) (a : Option Addr) (c : Nat) (xs : List Int) (hown : w.ownsRow 0 3 1 (.slice a xs.length c) xs.length (ints xs)) (id : Int) (B : Nat) (hB : w.cell? ⟨B, 0, none⟩ = some (.int .i64 id)) (hBa : blk a ≠ some B) :
    Calls Try.prog 49 #[.slice a xs.length c, .func (.func 50) #[] #[.pointer (some ⟨B, 0, none⟩)]] w fun e w' => e = .returned (.slice a (strike xs id).length c) ∧ Hid (w'.ownsRow 0 3 1 (.slice a (strike xs id).length c) (strike xs id).length (ints (strike xs id))) ∧ Hid (w.grownBy w' (blk a)) := by
  have hlen := owns_len hown
  have hmc := hlen.2.2.1
  have eg := enters_of Try.func50 (by kernel_rfl) rfl
  have HI := hid (indexFunc w a c xs (RdI.of_owns hown) hlen.2.1 hlen.2.2.1 50 #[] #[.pointer (some ⟨B, 0, none⟩)] (fun x => decide (x = id)) eg (fun x _ => same_c w x id B hB))
  have hcl := hlen.2.1
  unfold maxLen at hmc
  cases hany : xs.any (fun x => decide (x = id)) with
  | false =>
    have e1 : idxI (fun x => decide (x = id)) xs = -1 := by unfold idxI; rw [if_neg (by rw [hany]; decide)]
    have hs : strike xs id = xs := strike_none (fun y hy e => by
      have := List.any_eq_false.1 hany y hy
      simp [e] at this)
    rw [hs]
    rw [e1] at HI
    have HO := hid hown
    clear e1 hany hs hlen hown eg
    go_enter Try.func49, Try.ntmps49
    go_wp2_with (first | (go_at_call 48; refine HI.out.mono ?_; rintro e w' ⟨rfl, rfl⟩) | fail)
    go_ret
    exact ⟨rfl, HO.out, World.grownBy.refl _ _⟩
  | true =>
    obtain ⟨g, cap, cur, hv, _, hg, hnc, hcm, hcs, htk⟩ : ∃ g cap cur, Value.slice a xs.length c = .slice (some ⟨g, 0, none⟩) xs.length cap ∧ 0 ≤ g ∧ w.heap[g]? = some (.cells cur 3 (0, 0)) ∧ xs.length ≤ cap ∧ cap ≤ maxLen ∧ cur.size = cap * 1 ∧ cur.toList.take (xs.length * 1) = ints xs := by
      rcases hown.2 with ⟨hv, h0⟩ | h
      · have : xs = [] := List.eq_nil_of_length_eq_zero h0
        rw [this] at hany
        cases hany
      · exact h
    simp only [Value.slice.injEq] at hv
    obtain ⟨rfl, _, rfl⟩ := hv
    rw [Nat.mul_one] at hcs htk
    have hgB : g ≠ B := fun e => hBa (by rw [e]; rfl)
    have hat : ∀ (k : Nat) y, xs[k]? = some y → cur[k]? = some (Value.int .i64 y) := by
      intro k y hk
      have h1 : (ints xs)[k]? = some (Value.int .i64 y) := by unfold ints; rw [List.getElem?_map, hk]; rfl
      rw [← htk, List.getElem?_take] at h1
      split at h1
      · simpa using h1
      · cases h1
    obtain ⟨i0, hi0⟩ : ∃ i0, i0 = xs.findIdx (fun x => decide (x = id)) := ⟨_, rfl⟩
    have hi1 : i0 < xs.length := by rw [hi0]; exact List.findIdx_lt_length_of_exists (by simpa using List.any_eq_true.1 hany)
    have hi2 : xs[i0]? = some id := by
      have h1 := List.findIdx_getElem (p := fun x => decide (x = id)) (w := by rw [← hi0]; exact hi1)
      rw [List.getElem?_eq_getElem hi1]
      congr 1
      have h2 := of_decide_eq_true h1
      rw [← h2]
      congr 1
    have hi3 : ∀ (k : Nat) y, k < i0 → xs[k]? = some y → y ≠ id := by
      intro k y hk hy e
      rw [hi0] at hk
      have h1 := List.not_of_lt_findIdx hk
      have h2 := (List.getElem?_eq_some_iff.1 hy).2
      rw [h2, e] at h1
      simp at h1
    have e1 : idxI (fun x => decide (x = id)) xs = i0 := by unfold idxI; rw [if_pos hany, ← hi0]
    obtain ⟨hs1, hs2⟩ := Goes.start hat hi3 hi2
    rw [e1] at HI
    have HS := hid hs1
    have HL := hid hs2
    have hX := hid (fun (k : Nat) (hk : k < xs.length) => (⟨xs[k], List.getElem?_eq_getElem hk⟩ : ∃ x, xs[k]? = some x))
    have HAT := hid hat
    have htk := hid htk
    have hBlt := block_lt_of_cell hB
    have hgs := hid hg
    have hbx := hid hB
    have hne1 : ((i0 : Int) == -1) = false := beq_eq_false_iff_ne.2 (by omega)
    clear e1 hs1 hs2 hi0 hi2 hi3 hat hany hlen hown hg hBa
    go_enter Try.func49, Try.ntmps49
    go_wp2_with (first | (go_at_call 48; refine HI.out.mono ?_; rintro e w' ⟨rfl, rfl⟩) | fail)
    go_loopg [5, 6, 7] xs.length (fun gg v5 v6 _ wr => ∃ (i j : Nat) (cur' : Array Value), j ≤ xs.length ∧ i < j ∧ xs.length - j ≤ gg ∧ v5 = .int .i64 i ∧ v6 = .int .i64 j ∧ Hid (Goes cur cur' xs id j) ∧ Hid ((strike (xs.take j) id).length = i) ∧ wr.heap[g]? = some (.cells cur' 3 (0, 0)) ∧ Hid (w.grownBy wr (some g)))
    case atStart => exact ⟨i0, i0 + 1, cur, by omega, by omega, by omega, rfl, by go_num, HS, HL, hgs.out, World.grownBy.refl _ _⟩
    case round =>
      as_aux_lemma =>
        obtain ⟨i, j, cur', hj, hij, hgg, rfl, rfl, hG, hL, hgc, hgr⟩ := hrel
        have hbox : wr.cell? ⟨B, 0, none⟩ = some (.int .i64 id) := (World.cell?_of_block (a := ⟨B, 0, none⟩) (hgr.out.block B hBlt (fun e => hgB (Option.some.inj e.symm)))).trans hbx.out
        have hcs' := hG.out.size
        have hgc' := hid hgc
        by_cases hlt : j < xs.length
        · obtain ⟨x, he⟩ := hX.out j hlt
          have hjl : ((j : Int) < (xs.length : Int)) := by omega
          have kj : wr.cell? ⟨g, j, none⟩ = some (.int .i64 x) := (cell_at hgc).trans ((hG.out.high j (Nat.le_refl _)).trans (HAT.out j x he))
          have fz : ∀ o, wr.frozen? ⟨g, o, none⟩ = false := fun o => thawed hgc
          obtain ⟨u, hu⟩ : ∃ u, cur'[i]? = some u := ⟨_, Array.getElem?_eq_getElem (by omega)⟩
          have ki : wr.cell? ⟨g, i, none⟩ = some u := (cell_at hgc).trans hu
          have hcall := hid (same_c wr x id B hbox)
          have hij1 : ((i : Int) < (xs.length : Int)) := by omega
          by_cases hx : x = id
          · have hk := hid (hG.out.skip (by rw [← hx]; exact he))
            have hl2 : Hid ((strike (xs.take (j + 1)) id).length = i) := hid (by rw [strike_take he, if_pos hx]; exact hL.out)
            rw [decide_eq_true hx] at hcall
            clear hx he hgc hu hcs'
            go_wp2_with fail
            with_reducible refine hcall.out.mono ?_
            rintro e w' ⟨rfl, rfl⟩
            go_wp2_with fail
            go_roundg (xs.length - (j + 1))
            case measure => omega
            case rel => exact ⟨i, j + 1, cur', by omega, by omega, by omega, rfl, by go_num, hk, hl2, hgc'.out, hgr⟩
          · have hk := hid (hG.out.keep he hx (by omega))
            have hl2 : Hid ((strike (xs.take (j + 1)) id).length = i + 1) := hid (by rw [strike_take he, if_neg hx, List.length_append, hL.out]; rfl)
            rw [decide_eq_false hx] at hcall
            rw [hL.out] at hk
            clear hx he hgc hu hcs'
            go_wp2_with fail
            with_reducible refine hcall.out.mono ?_
            rintro e w' ⟨rfl, rfl⟩
            go_wp2_with fail
            go_roundg (xs.length - (j + 1))
            case measure => omega
            case rel => exact ⟨i + 1, j + 1, _, by omega, by omega, by omega, by go_num, by go_num, hk, hl2, heap_set hgc'.out _, hgr.out.trans (grown_set wr _ _)⟩
        · obtain rfl : j = xs.length := by omega
          have hjn : ¬ ((xs.length : Int) < (xs.length : Int)) := by omega
          obtain ⟨z, hz, hz1, hz2⟩ := int3
          have hfit : i + (xs.length - i) * z.cells.size ≤ cur'.size := by rw [hz1]; omega
          have hic : ¬ c = i := by omega
          have hii : ((i : Int) ≤ (xs.length : Int)) := by omega
          have hii2 : i ≤ c := by omega
          have hpos : 0 < xs.length - i := by omega
          have HZ := hid hz
          have HF := hid hfit
          have HZ1 := hid hz1
          clear hgc hz hfit hcs' hbox hjn hz1
          obtain ⟨w1, hw1⟩ : ∃ w1, w1 = wr.setRow g (cur'.toList.take i ++ (Builtin.zeroCells z.cells (xs.length - i)).toList ++ cur'.toList.drop (i + (xs.length - i) * z.cells.size)).toArray := ⟨_, rfl⟩
          have hclr := fun ty => run_clear_row (P := Try.prog) wr 49 3 ty z Try.underlying49 HZ.out (by rw [HZ1.out]; decide) hz2 g i (xs.length - i) (c - i) cur' 3 hpos hgc'.out HF.out
          rw [← hw1] at hclr
          have HW := hid hw1
          clear hw1
          go_wp2_with fail
          go_ret
          have hLe := hL.out
          rw [List.take_length] at hLe
          have hcz := hG.out.size
          have hzl : (Builtin.zeroCells z.cells (xs.length - i)).toList.length = xs.length - i := by rw [Array.length_toList, size_zeroCells, HZ1.out, Nat.mul_one]
          rw [hLe]
          refine ⟨rfl, ⟨by rw [ints_length, hLe, Nat.mul_one], .inr ⟨g, c, _, rfl, Nat.zero_le _, by rw [HW.out]; exact setRow_heap wr g cur' _ 3 (0, 0) hgc'.out, hii2, by unfold maxLen; omega, ?_, ?_⟩⟩, ?_⟩
          · rw [List.size_toArray]
            simp only [List.length_append, List.length_take, List.length_drop, Array.length_toList, hzl, HZ1.out]
            omega
          · rw [Nat.mul_one, List.toList_toArray, List.append_assoc, List.take_append_of_le_length (by rw [List.length_take, Array.length_toList]; omega), List.take_take, Nat.min_self]
            apply List.ext_getElem?
            intro k
            rw [List.getElem?_take]
            by_cases hk : k < i
            · rw [if_pos hk]
              have hk2 : k < (strike xs id).length := by omega
              have h1 := hG.out.low k (strike xs id)[k] (by rw [List.take_length]; exact List.getElem?_eq_getElem hk2)
              unfold ints
              rw [List.getElem?_map, List.getElem?_eq_getElem hk2]
              simpa using h1
            · rw [if_neg hk, List.getElem?_eq_none (by rw [ints_length]; omega)]
          · rw [HW.out]
            exact hgr.out.trans (grown_setRow wr g _)
end Go.Proofs.Ytehjekcfhmmggaa

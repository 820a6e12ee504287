/-
  The console's Read, Written, Counts, and the library's Delete and Clone over bytes. No conditions.
-/
import Derived.Test.YtmlmmcfalglbhaaCon
namespace Go.Proofs.Ytmlmmcfalglbhaa
open Go.RowKit

theorem bv_one (l : List UInt8) : ∀ u ∈ bv l, u.oneCell' = true := by
  intro u hu
  obtain ⟨x, _, rfl⟩ := List.mem_map.1 hu
  rfl

theorem Try.zero5 (w : World) : (zeroValue 5).run Try.prog w = .ok (.int .u8 0) w := by kernel_rfl

set_option maxHeartbeats 800000 in
set_option maxRecDepth 100000 in
theorem delete_any (w : World) (ao : Option Addr) (l cap k : Nat) (xs : List Value) (h : w.ownsRow 0 5 1 (.slice ao l cap) l xs) (h1 : ∀ u ∈ xs, u.oneCell' = true) (hk : k ≤ l) :
    Calls Try.prog 17 #[.slice ao l cap, .int .i64 0, .int .i64 k] w fun e w' => e = .returned (.slice ao (l - k) cap) ∧
      Hid (w'.ownsRow 0 5 1 (.slice ao (l - k) cap) (l - k) (xs.drop k)) ∧ Hid (w.grownBy w' (blk ao)) := by
  obtain ⟨i0, hi, hz0, hz1, hz2⟩ := info_parts Try.info5
  have hlc := (owns_len h).2.1
  have hm := (owns_len h).2.2.1
  unfold maxLen at hm
  by_cases hk0 : k = 0
  · subst hk0
    have H := hid h
    clear h h1
    go_enter Try.func17, Try.ntmps17
    go_wp2
    go_ret
    exact ⟨rfl, by unfold Hid; simpa using H.out, World.grownBy.refl _ _⟩
  · obtain ⟨hlen, hx⟩ := h
    rcases hx with ⟨hv, h0⟩ | ⟨g, cap', cur, hv, _, hg, hnc, hcm, hcs, htake⟩
    · omega
    obtain ⟨rfl, _, rfl⟩ : ao = some ⟨g, 0, none⟩ ∧ l = l ∧ cap = cap' := by simpa using hv
    clear hv
    obtain ⟨news, hnews⟩ : ∃ news, news = xs.drop k := ⟨_, rfl⟩
    obtain ⟨ad, had, hcell⟩ : ∃ ad : Addr, (if cap = k then some (⟨g, 0, none⟩ : Addr) else some ⟨g, k, none⟩) = some ad ∧ Hid (∀ j u, news[j]? = some u → w.drew.cell? (ad.add j) = some u) := by
      by_cases hc : cap = k
      · refine ⟨⟨g, 0, none⟩, by simp [hc], fun j u hu => ?_⟩
        have : news = [] := by rw [hnews]; apply List.drop_eq_nil_of_le; omega
        rw [this] at hu
        simp at hu
      · refine ⟨⟨g, k, none⟩, by simp [hc], fun j u hu => ?_⟩
        rw [Addr.add_lit]
        show w.cell? _ = _
        rw [cell_at hg]
        rw [hnews, List.getElem?_drop, ← htake, List.getElem?_take] at hu
        split at hu
        · simpa using hu
        · cases hu
    have s1 : Hid (news.length = (l - k) * 1) := by rw [hnews, List.length_drop]; unfold Hid; omega
    have s2 : Hid (∀ u ∈ news, u.oneCell' = true) := fun u hu => h1 u (by rw [hnews] at hu; exact List.mem_of_mem_drop hu)
    have hgd : Hid (w.drew.heap[g]? = some (.cells cur 5 (0, 0))) := hg
    have hfit : Hid (0 * 1 + news.length ≤ cur.size) := by rw [hnews, List.length_drop]; unfold Hid; omega
    obtain ⟨A1, hA1⟩ : ∃ A1, A1 = (cur.toList.take (0 * 1) ++ news ++ cur.toList.drop (0 * 1 + news.length)).toArray := ⟨_, rfl⟩
    have hA1s : A1.size = cap := by rw [hA1, hnews]; simp; omega
    have hG1 : Hid (∀ w1, w1 = w.drew.setRow g A1 → w1.heap[g]? = some (.cells A1 5 (0, 0)) ∧ w.grownBy w1 (some g)) := by
      intro w1 e1
      rw [e1]
      exact ⟨setRow_heap w.drew g cur _ 5 _ hg, grown_drew (grown_setRow w.drew g _)⟩
    have hG2 : Hid (∀ w1 w2 : World, w1.heap[g]? = some (.cells A1 5 (0, 0)) → w.grownBy w1 (some g) →
        w2 = w1.setRow g (A1.toList.take (l - k) ++ (Builtin.zeroCells (Value.int .u8 0).cells k).toList ++ A1.toList.drop (l - k + k * (Value.int .u8 0).cells.size)).toArray →
        w2.ownsRow 0 5 1 (.slice (some ⟨g, 0, none⟩) (l - k) cap) (l - k) (xs.drop k) ∧ w.grownBy w2 (some g)) := by
      intro w1 w2 g1 G1 e2
      have R := deleted_row cur.toList xs cap l 0 k 1 (Builtin.zeroCells (Value.int .u8 0).cells k).toList (by simpa using hcs) htake hnc (by omega) hk (by rw [Array.length_toList, size_zeroCells]; simp [Value.cells]) news (by rw [hnews, Nat.mul_one])
      simp only [Nat.sub_zero, Nat.mul_one] at R
      obtain ⟨_, R2, R3⟩ := R
      simp only [Nat.mul_one] at hA1
      have e2' : w2 = w1.setRow g (A1.toList.take (l - k) ++ (Builtin.zeroCells (Value.int .u8 0).cells k).toList ++ A1.toList.drop (l - k + k)).toArray := by rw [e2]; simp [Value.cells]
      have g2 := setRow_heap w1 g _ ((A1.toList.take (l - k) ++ (Builtin.zeroCells (Value.int .u8 0).cells k).toList ++ A1.toList.drop (l - k + k)).toArray) 5 _ g1
      rw [← e2', hA1] at g2
      refine ⟨⟨by rw [List.length_drop, Nat.mul_one]; omega, .inr ⟨g, cap, _, rfl, Nat.zero_le _, g2, by omega, hcm, by simpa using R2, by rw [List.toList_toArray, Nat.mul_one]; simpa using R3⟩⟩, ?_⟩
      have G2 : w1.grownBy w2 (some g) := by rw [e2']; exact grown_setRow _ _ _
      exact G1.trans G2
    have hcsz : cur.size = cap := by omega
    have hfit2 : Hid (l - k + k * (Value.int .u8 0).cells.size ≤ A1.size) := by unfold Hid; rw [hA1s]; simp [Value.cells]; omega
    have hA1' := hid hA1
    have hne : ¬ cap = l - k := by omega
    have e3 : l - (l - k) = k := by omega
    clear hg htake hcs hlen h1 hA1 hA1s hcsz hnews
    go_enter Try.func17, Try.ntmps17
    go_wp2
    go_region_law (refine step_append_row rfl (.tmp 22) (.tmp 25) 29 rfl 5 i0 1 Try.underlying29 hi hz1 g 0 cap cur (by simp [Act.eval, Act.put]) hgd.out ad (l - k) (cap - k) news (by simp [Act.eval, Act.put]) s1.out hcell.out s2.out (by omega) hfit.out ?_; intro w1 e1; rw [← hA1'.out] at e1; have E1 := hid (hG1.out w1 e1); clear e1)
    go_wp2_with (refine wpList_clear_row rfl (.tmp 31) 29 rfl 5 (.int .u8 0) Try.underlying29 Try.zero5 (by decide) (by simp [Value.cells, Value.oneCell']) g (l - k) k (cap - (l - k)) A1 5 (by simp [Act.eval]) (by omega) E1.out.1 hfit2.out ?_; intro w2 e2; have E2 := hid (hG2.out w1 w2 E1.out.1 E1.out.2 e2); clear e2)
    go_ret
    exact ⟨by simp, E2.out⟩

/-- How many Read takes. -/
def Con.reads (s : Con) (n : Int) : Nat := if n < 1 then 0 else min n.toNat s.waits.length
def Con.rest (s : Con) (n : Int) : Con := { s with waits := s.waits.drop (s.reads n), read := if n < 1 then s.read else wrap64 (s.read + s.reads n) }

set_option maxHeartbeats 400000 in
theorem read_no (w : World) (cb : Nat) (n : Int) (c0 : w.cell? ⟨cb, 0, none⟩ = some (.bool true)) (hn : n < 1) : Calls Try.prog 9 #[.pointer (some ⟨cb, 0, none⟩), .int .i64 n] w fun e w' => e = .returned (.slice none 0 0) ∧ w = w' := by
  have hn' : decide (n < 1) = true := by simpa using hn
  go_enter Try.func9, Try.ntmps9
  go_wp2_with (go_at_call 16; refine (none_no _ _ c0).mono ?_; rintro e w' ⟨rfl, rfl⟩)
  go_ret
  exact ⟨rfl, rfl⟩

theorem read_end (w w1 w2 w3 : World) (cb : Nat) (wa : Option Addr) (wc : Nat) (oa : Option Addr) (oc : Nat) (s : Con) (h : ConAt w cb wa wc oa oc s) (n : Int) (hn : ¬ n < 1) (k : Nat) (hk : k = s.reads n) (X : Int) (hX : X = wrap64 (s.read + s.reads n))
    (g1 : w.grownBy w1 none) (g2 : w1.grownBy w2 (some w.heap.size)) (g3 : w2.grownBy w3 (blk wa)) (b2 : w2.heap[w.heap.size]? = some (.cells (bv (s.waits.take k)).toArray 5 (0, 0)))
    (hown : w3.ownsRow 0 5 1 (.slice wa (s.waits.length - k) wc) (s.waits.length - k) ((bv s.waits).drop k)) :
    ((w3.setCell ⟨cb, 1, none⟩ (.slice wa (s.waits.length - k) wc)).setCell ⟨cb, 5, none⟩ (.int .i64 X)).ownsRow w.heap.size 5 1 (.slice (some ⟨w.heap.size, 0, none⟩) (s.reads n) (s.reads n)) (s.reads n) (bv (s.waits.take (s.reads n))) ∧
    ConAt ((w3.setCell ⟨cb, 1, none⟩ (.slice wa (s.waits.length - k) wc)).setCell ⟨cb, 5, none⟩ (.int .i64 X)) cb wa wc oa oc (s.rest n) ∧
      Fr (fun k => k = cb ∨ blk wa = some k) w ((w3.setCell ⟨cb, 1, none⟩ (.slice wa (s.waits.length - k) wc)).setCell ⟨cb, 5, none⟩ (.int .i64 X)) := by
  subst hX
  have hcb := heap_lt h.cells
  have s1 := g1.size
  have s2 := g2.size
  have hb2 := heap_lt b2
  have old : ∀ g, g < w.heap.size → blk wa ≠ some g → w3.heap[g]? = w.heap[g]? := fun g hg hne =>
    (g3.block g (by omega) (fun e => hne e.symm)).trans ((g2.block g (by omega) (fun e => by have := Option.some.inj e; omega)).trans (g1.block g hg (by simp)))
  have hc3 : w3.heap[cb]? = _ := (old cb hcb h.wne).trans h.cells
  have hwa : ∀ g, blk wa = some g → g ≠ cb := fun g hg e => h.wne (e ▸ hg)
  have hoa : ∀ g, blk oa = some g → g ≠ cb := fun g hg e => h.one (e ▸ hg)
  have hl : (s.rest n).waits.length = s.waits.length - k := by simp [Con.rest, hk]
  have hnew : w3.heap[w.heap.size]? = w2.heap[w.heap.size]? := g3.block _ hb2 (fun e => by have := owns_lt h.wrow _ e.symm; omega)
  have hncb : w.heap.size ≠ cb := by omega
  have hkl : (bv (s.waits.take (s.reads n))).length = s.reads n := by unfold bv Con.reads; rw [List.length_map, List.length_take, if_neg hn]; omega
  have hkm : s.reads n ≤ maxLen := by
    have := owns_len h.wrow
    unfold Con.reads
    rw [if_neg hn]
    omega
  refine ⟨⟨by rw [hkl, Nat.mul_one], .inr ⟨w.heap.size, _, (bv (s.waits.take (s.reads n))).toArray, rfl, Nat.le_refl _, ?_, Nat.le_refl _, hkm, by simpa using hkl, by rw [List.toList_toArray, List.take_of_length_le (by omega)]⟩⟩, ⟨?_, ?_, ?_, h.wne, h.one, h.apart⟩, ?_⟩
  · rw [heap_set_ne (by exact hncb), heap_set_ne (by exact hncb), hnew, b2, hk]
  · have := heap_set (heap_set hc3 (o := 1) (.slice wa (s.waits.length - k) wc)) (o := 5) (.int .i64 (wrap64 (s.read + s.reads n)))
    rw [this, hl]
    simp [Con.rest, hn]
  · rw [hl]
    have e : bv (s.rest n).waits = (bv s.waits).drop k := by simp [bv, Con.rest, hk]
    rw [e]
    refine owns_of_heap hown (fun g hg => ?_)
    rw [ownBlock_slice] at hg
    rw [heap_set_ne (by exact hwa g hg), heap_set_ne (by exact hwa g hg)]
  · refine owns_of_heap h.orow (fun g hg => ?_)
    rw [ownBlock_slice] at hg
    rw [heap_set_ne (by exact hoa g hg), heap_set_ne (by exact hoa g hg)]
    exact old g (owns_lt h.orow g hg) (fun e => h.apart g e hg)
  · have F : Fr (fun k => k = cb ∨ blk wa = some k) w w3 :=
      (((Fr.refl _ w).grown g1 (by simp)).grown g2 (fun k e hk => by have := Option.some.inj e; omega)).grown g3 (fun k e _ => .inr e)
    exact (F.setCell (fun _ => .inl rfl) _).setCell (fun _ => .inl rfl) _

set_option maxHeartbeats 800000 in
set_option maxRecDepth 100000 in
theorem read_yes (w : World) (cb : Nat) (wa : Option Addr) (wc : Nat) (oa : Option Addr) (oc : Nat) (s : Con) (h : ConAt w cb wa wc oa oc s) (n : Int) (hn : ¬ n < 1) (hsl : s.waits.length ≤ 4096) :
    Calls Try.prog 9 #[.pointer (some ⟨cb, 0, none⟩), .int .i64 n] w fun e w' => e = .returned (.slice (some ⟨w.heap.size, 0, none⟩) (s.reads n) (s.reads n)) ∧ w'.ownsRow w.heap.size 5 1 (.slice (some ⟨w.heap.size, 0, none⟩) (s.reads n) (s.reads n)) (s.reads n) (bv (s.waits.take (s.reads n))) ∧
      ConAt w' cb wa wc oa oc (s.rest n) ∧ Fr (fun k => k = cb ∨ blk wa = some k) w w' := by
  obtain ⟨i0, hi, hz0, hz1, hz2⟩ := info_parts Try.info5
  have c0 := cell_at (o := 0) h.cells
  have c1 := cell_at (o := 1) h.cells
  have c5 := cell_at (o := 5) h.cells
  simp at c0 c1 c5
  have f1 := thawed (o := 1) h.cells
  have f5 := thawed (o := 5) h.cells
  obtain ⟨l, el⟩ : ∃ l, l = s.waits.length := ⟨_, rfl⟩
  obtain ⟨k, ek⟩ : ∃ k, k = s.reads n := ⟨_, rfl⟩
  rw [← el] at c1 hsl
  rw [← ek]
  have hk : k = min n.toNat l := by rw [ek, el]; simp [Con.reads, hn]
  have hkl : k ≤ l := by omega
  have hn' : decide (n < 1) = false := by simpa using hn
  have hn1 : 1 ≤ n := by omega
  have hcb := heap_lt h.cells
  have hlenk : (bv (s.waits.take k)).length = k := by unfold bv; rw [List.length_map, List.length_take, ← el]; omega
  have A1 : Hid (∀ w1 : World, w1.ownsRow 0 5 1 (.slice (some ⟨w.heap.size, 0, none⟩) k k) k (madeCells (Value.int .u8 0).cells (k * 1)).toList → w.grownBy w1 none →
      (∃ cur, w1.heap[w.heap.size]? = some (.cells cur 5 (0, 0)) ∧ (bv (s.waits.take k)).length = cur.size) ∧ w1.cell? ⟨cb, 1, none⟩ = some (.slice wa l wc) ∧ (∀ ad, wa = some ad → ∀ j v, (bv (s.waits.take k))[j]? = some v → w1.cell? (ad.add j) = some v)) := by
    intro w1 hown hgr
    refine ⟨?_, (hgr.cell_far _ hcb (by simp)).trans c1, ?_⟩
    · rcases hown.2 with ⟨hv, _⟩ | ⟨g, cap, cur, hv, _, hg, _, _, hcs, _⟩
      · cases hv
      · simp only [Value.slice.injEq, Option.some.injEq, Addr.mk.injEq] at hv
        obtain ⟨⟨rfl, _⟩, _, rfl⟩ := hv
        exact ⟨cur, hg, by rw [hlenk]; omega⟩
    · intro ad had j v hv
      have hv' : (bv s.waits)[j]? = some v := by
        unfold bv at hv ⊢
        rw [List.map_take, List.getElem?_take] at hv
        split at hv
        · exact hv
        · cases hv
      have hr := h.wrow
      rw [had] at hr
      have hb := hr.lt ad.block (by rw [ownBlock_slice]; rfl)
      have hc := hr.cells (g := ad.block) (by rw [ownBlock_slice]; rfl) j v hv'
      have had' : ad = ⟨ad.block, 0, none⟩ := by
        rcases hr.2 with ⟨hv, _⟩ | ⟨g, cap, cur, hv, _⟩
        · cases hv
        · simp only [Value.slice.injEq, Option.some.injEq] at hv
          rw [hv.1]
      rw [had'] at *
      rw [Addr.add_lit] at *
      exact (hgr.cell_far _ (by exact hb.2) (by simp)).trans hc
  have A2 : Hid (∀ w1 w2 : World, ∀ cur : Array Value, (bv (s.waits.take k)).length = cur.size → w.grownBy w1 none → w2.heap[w.heap.size]? = some (.cells (bv (s.waits.take k) ++ cur.toList.drop (bv (s.waits.take k)).length).toArray 5 (0, 0)) → w1.grownBy w2 (some w.heap.size) →
      w2.heap[w.heap.size]? = some (.cells (bv (s.waits.take k)).toArray 5 (0, 0)) ∧ w2.ownsRow 0 5 1 (.slice wa l wc) l (bv s.waits) ∧ w2.heap[cb]? = w.heap[cb]? ∧ ∀ w3, w2.grownBy w3 (blk wa) → w3.heap[cb]? = w.heap[cb]?) := by
    intro w1 w2 cur hcur g1 hb2 g2
    have s1 := g1.size
    have s2 := g2.size
    have old : ∀ g, g < w.heap.size → w2.heap[g]? = w.heap[g]? := fun g hg =>
      (g2.block g (by omega) (fun e => by have := Option.some.inj e; omega)).trans (g1.block g hg (by simp))
    refine ⟨?_, ?_, old cb hcb, fun w3 g3 => (g3.block cb (by omega) (fun e => h.wne e.symm)).trans (old cb hcb)⟩
    · rw [hb2, hcur, List.drop_eq_nil_of_le (by simp), List.append_nil]
    · rw [el]
      refine owns_of_heap h.wrow (fun g hg => ?_)
      rw [ownBlock_slice] at hg
      exact old g (owns_lt h.wrow g hg)
  have hone := hid (bv_one s.waits)
  have hnil : Hid (wa = none → bv (s.waits.take k) = []) := by
    intro e
    have hr := h.wrow
    have := (owns_len hr).2.1
    have := (owns_len hr).2.2.2 e
    have : s.waits = [] := List.eq_nil_of_length_eq_zero (by omega)
    rw [this]
    simp [bv]
  have C := hid h.cells
  have hkm : Hid ((bv (s.waits.take k)).length = Nat.min l k) := by unfold Hid; rw [hlenk]; show k = min l k; omega
  have H := hid h
  have El := hid el
  have Ek := hid ek
  have Hk := hid hk
  have Hlk := hid hlenk
  have Hn := hid hn
  clear h el ek hk hlenk hn
  go_enter Try.func9, Try.ntmps9
  go_wp2_with (first
    | (go_at_call 16; refine (none_no _ _ c0).mono ?_; rintro e w' ⟨rfl, rfl⟩)
    | (at_make; refine wpList_make_full _ rfl (.tmp 19) (.tmp 19) 29 rfl 0 5 i0 (.int .u8 0) 1 Try.underlying29 hi hz0 hz1 .i64 .i64 _ _ k rfl rfl (by have := Hk.out; omega) (by have := Hk.out; omega) (by rw [hz2]; omega) (by unfold maxLen; omega) (Nat.zero_le _) ?_; intro w1 hown1 hgr1; obtain ⟨⟨cur, hcur, hcs⟩, k1, hsrc⟩ := A1.out w1 hown1 hgr1; have Hcur := hid hcur; have Hcs := hid hcs; have Hsrc := hid hsrc; have G1 := hid hgr1; clear hown1 hgr1 hcur hcs hsrc)
    | (refine wpList_copy_gen rfl (.tmp 21) (.tmp 25) 29 29 rfl 5 Try.underlying29 (by rw [hi]; simp [hz1]) w.heap.size k k wa l wc (by simp [Act.eval]) (by simp [Act.eval]) _ 5 Hcur.out (bv (s.waits.take k)) hkm.out hnil.out Hsrc.out (Nat.le_of_eq Hcs.out) (bv_one _) ?_; intro w2 hb2 hgr2; obtain ⟨b2, r2, c2, c3⟩ := A2.out w1 w2 _ Hcs.out G1.out hb2 hgr2; have k2 := (cell_at (o := 1) (c2.trans C.out)); simp at k2; rw [← El.out] at k2; rw [Hlk.out]; have B2 := hid b2; have R2 := hid r2; have C3 := hid c3; have G2 := hid hgr2; clear hb2 hgr2 b2 r2 c2 c3)
    | (go_at_call 17; refine (delete_any w2 wa l wc k _ R2.out hone.out hkl).mono ?_; rintro e w3 ⟨rfl, hown3, hgr3⟩; have c3 := (C3.out w3 hgr3.out).trans C.out; have k31 := cell_at (o := 1) c3; have k35 := cell_at (o := 5) c3; have g31 := thawed (o := 1) c3; have g35 := thawed (o := 5) c3; simp at k31 k35; clear c3))
  all_goals
    go_ret
    refine ⟨rfl, ?_⟩
    obtain rfl := El.out
    have R := read_end w w1 w2 w3 cb wa wc oa oc s H.out n (by have := Hn.out; omega) k Ek.out _ (by rw [← Ek.out]) G1.out G2.out hgr3.out B2.out hown3.out
    rw [← Ek.out] at R
    exact R

set_option maxHeartbeats 400000 in
theorem clone_any (w : World) (ao : Option Addr) (l c : Nat) (xs : List UInt8) (h : Src w ao xs) (hl : xs.length = l) (hc : l ≤ 140737488351232) (hn : ao = none → c = 0) :
    Calls Try.prog 18 #[.slice ao l c] w fun e w' => ∃ ro cap, e = .returned (.slice ro l cap) ∧ Hid (w'.ownsRow w.heap.size 5 1 (.slice ro l cap) l (bv xs)) ∧ Fr (fun _ => False) w w' := by
  obtain ⟨i0, hi, hz0, hz1, hz2⟩ := info_parts Try.info5
  cases ao with
  | none =>
    obtain rfl := h.nil rfl
    obtain rfl := hn rfl
    simp only [List.length_nil] at hl
    subst hl
    have he := fun (w : World) => Lib.run_eql_slice_nil (P := Try.prog) w 29 5 none 0 0 0 0 Try.underlying29
    go_enter Try.func18, Try.ntmps18
    go_wp2
    go_ret
    exact ⟨none, 0, rfl, World.ownsRow_nil _ _ _ _, Fr.refl _ _⟩
  | some ad =>
    have he := fun (w : World) => Lib.run_eql_slice_nil (P := Try.prog) w 29 5 (some ad) l c 0 0 Try.underlying29
    have hrow : Hid ((w.alloc (.cells #[] 5)).ownsRow w.heap.size 5 1 (.slice (some ⟨w.heap.size, 0, none⟩) 0 0) 0 []) := World.ownsRow_made w #[] 0 (Nat.le_refl _) (Nat.zero_le _) rfl
    have hsrc : Hid (∀ a, some ad = some a → ∀ j u, (bv xs)[j]? = some u → (w.alloc (.cells #[] 5)).cell? (a.add j) = some u) := by
      intro a ha j u hu
      have hc := h.cells a ha j u hu
      rw [World.cell?_of_block (Below.heap_alloc _ _ _ (block_lt_of_cell hc))]
      exact hc
    have hlen : Hid ((bv xs).length = l * 1) := by unfold Hid bv; rw [List.length_map, hl, Nat.mul_one]
    clear h hl
    go_enter Try.func18, Try.ntmps18
    go_wp2_with (at_builtin; refine wpList_append_gen rfl (.tmp 5) (.tmp 6) 29 rfl 5 i0 (.int .u8 0) 1 1 Try.underlying29 hi hz0 hz1 hz2 rfl (by decide) w.heap.size _ 0 0 [] (by simp [Act.eval]) hrow.out (some ad) l c (bv xs) (by simp [Act.eval]) hlen.out (fun e => by cases e) hsrc.out (bv_one _) (by unfold maxLen; omega) (by omega) (by simp) ?_; intro ro cap w' hown hgr hat; have Hown := hid hown; have Hgr := hid hgr; clear hown hgr hat)
    go_ret
    refine ⟨ro, cap, by simp, by unfold Hid; simpa using Hown.out, ?_⟩
    exact ((Fr.refl _ w).alloc _).grown Hgr.out (fun k e hk => by simp at e; omega)

set_option maxHeartbeats 400000 in
theorem written_any (w : World) (cb : Nat) (wa : Option Addr) (wc : Nat) (oa : Option Addr) (oc : Nat) (s : Con) (h : ConAt w cb wa wc oa oc s) (h1 : s.out.length ≤ 1048576) :
    Calls Try.prog 12 #[.pointer (some ⟨cb, 0, none⟩)] w fun e w' => ∃ ro cap, e = .returned (.slice ro s.out.length cap) ∧ Hid (w'.ownsRow w.heap.size 5 1 (.slice ro s.out.length cap) s.out.length (bv s.out)) ∧ Fr (fun _ => False) w w' := by
  have c0 := cell_at (o := 0) h.cells
  have c2 := cell_at (o := 2) h.cells
  simp at c0 c2
  have hn := (owns_len h.orow).2.2.2
  have hsrc : Hid (Src w oa s.out) := by
    refine ⟨fun e => ?_, fun ad had j u hu => ?_⟩
    · have := (owns_len h.orow).2.1
      have := hn e
      exact List.eq_nil_of_length_eq_zero (by omega)
    · have hr := h.orow
      rw [had] at hr
      have hc := hr.cells (g := ad.block) (by rw [ownBlock_slice]; rfl) j u hu
      have had' : ad = ⟨ad.block, 0, none⟩ := by
        rcases hr.2 with ⟨hv, _⟩ | ⟨g, cap, cur, hv, _⟩
        · cases hv
        · simp only [Value.slice.injEq, Option.some.injEq] at hv
          rw [hv.1]
      rw [had'] at *
      exact hc
  have Hn := hid hn
  clear h hn
  go_enter Try.func12, Try.ntmps12
  go_wp2_with (first
    | (go_at_call 16; refine (none_no _ _ c0).mono ?_; rintro e w' ⟨rfl, rfl⟩)
    | (go_at_call 18; refine (clone_any _ _ _ _ _ hsrc.out rfl (by omega) Hn.out).mono ?_; rintro e w' ⟨ro, cap, rfl, Hown, Hfr⟩; have HF := hid Hfr; clear Hfr))
  go_ret
  exact ⟨ro, cap, rfl, Hown, HF.out⟩

/-- The counts of a console. -/
def Con.counts (s : Con) : Value := .agg #[.int .i64 s.came, .int .i64 s.dropped, .int .i64 s.read, .int .i64 s.written]

set_option maxHeartbeats 400000 in
theorem counts_any (w : World) (cb : Nat) (wa : Option Addr) (wc : Nat) (oa : Option Addr) (oc : Nat) (s : Con) (h : ConAt w cb wa wc oa oc s) :
    Calls Try.prog 10 #[.pointer (some ⟨cb, 0, none⟩)] w fun e w' => e = .returned s.counts ∧ Fr (fun _ => False) w w' := by
  have c0 := cell_at (o := 0) h.cells
  have c3 := cell_at (o := 3) h.cells
  have c4 := cell_at (o := 4) h.cells
  have c5 := cell_at (o := 5) h.cells
  have c6 := cell_at (o := 6) h.cells
  simp at c0 c3 c4 c5 c6
  have hcb := heap_lt h.cells
  clear h
  go_enter Try.func10, Try.ntmps10
  go_wp2_with (first
    | (go_at_call 16; refine (none_no _ _ (by first | exact c0 | (rw [World.cell?_alloc_past _ _ _ hcb]; exact c0))).mono ?_; rintro e w' ⟨rfl, rfl⟩))
  all_goals refine bodyPost_ret (v := s.counts) (by simp [results, Try.results10, go_sem, Con.counts, *]) rfl ⟨rfl, (Fr.refl _ _).alloc _⟩
end Go.Proofs.Ytmlmmcfalglbhaa

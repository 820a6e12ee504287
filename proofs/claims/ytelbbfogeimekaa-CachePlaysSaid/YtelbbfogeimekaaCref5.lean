/-
  The reference's DropGroup. UNDER WAY.
-/
import Derived.Test.YtelbbfogeimekaaCref4
namespace Go.Proofs.Ytelbbfogeimekaa
open Go.RowKit

/-- DropGroup's loop: i items are gone through; what is kept lies in new blocks. -/
def RGrp (w : World) (L : List (Ent Int Int)) (g : Int) (gg : Nat) (vl vi : Value) (wr : World) : Prop :=
  ∃ i lo lc, i ≤ L.length ∧ gg = L.length - i ∧ vl = .slice lo (dropG (L.take i) g).length lc ∧ vi = .int .i64 i ∧ Hid (Seg wr 74 3 lo (dropG (L.take i) g).length lc (its (dropG (L.take i) g))) ∧ Hid (∀ j, blk lo = some j → w.heap.size ≤ j) ∧ Hid (Fr (fun k => w.heap.size ≤ k) w wr)

theorem dropG_take_keep {L : List (Ent Int Int)} {i : Nat} {e : Ent Int Int} (he : L[i]? = some e) (g : Int) (hg : e.g ≠ g) : dropG (L.take (i + 1)) g = dropG (L.take i) g ++ [e] := by
  rw [List.take_add_one, he]
  simp [dropG, hg]

theorem dropG_take_drop {L : List (Ent Int Int)} {i : Nat} {e : Ent Int Int} (he : L[i]? = some e) (g : Int) (hg : e.g = g) : dropG (L.take (i + 1)) g = dropG (L.take i) g := by
  rw [List.take_add_one, he]
  simp [dropG, hg]

set_option maxHeartbeats 2000000 in
set_option maxRecDepth 100000 in
theorem dropG_ref (S : Nat → Prop) (w : World) (rb room : Nat) (L : List (Ent Int Int)) (h : REF S w rb room L) (g : Int) (hS : ∀ k, w.heap.size ≤ k → S k) (hfit : L.length ≤ 4096) :
    Calls Try.prog 17 #[.pointer (some ⟨rb, 0, none⟩), .int .i64 g] w fun e w' => e = .returned (.int .i64 ((L.length - (dropG L g).length : Nat) : Int)) ∧ Hid (REF S w' rb room (dropG L g)) ∧ Hid (Fr S w w') := by
  obtain ⟨i0, hi0, hz0, hz1, hz2⟩ := info_item
  obtain ⟨so, sc, h⟩ := h
  obtain ⟨c0, c1, f⟩ := h.locs
  have hcap := h.seg.2.1
  have hmx := h.seg.2.2.1
  unfold maxLen at hmx
  have H := hid h
  have HS := hid hS
  clear h hS f
  go_enter Try.func17, Try.ntmps17
  go_wp2_with fail
  go_loopg [5, 6] L.length (fun gg vl vi wr => RGrp w L g gg vl vi wr)
  case atStart => exact ⟨0, none, 0, Nat.zero_le _, rfl, rfl, rfl, Seg.nil _ _ _, fun j e => (by cases e), Fr.refl _ _⟩
  case round =>
    as_aux_lemma =>
      obtain ⟨i, lo, lc, hi, rfl, rfl, rfl, HSeg, HB, HF⟩ := hrel
      have hA := H.out.of_heap (w' := wr) (fun k hk _ => HF.out.block k hk (Nat.not_le_of_lt hk))
      obtain ⟨d0, d1, _⟩ := hA.locs
      have hle : (dropG (L.take i) g).length ≤ L.length := Nat.le_trans (List.length_filter_le _ _) (by rw [List.length_take]; omega)
      obtain ⟨lk, hlk⟩ : ∃ lk, lk = (dropG (L.take i) g).length := ⟨_, rfl⟩
      by_cases hlt : i < L.length
      · obtain ⟨e, he⟩ : ∃ e, L[i]? = some e := ⟨L[i], List.getElem?_eq_getElem hlt⟩
        obtain ⟨b, off, hb, k1, k2, k3⟩ := hA.item he
        subst hb
        have hjl : ((i : Int) < (L.length : Int)) := by omega
        by_cases hge : e.g = g
        · have hk := hid (dropG_take_drop he g hge)
          have e1 : (e.g != g) = false := by simp [hge]
          clear he hge hA hlk
          go_wp2_with fail
          go_roundg (L.length - (i + 1))
          case measure => omega
          case rel => exact ⟨i + 1, lo, lc, by omega, rfl, by rw [hk.out], by go_num, by rw [hk.out]; exact HSeg, HB, HF⟩
        · have hk := hid (dropG_take_keep he g hge)
          have e1 : (e.g != g) = true := by simp [hge]
          have hrow : Hid (∀ wb : World, wb.heap = (wr.alloc (.cells #[.int .i64 e.g, .int .u64 e.k, .int .i64 e.v] 74)).heap → Seg wb 74 3 lo (dropG (L.take i) g).length lc (its (dropG (L.take i) g)) ∧ ∀ j u, [Value.int .i64 e.g, .int .u64 e.k, .int .i64 e.v][j]? = some u → wb.cell? ((⟨wr.heap.size, 0, none⟩ : Addr).add j) = some u) := by
            intro wb hw
            refine ⟨HSeg.out.of_heap (fun g hg => by rw [hw]; exact Below.heap_alloc _ _ _ (HSeg.out.lt g hg)), World.news_of_block (cs := #[Value.int .i64 e.g, .int .u64 e.k, .int .i64 e.v]) (t := 74) (fr := (0, 0)) (by rw [hw]; exact heap_alloc_new wr _)⟩
          clear he hge hA hlk
          go_wp2_with (first
            | (at_builtin; refine wpList_append_seg rfl (.tmp 27) (.tmp 35) 47 rfl 74 i0 (.agg #[.int .i64 0, .int .u64 0, .int .i64 0]) 3 24 Try.underlying47 hi0 hz0 hz1 hz2 rfl (by decide) lo (dropG (L.take i) g).length lc _ (by simp [Act.eval]) (hrow.out _ (by rfl)).1 _ 1 1 [.int .i64 e.g, .int .u64 e.k, .int .i64 e.v] (by simp [Act.eval]) rfl (by decide) (hrow.out _ (by rfl)).2 (by simp [Value.oneCell']) (by unfold maxLen; omega) (by omega) ?_; intro g' off' cap' w1 hown hgr hat; have O := hid hown; have G := hid hgr; have A := hid hat; clear hown hgr hat)
            | fail)
          go_roundg (L.length - (i + 1))
          case measure => omega
          case rel => exact ⟨i + 1, _, _, by omega, rfl, by rw [hk.out, List.length_append]; rfl, by go_num, by rw [hk.out, List.length_append, its_append]; exact O, hid (fun j hj => by
              cases hj
              rcases A.out with e | e
              · exact HB.out _ e
              · have := HF.out.size; rw [World.size_alloc] at e; show w.heap.size ≤ g'; omega), hid ((HF.out.alloc _).grown G.out (fun j e _ => HB.out j e))⟩
      · have hil : i = L.length := by omega
        have ht : L.take i = L := by rw [hil, List.take_length]
        have hjn : ¬ ((i : Int) < (L.length : Int)) := by omega
        rw [ht] at hle
        clear hA hil hlt hlk
        rw [ht]
        have hres : ((L.length : Int) - ((dropG L g).length : Int)) = ((L.length - (dropG L g).length : Nat) : Int) := by omega
        have hc := (HF.out.block rb (heap_lt H.out.cells) (Nat.not_le_of_lt (heap_lt H.out.cells))).trans H.out.cells
        have hnr : blk lo ≠ some rb := fun e => by have := HB.out _ e; have := heap_lt H.out.cells; omega
        rw [ht] at HSeg
        have hR := hid hres
        have hC := hid hc
        have hN := hid hnr
        clear hres hc hnr
        go_wp2_with fail
        go_ret
        exact ⟨congrArg Ending.returned (congrArg (Value.int .i64) hR.out), ⟨lo, lc, heap_set hC.out _, HSeg.out.of_heap (fun j hj => heap_set_ne (fun e => hN.out (hj.trans (congrArg some e))) _), hN.out, H.out.mine.1, fun j hj => HS.out _ (HB.out j hj)⟩, (HF.out.mono (fun k _ h => HS.out k h)).setCell (fun _ => H.out.mine.1) _⟩
end Go.Proofs.Ytelbbfogeimekaa

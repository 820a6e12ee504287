/-
  A cache's DropGroup. No conditions.
-/
import Derived.Test.YtelbbfogeimekaaCacDB
import Derived.Deep.LoopGhost
namespace Go.Proofs.Ytelbbfogeimekaa
open Go.RowKit

/-- The cache amid DropGroup: i places of the copy are gone through. -/
def GrpIB (T : Nat → Prop) (w : World) (cb room : Nat) (L : List (Ent ByteArray (Int × Int))) (g : Int) (ro : Option Addr) (cap : Nat) (gg : Nat) (vn vi : Value) (wr : World) : Prop :=
  ∃ i, i ≤ L.length ∧ gg = L.length - i ∧ vn = .int .i64 ((L.length - (groupAt L g i).length : Nat) : Int) ∧ vi = .int .i64 i ∧ Hid (CACHEB T wr cb room (groupAt L g i)) ∧ Hid (Fr T w wr) ∧
    Hid (wr.ownsRow w.heap.size 80 2 (.slice ro L.length cap) L.length (kvsS L))

theorem owns_geB {w : World} {base e size n : Nat} {a : Option Addr} {l c : Nat} {xs : List Value} (h : w.ownsRow base e size (.slice a l c) n xs) : ∀ g, blk a = some g → base ≤ g ∧ ∃ cur, w.heap[g]? = some (.cells cur e (0, 0)) := by
  intro g hg
  rcases h.2 with ⟨hv, _⟩ | ⟨g', cp, cur, hv, hb, hg', _⟩
  · simp only [Value.slice.injEq] at hv; rw [hv.1] at hg; cases hg
  · simp only [Value.slice.injEq] at hv
    rw [hv.1] at hg
    cases hg
    exact ⟨hb, cur, hg'⟩

theorem groupAt_leB (L : List (Ent ByteArray (Int × Int))) (g : Int) (i : Nat) : (groupAt L g i).length ≤ L.length := by
  unfold groupAt
  have h1 : (dropG (L.take i) g).length ≤ (L.take i).length := List.length_filter_le _ _
  have h2 := congrArg List.length (List.take_append_drop i L)
  rw [List.length_append] at h2 ⊢
  omega

theorem kept_rowB {T : Nat → Prop} {w wr w' : World} {ro : Option Addr} {l cap : Nat} {xs : List Value} (h : wr.ownsRow w.heap.size 80 2 (.slice ro l cap) l xs) (hf : Fr T wr w') (hT : ∀ k, T k → k < w.heap.size) : w'.ownsRow w.heap.size 80 2 (.slice ro l cap) l xs :=
  owns_of_heap h (fun j hj => by
    rw [ownBlock_slice] at hj
    exact hf.block j (owns_lt h j hj) (fun ht => by have := hT j ht; have := (owns_geB h j hj).1; omega))

set_option maxHeartbeats 2000000 in
set_option maxRecDepth 100000 in
theorem dropGB (S : Nat → Prop) (w : World) (cb room : Nat) (L : List (Ent ByteArray (Int × Int))) (g : Int) (hg : (Lit.int .i64 g).wf = true) (h : CACHEB S w cb room L) (hfit : L.length ≤ 4096) :
    Calls Try.prog 23 #[.pointer (some ⟨cb, 0, none⟩), .int .i64 g] w fun e w' => e = .returned (.int .i64 ((L.length - (dropG L g).length : Nat) : Int)) ∧ Hid (CACHEB S w' cb room (dropG L g)) ∧ Hid (Fr S w w') := by
  obtain ⟨T, hT⟩ : ∃ T : Nat → Prop, T = fun k => S k ∧ k < w.heap.size := ⟨_, rfl⟩
  have hTS : Hid (∀ k, T k → S k) := hid (fun k hk => by rw [hT] at hk; exact hk.1)
  have hTl : Hid (∀ k, T k → k < w.heap.size) := hid (fun k hk => by rw [hT] at hk; exact hk.2)
  have hC : Hid (CACHEB T w cb room L) := hid (h.mono (fun k hk hs => by rw [hT]; exact ⟨hs, hk⟩))
  obtain ⟨mb, so, sc, F, h⟩ := h
  obtain ⟨c0, c1, c2, f⟩ := h.locs
  have HN := noneB w cb mb c1
  have HC := hid (cloneS w so L.length sc (kvsS L) 0 h.row (kvsS_one L) hfit)
  have hwf := hid h.wf
  have hg := hid hg
  clear h f hT
  go_enter Try.func23, Try.ntmps23
  go_wp2_with (first
    | (go_at_call 34; refine HN.out.mono ?_; rintro e w' ⟨rfl, rfl⟩)
    | (go_at_call 36; refine HC.out.mono ?_; rintro e w1 ⟨ro, cap, rfl, R1, F1⟩)
    | fail)
  clear HN HC c0 c1 c2
  go_loopg [5, 16] L.length (fun gg vn vi wr => GrpIB T w cb room L g ro cap gg vn vi wr)
  case atStart => exact ⟨0, Nat.zero_le _, rfl, by rw [groupAt_zero, Nat.sub_self]; rfl, rfl, by rw [groupAt_zero]; exact hC.out.kept F1.out (fun _ _ _ h => h), F1.out.mono (fun _ _ h => h.elim), R1⟩
  case round =>
    as_aux_lemma =>
      obtain ⟨i, hi, rfl, rfl, rfl, C, FF, R⟩ := hrel
      by_cases hlt : i < L.length
      · obtain ⟨e, he⟩ : ∃ e, L[i]? = some e := ⟨L[i], List.getElem?_eq_getElem hlt⟩
        have hw := hid (hwf.out e (List.mem_of_getElem? he))
        obtain ⟨eg, ek, ev⟩ := e
        obtain ⟨b, hb, k1, k2⟩ := kvsS_cells R.out he
        subst hb
        have hbl := block_lt_of_cell k1
        have hjl : ((i : Int) < (L.length : Int)) := by omega
        simp only at k1 k2
        by_cases hge : g = eg
        · subst hge
          have hd := hid (groupAt_drop he rfl)
          have hn := hid (groupAt_length he rfl)
          have hm := hid (groupAt_leB L g i)
          have hmx := (owns_len R.out).2.2.1
          unfold maxLen at hmx
          clear he hi
          go_wp2_with (first
            | (go_at_call 35; refine (drop_yesB T _ cb room (groupAt L g i) g ek hg.out hw.out.2 hd.out.2 (C.out.kept ((Fr.refl (fun _ => False) _).alloc _) (fun _ _ _ h => h))).mono ?_; rintro e w6 ⟨rfl, C6, F6⟩; rw [← hd.out.1] at C6)
            | fail)
          all_goals go_roundg (L.length - (i + 1))
          case measure => omega
          case rel => exact ⟨i + 1, by omega, rfl, by have := hn.out; have := hm.out; go_num, by go_num, C6, (FF.out.alloc _).trans F6.out, hid (kept_rowB R.out (((Fr.refl T _).alloc _).trans F6.out) hTl.out)⟩
        · have hge2 : ¬ eg = g := fun h => hge h.symm
          have hk := hid (groupAt_keep he hge2)
          clear he hi
          go_wp2_with fail
          all_goals go_roundg (L.length - (i + 1))
          case measure => omega
          case rel => exact ⟨i + 1, by omega, rfl, by rw [hk.out], by go_num, by rw [hk.out]; exact C.out.kept ((Fr.refl (fun _ => False) _).alloc _) (fun _ _ _ h => h), FF.out.alloc _, hid (kept_rowB R.out ((Fr.refl T _).alloc _) hTl.out)⟩
      · have hil : i = L.length := by omega
        have hjl : ¬ ((i : Int) < (L.length : Int)) := by omega
        have hI := hid hil
        have hm : Hid (groupAt L g i = dropG L g) := hid (by rw [hil, groupAt_end])
        clear hil hi hlt
        go_wp2_with fail
        go_ret
        exact ⟨by rw [← hm.out]; rfl, by rw [← hm.out]; exact C.out.mono (fun k _ h => hTS.out k h), FF.out.mono (fun k _ h => hTS.out k h)⟩
end Go.Proofs.Ytelbbfogeimekaa

/-
  The reference's Add. No conditions.
-/
import Derived.Test.YtehjekcfhmmggaaRef1
import Derived.Deep.RegionLaw
namespace Go.Proofs.Ytehjekcfhmmggaa
open Go.RowKit

def RanR (per n : Nat) (c r : Nat → Int) : Prop := ∀ i, i < n → 0 ≤ r i ∧ r i ≤ 2097152 ∧ ((c i < per ∧ r i = c i) ∨ ((per : Int) ≤ c i ∧ (per : Int) ≤ r i))
def RR (S : Nat → Prop) (w : World) (rb per n : Nat) (s : CS) : Prop := ∃ l r, RAt S w rb l per n s.L s.Q r ∧ RanR per n s.ran r

section
variable {S T : Nat → Prop} {w w' : World} {rb per n : Nat} {s : CS}
theorem RR.kept (h : RR S w rb per n s) (hf : Fr T w w') (hT : ∀ k, k < w.heap.size → S k → ¬ T k) : RR S w' rb per n s := by
  obtain ⟨l, r, h, hr⟩ := h
  exact ⟨l, r, h.kept hf hT, hr⟩
theorem RR.mono (h : RR S w rb per n s) (hT : ∀ k, k < w.heap.size → S k → T k) : RR T w rb per n s := by
  obtain ⟨l, r, h, hr⟩ := h
  exact ⟨l, r, h.mono hT, hr⟩
theorem RR.lt (h : RR S w rb per n s) : rb < w.heap.size := by
  obtain ⟨l, r, h, _⟩ := h
  exact heap_lt h.obj
end

/-- What holds when one was appended to the list: w1. -/
structure RPutL (S : Nat → Prop) (w : World) (rb : Nat) (l : RLay) (per n : Nat) (L : List One) (Q : Nat → List Int) (r : Nat → Int) (x : One) (ao : Option Addr) (c : Nat) (w1 : World) : Prop where
  k0 : ∃ u, w1.cell? ⟨rb, 2, none⟩ = some u
  f0 : w1.frozen? ⟨rb, 2, none⟩ = false
  fin : RAt S (w1.setCell ⟨rb, 2, none⟩ (.slice ao (L.length + 1) c)) rb { l with la := ao, lc := c } per n (L ++ [x]) Q r
  fr : Fr S w (w1.setCell ⟨rb, 2, none⟩ (.slice ao (L.length + 1) c))

theorem rputL (S : Nat → Prop) (w : World) (rb : Nat) (l : RLay) (per n : Nat) (L : List One) (Q : Nat → List Int) (r : Nat → Int) (h : RAt S w rb l per n L Q r) (x : One) (wb w1 : World) (hw : Fr (fun _ => False) w wb)
    (hS : ∀ k, w.heap.size ≤ k → S k) (ao : Option Addr) (c : Nat) (hown : w1.ownsRow 0 83 5 (.slice ao (L.length + 1) c) (L.length + 1) (rones L ++ ronesOf x)) (hg : wb.grownBy w1 (blk l.la)) (hat : ∀ g, blk ao = some g → blk l.la = some g ∨ g = wb.heap.size) :
    RPutL S w rb l per n L Q r x ao c w1 := by
  have hb : RAt S wb rb l per n L Q r := h.kept hw (fun _ _ _ h => h)
  have hc1 : w1.heap[rb]? = some (.cells (refC n per l L.length r) 75 (0, 0)) := by
    rw [hg.block _ (heap_lt hb.obj) (fun e => ?_)]
    · exact hb.obj
    · obtain ⟨_, c2, h2⟩ := owns_blk hb.list rb e.symm
      exact other_type h2 hb.obj (by decide) rfl
  have e1 : rones L ++ ronesOf x = rones (L ++ [x]) := by rw [rones_append]; rfl
  have e2 : L.length + 1 = (L ++ [x]).length := by simp
  rw [e1, e2] at hown
  have hq := hb.setL w1 hg ao c (L ++ [x]) hown (fun g e => (hat g e).imp (fun h => h) (fun e => by rw [e]; exact Nat.le_refl _)) (fun k hk => hS k (Nat.le_trans hw.size hk))
  rw [← e2] at hq
  refine ⟨⟨_, (cell_at hc1).trans rfl⟩, thawed hc1, hq, ?_⟩
  exact ((hw.mono (fun _ _ h => h.elim)).grown hg (fun k e hk => h.mine.2.2.1 k e)).setCell (fun _ => h.mine.1) _

/-- What holds when one was put behind the others of a queue: w1. -/
structure RPutQ (S : Nat → Prop) (w : World) (rb : Nat) (l : RLay) (per n : Nat) (L : List One) (Q : Nat → List Int) (r : Nat → Int) (i : Nat) (id : Int) (ao : Option Addr) (c : Nat) (w1 : World) : Prop where
  k0 : ∃ u, w1.cell? ⟨l.qb, i, none⟩ = some u
  f0 : w1.frozen? ⟨l.qb, i, none⟩ = false
  old : ∀ k o c e f, w.heap[k]? = some (.cells c e f) → e ≠ 3 → w1.cell? ⟨k, o, none⟩ = w.cell? ⟨k, o, none⟩
  fin : RAt S (w1.setCell ⟨l.qb, i, none⟩ (.slice ao ((Q i).length + 1) c)) rb { l with qa := updN l.qa i ao, qc := updN l.qc i c } per n L (updN Q i (Q i ++ [id])) r
  fr : Fr S w (w1.setCell ⟨l.qb, i, none⟩ (.slice ao ((Q i).length + 1) c))

theorem rputQ (S : Nat → Prop) (w : World) (rb : Nat) (l : RLay) (per n : Nat) (L : List One) (Q : Nat → List Int) (r : Nat → Int) (h : RAt S w rb l per n L Q r) (i : Nat) (id : Int) (hi : i < n) (wb w1 : World) (hw : Fr (fun _ => False) w wb)
    (hS : ∀ k, w.heap.size ≤ k → S k) (ao : Option Addr) (c : Nat) (hown : w1.ownsRow 0 3 1 (.slice ao ((Q i).length + 1) c) ((Q i).length + 1) (ints (Q i) ++ [.int .i64 id])) (hg : wb.grownBy w1 (blk (l.qa i))) (hat : ∀ g, blk ao = some g → blk (l.qa i) = some g ∨ g = wb.heap.size) :
    RPutQ S w rb l per n L Q r i id ao c w1 := by
  have hb : RAt S wb rb l per n L Q r := h.kept hw (fun _ _ _ h => h)
  obtain ⟨cur, hc, hr⟩ := hb.row
  have hc1 : w1.heap[l.qb]? = some (.cells cur 49 (0, 0)) := by
    rw [hg.block _ (heap_lt hc) (fun e => ?_)]
    · exact hc
    · obtain ⟨_, c2, h2⟩ := owns_blk (hb.queue i hi) l.qb e.symm
      exact other_type h2 hc (by decide) rfl
  have e1 : ints (Q i) ++ [.int .i64 id] = ints (Q i ++ [id]) := by simp [ints]
  have e2 : (Q i).length + 1 = (Q i ++ [id]).length := by simp
  rw [e1, e2] at hown
  have hq := hb.setQ hi w1 hg ao c (Q i ++ [id]) hown (fun g e => (hat g e).imp (fun h => h) (fun e => by rw [e]; exact Nat.le_refl _)) (fun k hk => hS k (Nat.le_trans hw.size hk))
  rw [← e2] at hq
  refine ⟨⟨_, (cell_at hc1).trans (hr i hi)⟩, thawed hc1, fun k o c e f hk he => World.cell?_of_block (a := ⟨k, o, none⟩) ?_, hq, ?_⟩
  · rw [hg.block k (Nat.lt_of_lt_of_le (heap_lt hk) hw.size) (fun e2 => ?_)]
    · exact hw.block k (heap_lt hk) (fun h => h)
    · obtain ⟨_, c2, h2⟩ := owns_blk (h.queue i hi) k e2.symm
      exact other_type h2 hk (Ne.symm he) rfl
  exact ((hw.mono (fun _ _ h => h.elim)).grown hg (fun k e hk => h.mine.2.2.2 i k hi e)).setCell (fun _ => h.mine.2.1) _

theorem fr_alloc {w wb : World} {o : Obj} (h : wb.heap = (w.alloc o).heap) (h2 : wb.os = w.os ∧ wb.tape = w.tape ∧ wb.output = w.output) : Fr (fun _ => False) w wb :=
  ⟨h2.1, h2.2.1, h2.2.2, by rw [h]; simp, fun k hk _ => by rw [h]; exact Below.heap_alloc _ _ _ hk⟩

theorem info_ref1 : ∃ i, Try.prog.info? 83 = some i ∧ i.zero = some (.agg #[.int .i64 0, .int .i64 0, .int .i64 0, .int .i64 0, .int .i64 0]) ∧ i.size = 5 ∧ i.bytes = 40 := by
  have h : (Try.prog.info? 83).map (fun i => (i.zero, i.size, i.bytes)) = some (some (.agg #[.int .i64 0, .int .i64 0, .int .i64 0, .int .i64 0, .int .i64 0]), 5, 40) := by kernel_rfl
  cases hx : Try.prog.info? 83 with
  | none => rw [hx] at h; cases h
  | some i =>
    rw [hx] at h
    simp only [Option.map_some, Option.some.injEq, Prod.mk.injEq] at h
    exact ⟨i, rfl, h.1, h.2.1, h.2.2⟩

set_option maxHeartbeats 2000000 in
set_option maxRecDepth 100000 in
theorem radd_ok (S : Nat → Prop) (w : World) (rb : Nat) (l : RLay) (per n : Nat) (L : List One) (Q : Nat → List Int) (r : Nat → Int) (h : RAt S w rb l per n L Q r) (hS : ∀ k, w.heap.size ≤ k → S k) (id : Int) (wt core : Nat) (w1 : 1 ≤ wt) (w2 : wt ≤ 256) (hc : core < n) (hf : findP L id = -1) (hl : L.length < 64) (hq : (Q core).length ≤ 4096) :
    Calls Try.prog 37 #[.pointer (some ⟨rb, 0, none⟩), .int .i64 id, .int .i64 wt, .int .i64 core] w fun e w' => e = .returned (.int .i64 0) ∧ Hid (∃ l', RAt S w' rb l' per n (L ++ [⟨id, wt, 0, core, 1⟩]) (updN Q core (Q core ++ [id])) r) ∧ Hid (Fr S w w') := by
  obtain ⟨i0, hi0, hz0, hz1, hz2⟩ := info_int
  obtain ⟨j0, hj0, jz0, jz1, jz2⟩ := info_ref1
  have HH := hid (rhas_c S w rb l per n L Q r h core)
  rw [inR_of hc] at HH
  have HF := hid (rfind_c S w rb l per n L Q r h id)
  rw [hf] at HF
  obtain ⟨c0, c1, c2, c3, cf⟩ := h.c
  have cf := cf 2
  obtain ⟨f0, f1⟩ := h.fit
  unfold maxLen at f1
  have hrow : Hid (∀ wb : World, wb.heap = (w.alloc (.cells #[.int .i64 id, .int .i64 wt, .int .i64 0, .int .i64 core, .int .i64 1] 83)).heap → wb.ownsRow 0 83 5 (.slice l.la L.length l.lc) L.length (rones L) ∧ ∀ ad, some (⟨w.heap.size, 0, none⟩ : Addr) = some ad → ∀ j u, [Value.int .i64 id, .int .i64 wt, .int .i64 0, .int .i64 core, .int .i64 1][j]? = some u → wb.cell? (ad.add j) = some u) := hid (by
    intro wb hw
    refine ⟨owns_of_heap h.list (fun g hg => by rw [hw]; exact Below.heap_alloc _ _ _ (owns_lt h.list g (by rw [ownBlock_slice] at hg; exact hg))), fun ad had => ?_⟩
    cases had
    exact World.news_of_block (cs := #[Value.int .i64 id, .int .i64 wt, .int .i64 0, .int .i64 core, .int .i64 1]) (t := 83) (fr := (0, 0)) (by rw [hw]; exact heap_alloc_new w _))
  have HO := hid (fun wb w2 hw ao c => rputL S w rb l per n L Q r h ⟨id, wt, 0, core, 1⟩ wb w2 hw hS ao c)
  have HS := hid hS
  have HQ := hid hq
  have t1 : ¬ ((wt : Int) < 1) := by omega
  have t2 : ¬ ((wt : Int) > 256) := by omega
  have t3 : ¬ (((L.length : Nat) : Int) ≥ 64) := by omega
  have hc2 : ((core : Int) < (n : Int)) := by omega
  clear h hf hS hq
  go_enter Try.func37, Try.ntmps37
  go_wp2_with (first
    | (go_at_call 45; refine HH.out.mono ?_; rintro e w' ⟨rfl, rfl⟩)
    | (go_at_call 25; refine HF.out.mono ?_; rintro e w' ⟨rfl, rfl⟩)
    | (at_builtin; refine wpList_append_gen rfl (.tmp 35) (.tmp 40) 72 rfl 83 j0 (.agg #[.int .i64 0, .int .i64 0, .int .i64 0, .int .i64 0, .int .i64 0]) 5 40 Try.underlying72 hj0 jz0 jz1 jz2 rfl (by decide) 0 l.la L.length l.lc _ (by simp [Act.eval]) (hrow.out _ (by rfl)).1 (some ⟨w.heap.size, 0, none⟩) 1 1 [.int .i64 id, .int .i64 wt, .int .i64 0, .int .i64 core, .int .i64 1] (by simp [Act.eval]) rfl (fun e => by cases e) (hrow.out _ (by rfl)).2 (by simp [Value.oneCell']) (by unfold maxLen; omega) (by omega) (Nat.zero_le _) ?_; intro ao c w2 hown hgr hat; have N := HO.out _ w2 ((Fr.refl _ w).alloc _) ao c hown hgr hat; obtain ⟨u, n0⟩ := N.k0; have n1 := N.f0; have N := hid N; clear hown hgr hat)
    | fail)
  have A := hid N.out.fin
  have F := hid N.out.fr
  clear N n0 n1 c0 c1 c2 c3 cf f0 f1 hrow HO
  generalize World.setCell w2 _ _ = w3 at *
  obtain ⟨c0, c1, c2, c3, _⟩ := A.out.c
  obtain ⟨k0, kf⟩ := A.out.q hc
  dsimp only at c0 c1 c2 c3 k0 kf
  have hrow : Hid (∀ wb : World, wb.heap = (w3.alloc (.cells #[.int .i64 id] 3)).heap → wb.ownsRow 0 3 1 (.slice (l.qa core) (Q core).length (l.qc core)) (Q core).length (ints (Q core)) ∧ ∀ ad, some (⟨w3.heap.size, 0, none⟩ : Addr) = some ad → ∀ j u, [Value.int .i64 id][j]? = some u → wb.cell? (ad.add j) = some u) := hid (by
    intro wb hw
    refine ⟨owns_of_heap (A.out.queue core hc) (fun g hg => by rw [hw]; exact Below.heap_alloc _ _ _ (owns_lt (A.out.queue core hc) g (by rw [ownBlock_slice] at hg; exact hg))), fun ad had => ?_⟩
    cases had
    exact World.news_of_block (cs := #[Value.int .i64 id]) (t := 3) (fr := (0, 0)) (by rw [hw]; exact heap_alloc_new w3 _))
  have HO := hid (fun wb w2 hw ao c => rputQ S w3 rb _ per n _ Q r A.out core id hc wb w2 hw (fun k hk => HS.out k (Nat.le_trans F.out.size hk)) ao c)
  have hq := HQ.out
  have k0' : (w3.alloc (.cells #[.int .i64 id] 3)).cell? ⟨l.qb, core, none⟩ = some (.slice (l.qa core) (Q core).length (l.qc core)) := (World.cell?_of_block (a := ⟨l.qb, core, none⟩) (Below.heap_alloc _ _ _ (block_lt_of_cell k0))).trans k0
  have c3' : (w3.alloc (.cells #[.int .i64 id] 3)).cell? ⟨rb, 3, none⟩ = some (.slice (some ⟨l.qb, 0, none⟩) n n) := (World.cell?_of_block (a := ⟨rb, 3, none⟩) (Below.heap_alloc _ _ _ (block_lt_of_cell c3))).trans c3
  go_region_law (refine step_append_gen rfl (.tmp 55) (.tmp 57) 49 rfl 3 i0 (.int .i64 0) 1 8 Try.underlying49 hi0 hz0 hz1 hz2 rfl (by decide) 0 (l.qa core) (Q core).length (l.qc core) _ (by simp [Act.eval]) (hrow.out _ (by rfl)).1 (some ⟨w3.heap.size, 0, none⟩) 1 1 [.int .i64 id] (by simp [Act.eval]) rfl (fun e => by cases e) (hrow.out _ (by rfl)).2 (by simp [Value.oneCell']) (by unfold maxLen; omega) (by omega) (Nat.zero_le _) ?_; intro ao c w2 hown hgr hat; have N := HO.out _ w2 (fr_alloc (o := .cells #[.int .i64 id] 3) (by rfl) ⟨by rfl, by rfl, by rfl⟩) ao c hown hgr hat; obtain ⟨u, n0⟩ := N.k0; have n1 := N.f0; have n3 := (N.old rb 3 _ _ _ A.out.obj (by decide)).trans c3; have N := hid N; clear hown hgr hat)
  all_goals
    go_wp2_with fail
    go_ret
    exact ⟨rfl, ⟨_, N.out.fin⟩, F.out.trans N.out.fr⟩

section
variable (S : Nat → Prop) (w : World) (rb per n : Nat) (s : CS) (h : RR S w rb per n s) (ok : OKs per n s)
include h ok

set_option maxHeartbeats 2000000 in
set_option maxRecDepth 100000 in
/-- Add, whatever the arguments. -/
theorem radd_t (hS : ∀ k, w.heap.size ≤ k → S k) (id wt core : Int) :
    Calls Try.prog 37 #[.pointer (some ⟨rb, 0, none⟩), .int .i64 id, .int .i64 wt, .int .i64 core] w fun e w' => e = .returned (.int .i64 (addV n s id wt core)) ∧ Hid (RR S w' rb per n (addN n s id wt core)) ∧ Hid (Fr S w w') := by
  by_cases h1 : wt < 1
  · have e : addV n s id wt core = 2 := by unfold addV; rw [if_pos (.inl h1)]
    have e2 : addN n s id wt core = s := by unfold addN; rw [e, if_neg (by decide)]
    rw [e, e2]
    have HC := hid h
    clear h ok hS e e2
    go_enter Try.func37, Try.ntmps37
    go_wp2_with fail
    go_ret
    exact ⟨rfl, HC.out, Fr.refl S w⟩
  by_cases h2 : wt > 256
  · have e : addV n s id wt core = 2 := by unfold addV; rw [if_pos (.inr (.inl h2))]
    have e2 : addN n s id wt core = s := by unfold addN; rw [e, if_neg (by decide)]
    rw [e, e2]
    have HC := hid h
    clear h ok hS e e2
    go_enter Try.func37, Try.ntmps37
    go_wp2_with fail
    go_ret
    exact ⟨rfl, HC.out, Fr.refl S w⟩
  have HC := hid h
  obtain ⟨l, r, h, hr⟩ := h
  have HH := hid (rhas_c S w rb l per n s.L s.Q r h core)
  have HF := hid (rfind_c S w rb l per n s.L s.Q r h id)
  obtain ⟨c0, c1, c2, c3, cf⟩ := h.c
  obtain ⟨f0, f1⟩ := h.fit
  unfold maxLen at f1
  cases h3 : inR n core with
  | false =>
    have e : addV n s id wt core = 2 := by unfold addV; rw [if_pos (.inr (.inr h3))]
    have e2 : addN n s id wt core = s := by unfold addN; rw [e, if_neg (by decide)]
    rw [e, e2]
    rw [h3] at HH
    clear h ok hS e e2 h3 hr cf
    go_enter Try.func37, Try.ntmps37
    go_wp2_with (first | (go_at_call 45; refine HH.out.mono ?_; rintro e w' ⟨rfl, rfl⟩) | fail)
    go_ret
    exact ⟨rfl, HC.out, Fr.refl S w⟩
  | true =>
    have hn2 : ¬ (wt < 1 ∨ 256 < wt ∨ inR n core = false) := by rw [h3]; simp; omega
    rw [h3] at HH
    cases hf : findO s.L id with
    | some x =>
      have e : addV n s id wt core = 13 := by unfold addV; rw [if_neg hn2, hf]; rfl
      have e2 : addN n s id wt core = s := by unfold addN; rw [e, if_neg (by decide)]
      rw [e, e2]
      obtain ⟨j, hj, _⟩ := findP_some ok.apart hf
      rw [hj] at HF
      clear h ok hS e e2 h3 hr cf hf hn2 hj
      have t1 : ((j : Int) ≥ 0) := by omega
      go_enter Try.func37, Try.ntmps37
      go_wp2_with (first
        | (go_at_call 45; refine HH.out.mono ?_; rintro e w' ⟨rfl, rfl⟩)
        | (go_at_call 25; refine HF.out.mono ?_; rintro e w' ⟨rfl, rfl⟩)
        | fail)
      go_ret
      exact ⟨rfl, HC.out, Fr.refl S w⟩
    | none =>
      by_cases h4 : 64 ≤ s.L.length
      · have e : addV n s id wt core = 18 := by unfold addV; rw [if_neg hn2, hf, if_neg (by decide), if_pos h4]
        have e2 : addN n s id wt core = s := by unfold addN; rw [e, if_neg (by decide)]
        rw [e, e2]
        rw [findP_none hf] at HF
        clear h ok hS e e2 h3 hr cf hf hn2
        have t1 : (((s.L.length : Nat) : Int) ≥ 64) := by omega
        go_enter Try.func37, Try.ntmps37
        go_wp2_with (first
          | (go_at_call 45; refine HH.out.mono ?_; rintro e w' ⟨rfl, rfl⟩)
          | (go_at_call 25; refine HF.out.mono ?_; rintro e w' ⟨rfl, rfl⟩)
          | fail)
        go_ret
        exact ⟨rfl, HC.out, Fr.refl S w⟩
      · have e : addV n s id wt core = 0 := by unfold addV; rw [if_neg hn2, hf, if_neg (by decide), if_neg h4]
        have e2 : addN n s id wt core = addS s id wt.toNat core.toNat := by unfold addN; rw [e, if_pos rfl]
        obtain ⟨k, rfl, hk⟩ := inR_nat h3
        obtain ⟨u, rfl⟩ : ∃ u : Nat, wt = u := ⟨wt.toNat, by omega⟩
        have hqk := ok.qlen hk
        rw [e, e2]
        refine (radd_ok S w rb l per n s.L s.Q r h hS id u k (by omega) (by omega) hk (findP_none hf) (by omega) (by omega)).mono ?_
        rintro e w' ⟨rfl, ⟨l', A⟩, F⟩
        exact ⟨rfl, ⟨l', r, A, hr⟩, F⟩
end
end Go.Proofs.Ytehjekcfhmmggaa

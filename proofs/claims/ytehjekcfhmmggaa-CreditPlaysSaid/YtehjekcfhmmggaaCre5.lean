/-
  A scheduler's out and ready. No conditions.
-/
import Derived.Test.YtehjekcfhmmggaaCre4
import Derived.Deep.CutBlock
namespace Go.Proofs.Ytehjekcfhmmggaa
open Go.RowKit

theorem Fr.drewM {S : Nat → Prop} {a w : World} (h : Fr S a w) (m : Nat) : Fr S a (w.drewN m) := ⟨h.os, h.tape, h.output, h.size, h.block⟩

def outQ (s : CS) (x : One) : CS := { s with Q := updN s.Q x.core (strike (s.Q x.core) x.id) }
def outC (s : CS) (x : One) : CS := { s with Q := updN s.Q x.core (strike (s.Q x.core) x.id), bs := if x.state = 2 then updN s.bs x.core false else s.bs }

theorem updN_self {α : Type} (f : Nat → α) (i : Nat) : updN f i (f i) = f := by
  funext j
  unfold updN
  split
  · rename_i e; rw [e]
  · rfl

/-- What holds when the row was struck: w1. -/
structure OutF (S : Nat → Prop) (w : World) (cb : Nat) (l : Lay) (per n : Nat) (s : CS) (x : One) (w1 : World) : Prop where
  k0 : ∃ u, w1.cell? ⟨l.xb, x.core * 4, none⟩ = some u
  f0 : w1.frozen? ⟨l.xb, x.core * 4, none⟩ = false
  fin : CAt S (w1.setCell ⟨l.xb, x.core * 4, none⟩ (.slice (l.qa x.core) (strike (s.Q x.core) x.id).length (l.qc x.core))) cb l per n (outQ s x)
  fr : Fr S w (w1.setCell ⟨l.xb, x.core * 4, none⟩ (.slice (l.qa x.core) (strike (s.Q x.core) x.id).length (l.qc x.core)))

theorem outF (S : Nat → Prop) (w : World) (cb : Nat) (l : Lay) (per n : Nat) (s : CS) (h : CAt S w cb l per n s) (x : One) (hi : x.core < n) (wb w1 : World) (hw : Fr (fun _ => False) w wb)
    (hS : ∀ k, w.heap.size ≤ k → S k) (hown : w1.ownsRow 0 3 1 (.slice (l.qa x.core) (strike (s.Q x.core) x.id).length (l.qc x.core)) (strike (s.Q x.core) x.id).length (ints (strike (s.Q x.core) x.id))) (hg : wb.grownBy w1 (blk (l.qa x.core))) : OutF S w cb l per n s x w1 := by
  have hb : CAt S wb cb l per n s := h.kept hw (fun _ _ _ h => h)
  obtain ⟨cur, hc, hr⟩ := hb.row
  have hc1 : w1.heap[l.xb]? = some (.cells cur 67 (0, 0)) := by
    rw [hg.block _ (heap_lt hc) (fun e => ?_)]
    · exact hc
    · obtain ⟨_, c2, h2⟩ := owns_blk (hb.queue x.core hi) l.xb e.symm
      exact other_type h2 hc (by decide) rfl
  have hq := hb.setQ hi w1 hg (l.qa x.core) (l.qc x.core) (strike (s.Q x.core) x.id) hown (fun g e => .inl e) (fun k hk => hS k (Nat.le_trans hw.size hk))
  rw [updN_self, updN_self] at hq
  refine ⟨⟨_, (cell_at hc1).trans (hr x.core hi).1⟩, thawed hc1, hq, ?_⟩
  refine ((hw.mono (fun _ _ h => h.elim)).grown hg (fun k e hk => h.mine.2.2.2.1 x.core k hi e)).setCell (fun _ => h.mine.2.1) _

set_option maxHeartbeats 2000000 in
set_option maxRecDepth 100000 in
theorem out_c (S : Nat → Prop) (w : World) (cb : Nat) (l : Lay) (per n : Nat) (s : CS) (h : CAt S w cb l per n s) (x : One) (hx : x ∈ s.L) (hid0 : findO s.L x.id = some x) (hw : (Lit.int .i64 x.id).wf = true) (hi : x.core < n) (hS : ∀ k, w.heap.size ≤ k → S k) :
    Calls Try.prog 33 #[.pointer (some ⟨cb, 0, none⟩), .int .i64 x.id] w fun e w' => e = .returned (.tuple #[]) ∧ Hid (CAt S w' cb l per n (outC s x)) ∧ Hid (Fr S w w') := by
  have hF : ∀ m, Fr (fun _ => False) w ((w.alloc (.cells #[.int .i64 x.id] 3)).drewN m) := fun m => ((Fr.refl _ w).alloc _).drewM m
  have hA : ∀ m, CAt S ((w.alloc (.cells #[.int .i64 x.id] 3)).drewN m) cb l per n s := fun m => h.kept (hF m) (fun _ _ _ h => h)
  have hB : ∀ m, ((w.alloc (.cells #[.int .i64 x.id] 3)).drewN m).cell? ⟨w.heap.size, 0, none⟩ = some (.int .i64 x.id) := fun m => (cell_at (heap_alloc_new w _)).trans rfl
  have hne : blk (l.qa x.core) ≠ some w.heap.size := fun e => by have := owns_lt (h.queue x.core hi) _ e; omega
  have HD := hid (fun m => deleteFunc _ (l.qa x.core) (l.qc x.core) (s.Q x.core) ((hA m).queue x.core hi) x.id w.heap.size (hB m) hne)
  have HO := hid (fun m w1 => outF S w cb l per n s h x hi ((w.alloc (.cells #[.int .i64 x.id] 3)).drewN m) w1 (hF m) hS)
  have hl : ∀ m, (Instr.lookup 36 (.map (some l.mb)) (.int .i64 x.id) false).run Try.prog ((w.alloc (.cells #[.int .i64 x.id] 3)).drewN m) = .ok (.pointer (some ⟨l.pb x.id, 0, none⟩)) ((w.alloc (.cells #[.int .i64 x.id] 3)).drewN m) := fun m => ((hA m).found hw hid0).2
  obtain ⟨c0, c1, c2, c3, _⟩ := h.c
  obtain ⟨k0, k1, k2, k3, _⟩ := h.k hi
  obtain ⟨x0, x1, x2, x3, _⟩ := h.x hx
  have hcb := block_lt_of_cell c0
  have hxb := block_lt_of_cell k0
  have hpb := block_lt_of_cell x0
  have hi2 : ((x.core : Int) < (n : Int)) := by omega
  have hx := hid hx
  clear h hF hA hB hne hid0 hw hS
  go_enter Try.func33, Try.ntmps33
  go_wp2_with fail
  go_quiet (fail)
  go_wp2_with fail
  go_quiet (fail)
  go_upto_region 4 with (first
    | (go_at_call 49; refine (HD.out _).mono ?_; rintro e w1 ⟨rfl, o1, g1⟩; have N := HO.out _ w1 o1.out g1.out; obtain ⟨u, n0⟩ := N.k0; have n1 := N.f0; have A := hid N.fin; have F := hid N.fr; clear N o1 g1)
    | fail)
  generalize World.setCell w1 _ _ = w3 at *
  obtain ⟨y0, y1, y2, y3, _⟩ := A.out.x (x := x) hx.out
  obtain ⟨z0, z1, z2, z3, zf⟩ := A.out.k hi
  have zf := zf (x.core * 4 + 2)
  have hmine := hid A.out.mine.2.1
  clear HD HO hl
  by_cases hst : x.state = 2
  · have hs : (x.state == 2) = true := by simpa using hst
    have hend : Hid (CAt S (w3.setCell ⟨l.xb, x.core * 4 + 2, none⟩ (.bool false)) cb l per n (outC s x)) := hid (by
      have := A.out.setBs hi false
      unfold outC
      rw [if_pos hst]
      exact this)
    clear hst
    go_wp2_with fail
    exact ⟨rfl, .tuple #[], by kernel_rfl, rfl, hend.out, F.out.setCell (fun _ => hmine.out) _⟩
  · have hs : (x.state == 2) = false := by simpa using hst
    have hend : Hid (CAt S w3 cb l per n (outC s x)) := hid (by
      unfold outC
      rw [if_neg hst]
      exact A.out)
    clear hst
    go_wp2_with fail
    exact ⟨rfl, .tuple #[], by kernel_rfl, rfl, hend.out, F.out⟩

def readyC (s : CS) (x : One) : CS := { s with L := setO s.L x.id (fun y => { y with state := 1 }), Q := updN s.Q x.core (s.Q x.core ++ [x.id]) }

/-- What holds when one was put behind the others of a queue: w1. -/
structure PutF (S : Nat → Prop) (w : World) (cb : Nat) (l : Lay) (per n : Nat) (s : CS) (i : Nat) (id : Int) (ao : Option Addr) (c : Nat) (w1 : World) : Prop where
  k0 : ∃ u, w1.cell? ⟨l.xb, i * 4, none⟩ = some u
  f0 : w1.frozen? ⟨l.xb, i * 4, none⟩ = false
  fin : ∃ l', CAt S (w1.setCell ⟨l.xb, i * 4, none⟩ (.slice ao ((s.Q i).length + 1) c)) cb l' per n { s with Q := updN s.Q i (s.Q i ++ [id]) }
  fr : Fr S w (w1.setCell ⟨l.xb, i * 4, none⟩ (.slice ao ((s.Q i).length + 1) c))

theorem putF (S : Nat → Prop) (w : World) (cb : Nat) (l : Lay) (per n : Nat) (s : CS) (h : CAt S w cb l per n s) (i : Nat) (id : Int) (hi : i < n) (wb w1 : World) (hw : Fr (fun _ => False) w wb)
    (hS : ∀ k, w.heap.size ≤ k → S k) (ao : Option Addr) (c : Nat) (hown : w1.ownsRow 0 3 1 (.slice ao ((s.Q i).length + 1) c) ((s.Q i).length + 1) (ints (s.Q i) ++ [.int .i64 id])) (hg : wb.grownBy w1 (blk (l.qa i))) (hat : ∀ g, blk ao = some g → blk (l.qa i) = some g ∨ g = wb.heap.size) :
    PutF S w cb l per n s i id ao c w1 := by
  have hb : CAt S wb cb l per n s := h.kept hw (fun _ _ _ h => h)
  obtain ⟨cur, hc, hr⟩ := hb.row
  have hc1 : w1.heap[l.xb]? = some (.cells cur 67 (0, 0)) := by
    rw [hg.block _ (heap_lt hc) (fun e => ?_)]
    · exact hc
    · obtain ⟨_, c2, h2⟩ := owns_blk (hb.queue i hi) l.xb e.symm
      exact other_type h2 hc (by decide) rfl
  have e1 : ints (s.Q i) ++ [.int .i64 id] = ints (s.Q i ++ [id]) := by simp [ints]
  have e2 : (s.Q i).length + 1 = (s.Q i ++ [id]).length := by simp
  rw [e1, e2] at hown
  have hq := hb.setQ hi w1 hg ao c (s.Q i ++ [id]) hown (fun g e => (hat g e).imp (fun h => h) (fun e => by rw [e]; exact Nat.le_refl _)) (fun k hk => hS k (Nat.le_trans hw.size hk))
  rw [← e2] at hq
  refine ⟨⟨_, (cell_at hc1).trans (hr i hi).1⟩, thawed hc1, ⟨_, hq⟩, ?_⟩
  refine ((hw.mono (fun _ _ h => h.elim)).grown hg (fun k e hk => h.mine.2.2.2.1 i k hi e)).setCell (fun _ => h.mine.2.1) _

theorem info_int : ∃ i, Try.prog.info? 3 = some i ∧ i.zero = some (.int .i64 0) ∧ i.size = 1 ∧ i.bytes = 8 := by
  have h : (Try.prog.info? 3).map (fun i => (i.zero, i.size, i.bytes)) = some (some (.int .i64 0), 1, 8) := by kernel_rfl
  cases hx : Try.prog.info? 3 with
  | none => rw [hx] at h; cases h
  | some i =>
    rw [hx] at h
    simp only [Option.map_some, Option.some.injEq, Prod.mk.injEq] at h
    exact ⟨i, rfl, h.1, h.2.1, h.2.2⟩

set_option maxHeartbeats 2000000 in
set_option maxRecDepth 100000 in
theorem ready_c (S : Nat → Prop) (w : World) (cb : Nat) (l : Lay) (per n : Nat) (s : CS) (h : CAt S w cb l per n s) (ha : ApartO s.L) (x : One) (hx : x ∈ s.L) (hw : (Lit.int .i64 x.id).wf = true) (hi : x.core < n) (hq : (s.Q x.core).length ≤ 4096) (hS : ∀ k, w.heap.size ≤ k → S k) :
    Calls Try.prog 28 #[.pointer (some ⟨cb, 0, none⟩), .int .i64 x.id] w fun e w' => e = .returned (.tuple #[]) ∧ Hid (∃ l', CAt S w' cb l' per n (readyC s x)) ∧ Hid (Fr S w w') := by
  obtain ⟨i0, hi0, hz0, hz1, hz2⟩ := info_int
  have hl := (h.found hw (ha.find hx)).2
  obtain ⟨c0, c1, c2, c3, _⟩ := h.c
  obtain ⟨x0, x1, x2, x3, xf⟩ := h.x hx
  have xf := xf 0
  have A := hid (h.setOne hx ha 0 (.int .i64 1) (fun y => { y with state := 1 }) (fun _ => rfl) rfl)
  have F : Hid (Fr S w (w.setCell ⟨l.pb x.id, 0, none⟩ (.int .i64 1))) := hid ((Fr.refl S w).setCell (fun _ => h.mine.2.2.2.2 x hx) _)
  have hx1 : Hid ({ x with state := 1 } ∈ setO s.L x.id (fun y => { y with state := 1 })) := hid (mem_setO.2 ⟨x, hx, by rw [if_pos rfl]⟩)
  have HS := hid hS
  have hi2 : ((x.core : Int) < (n : Int)) := by omega
  clear h ha hx hw hS
  go_enter Try.func28, Try.ntmps28
  go_upto_region 2 with fail
  generalize World.setCell w _ _ = w1 at *
  clear c0 c1 c2 c3 x0 x1 x2 x3 xf hl
  obtain ⟨c0, c1, c2, c3, _⟩ := A.out.c
  obtain ⟨k0, k1, k2, k3, kf⟩ := A.out.k hi
  obtain ⟨x0, x1, x2, x3, _⟩ := A.out.x hx1.out
  dsimp only at c0 c1 c2 c3 k0 k1 k2 k3 x0 x1 x2 x3
  have hrow : Hid (∀ wb : World, wb.heap = (w1.alloc (.cells #[.int .i64 x.id] 3)).heap → wb.ownsRow 0 3 1 (.slice (l.qa x.core) (s.Q x.core).length (l.qc x.core)) (s.Q x.core).length (ints (s.Q x.core)) ∧ ∀ ad, some (⟨w1.heap.size, 0, none⟩ : Addr) = some ad → ∀ j u, [Value.int .i64 x.id][j]? = some u → wb.cell? (ad.add j) = some u) := hid (by
    intro wb hw
    refine ⟨owns_of_heap (A.out.queue x.core hi) (fun g hg => by rw [hw]; exact Below.heap_alloc _ _ _ (owns_lt (A.out.queue x.core hi) g (by rw [ownBlock_slice] at hg; exact hg))), fun ad had => ?_⟩
    cases had
    exact World.news_of_block (cs := #[Value.int .i64 x.id]) (t := 3) (fr := (0, 0)) (by rw [hw]; exact heap_alloc_new w1 _))
  have HO := hid (fun wb w2 hw ao c => putF S w1 cb l per n _ A.out x.core x.id hi wb w2 hw (fun k hk => HS.out k (Nat.le_trans F.out.size hk)) ao c)
  go_quiet (fail)
  go_wp2_with (first
    | (at_builtin; refine wpList_append_gen rfl (.tmp 28) (.tmp 30) 49 rfl 3 i0 (.int .i64 0) 1 8 Try.underlying49 hi0 hz0 hz1 hz2 rfl (by decide) 0 (l.qa x.core) (s.Q x.core).length (l.qc x.core) _ (by simp [Act.eval]) (hrow.out _ (by rfl)).1 (some ⟨w1.heap.size, 0, none⟩) 1 1 [.int .i64 x.id] (by simp [Act.eval]) rfl (fun e => by cases e) (hrow.out _ (by rfl)).2 (by simp [Value.oneCell']) (by unfold maxLen; omega) (by omega) (Nat.zero_le _) ?_; intro ao c w2 hown hgr hat; have N := HO.out _ w2 (((Fr.refl _ w1).drewM nq).alloc _) ao c hown hgr hat; obtain ⟨u, n0⟩ := N.k0; have n1 := N.f0; have N := hid N; clear hown hgr hat)
    | fail)
  exact ⟨rfl, .tuple #[], by kernel_rfl, rfl, N.out.fin, F.out.trans N.out.fr⟩
end Go.Proofs.Ytehjekcfhmmggaa

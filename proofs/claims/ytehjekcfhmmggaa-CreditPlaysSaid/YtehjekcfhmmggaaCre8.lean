/-
  A scheduler's New and Add. No conditions.
-/
import Derived.Test.YtehjekcfhmmggaaCre7
namespace Go.Proofs.Ytehjekcfhmmggaa
open Go.RowKit

/-- A scheduler somewhere in memory. -/
def CR (S : Nat → Prop) (w : World) (cb per n : Nat) (s : CS) : Prop := ∃ l, CAt S w cb l per n s

theorem CR.kept {S T : Nat → Prop} {w w' : World} {cb per n : Nat} {s : CS} (h : CR S w cb per n s) (hf : Fr T w w') (hT : ∀ k, k < w.heap.size → S k → ¬ T k) : CR S w' cb per n s := by
  obtain ⟨l, h⟩ := h
  exact ⟨l, h.kept hf hT⟩
theorem CR.mono {S T : Nat → Prop} {w : World} {cb per n : Nat} {s : CS} (h : CR S w cb per n s) (hT : ∀ k, k < w.heap.size → S k → T k) : CR T w cb per n s := by
  obtain ⟨l, h⟩ := h
  exact ⟨l, h.mono hT⟩
theorem CR.lt {S : Nat → Prop} {w : World} {cb per n : Nat} {s : CS} (h : CR S w cb per n s) : cb < w.heap.size := by
  obtain ⟨l, h⟩ := h
  exact heap_lt h.obj
theorem CR.own {S : Nat → Prop} {w : World} {cb per n : Nat} {s : CS} (h : CR S w cb per n s) : S cb := by
  obtain ⟨l, h⟩ := h
  exact h.mine.1

def newL (l : Lay) (b : Nat) (id : Int) : Lay := { l with pb := fun i => if i = id then b else l.pb i }

/-- What holds when one was laid into the map: w2. -/
structure AddF (S : Nat → Prop) (w : World) (cb : Nat) (l : Lay) (per n : Nat) (s : CS) (id : Int) (wt core : Nat) (w2 : World) : Prop where
  run : (Instr.mapUpdate 36 (.map (some l.mb)) (.int .i64 id) (.pointer (some ⟨w.heap.size, 0, none⟩))).run Try.prog (w.alloc (.cells #[.int .i64 0, .int .i64 core, .int .i64 wt, .int .i64 0] 29)) = .ok () w2
  c3 : w2.cell? ⟨cb, 3, none⟩ = some (.int .i64 s.sum)
  f3 : w2.frozen? ⟨cb, 3, none⟩ = false
  fin : CAt S (w2.setCell ⟨cb, 3, none⟩ (.int .i64 ((s.sum + wt : Nat) : Int))) cb (newL l w.heap.size id) per n { s with L := s.L ++ [⟨id, wt, 0, core, 0⟩], sum := s.sum + wt }
  fr : Fr S w (w2.setCell ⟨cb, 3, none⟩ (.int .i64 ((s.sum + wt : Nat) : Int)))

theorem addF (S : Nat → Prop) (w : World) (cb : Nat) (l : Lay) (per n : Nat) (s : CS) (h : CAt S w cb l per n s) (id : Int) (wt core : Nat) (hw : (Lit.int .i64 id).wf = true) (hf : findO s.L id = none) (hl : s.L.length < 64) (hS : ∀ k, w.heap.size ≤ k → S k) : ∃ w2, AddF S w cb l per n s id wt core w2 := by
  have F0 : Fr (fun _ => False) w (w.alloc (.cells #[.int .i64 0, .int .i64 core, .int .i64 wt, .int .i64 0] 29)) := (Fr.refl _ w).alloc _
  have h1 : CAt S (w.alloc (.cells #[.int .i64 0, .int .i64 core, .int .i64 wt, .int .i64 0] 29)) cb l per n s := h.kept F0 (fun _ _ _ h => h)
  obtain ⟨w2, hrun, hmap, hg⟩ := h1.map.store law3 Try.underlying36 zero62 (by unfold maxLen; omega) (key3 hw) (.pointer (some ⟨w.heap.size, 0, none⟩))
  have hnone : lookF s.L l.pb (.int .i64 id) = none := by rw [lookF_id, hf]; rfl
  rw [hnone] at hmap
  simp only [Option.isSome_none, Bool.false_eq_true, ↓reduceIte] at hmap
  obtain ⟨es, m, hm⟩ := h1.map.obj
  obtain ⟨cur, hcr, hr⟩ := h1.row
  have old : ∀ {k : Nat} {c : Array Value} {e : TypeId} {f : Nat × Nat}, (w.alloc (.cells #[.int .i64 0, .int .i64 core, .int .i64 wt, .int .i64 0] 29)).heap[k]? = some (.cells c e f) → w2.heap[k]? = some (.cells c e f) := by
    intro k c e f hk
    rw [hg.block k (heap_lt hk) (fun e2 => other_map hk hm (Option.some.inj e2))]
    exact hk
  have ho := old h1.obj
  have hnew := old (heap_alloc_new w (.cells #[.int .i64 0, .int .i64 core, .int .i64 wt, .int .i64 0] 29))
  have hno := findO_none hf
  have hpb : ∀ x ∈ s.L, (newL l w.heap.size id).pb x.id = l.pb x.id := fun x hx => by simp [newL, hno x hx]
  have hset : ∀ {k : Nat}, k ≠ cb → (w2.setCell ⟨cb, 3, none⟩ (.int .i64 ((s.sum + wt : Nat) : Int))).heap[k]? = w2.heap[k]? := fun hk => heap_set_ne hk _
  have hblt : ∀ x ∈ s.L, l.pb x.id < w.heap.size := fun x hx => heap_lt (h.look x hx)
  refine ⟨w2, hrun, (cell_at ho).trans rfl, thawed ho, ?_, ?_⟩
  · refine ⟨heap_set ho _, ⟨cur, (hset (Ne.symm h1.ne_cx)).trans (old hcr), hr⟩, ?_, ?_, ?_, ?_, h.qinj, h.mine.1, h.mine.2.1, h.mine.2.2.1, h.mine.2.2.2.1, ?_⟩
    · show MAPF _ _ _ _ (lookF (s.L ++ [⟨id, wt, 0, core, 0⟩]) _) (s.L ++ [_]).length
      rw [lookF_snoc hf, lookF_pb hpb, List.length_append, List.length_singleton]
      simp only [newL, if_true]
      exact hmap.of_heap (hset (Ne.symm h1.ne_cm))
    · intro x hx
      rcases List.mem_append.1 hx with hx | hx
      · rw [hpb x hx, hset (Ne.symm (other_type h1.obj (h1.look x hx) (by decide)))]
        exact old (h1.look x hx)
      · obtain rfl := List.mem_singleton.1 hx
        simp only [newL, if_true]
        rw [hset (fun e => by have := heap_lt h.obj; omega)]
        exact hnew
    · intro i hi
      refine owns_of_heap (h1.queue i hi) (fun g hg' => ?_)
      rw [ownBlock_slice] at hg'
      obtain ⟨_, c2, h2⟩ := owns_blk (h1.queue i hi) g hg'
      rw [hset (other_type h2 h1.obj (by decide)), old h2, h2]
    · intro x hx y hy e
      rcases List.mem_append.1 hx with hx | hx
      · rcases List.mem_append.1 hy with hy | hy
        · rw [hpb x hx, hpb y hy] at e
          exact h.pinj x hx y hy e
        · obtain rfl := List.mem_singleton.1 hy
          rw [hpb x hx] at e
          simp only [newL, if_true] at e
          have := hblt x hx
          omega
      · obtain rfl := List.mem_singleton.1 hx
        rcases List.mem_append.1 hy with hy | hy
        · rw [hpb y hy] at e
          simp only [newL, if_true] at e
          have := hblt y hy
          omega
        · obtain rfl := List.mem_singleton.1 hy
          rfl
    · intro x hx
      rcases List.mem_append.1 hx with hx | hx
      · rw [hpb x hx]; exact h.mine.2.2.2.2 x hx
      · obtain rfl := List.mem_singleton.1 hx
        simp only [newL, if_true]
        exact hS _ (Nat.le_refl _)
  · exact ((F0.mono (fun _ _ h => h.elim)).grown hg (fun k e _ => by cases e; exact h.mine.2.2.1)).setCell (fun _ => h.mine.1) _

set_option maxHeartbeats 2000000 in
set_option maxRecDepth 100000 in
theorem add_ok (S : Nat → Prop) (w : World) (cb per n : Nat) (s : CS) (h : CR S w cb per n s) (ok : OKs per n s) (hS : ∀ k, w.heap.size ≤ k → S k) (id : Int) (hw : (Lit.int .i64 id).wf = true) (wt core : Nat) (w1 : 1 ≤ wt) (w2 : wt ≤ 256) (hc : core < n) (hf : findO s.L id = none) (hl : s.L.length < 64) :
    Calls Try.prog 9 #[.pointer (some ⟨cb, 0, none⟩), .int .i64 id, .int .i64 wt, .int .i64 core] w fun e w' => e = .returned (.int .i64 0) ∧ Hid (CR S w' cb per n (addS s id wt core)) ∧ Hid (Fr S w w') := by
  obtain ⟨l, h⟩ := h
  obtain ⟨c0, c1, c2, c3, _⟩ := h.c
  have hn := ok.n8
  have HN := hid (none_no w cb l.mb c2)
  have HH := hid (has_c S w cb l per n s h core hn)
  rw [inR_of hc] at HH
  have hlook := (h.lost hw hf).2
  have hlen := hid (fun ty => h.map.len Try.underlying36 ty)
  have hcb := block_lt_of_cell c0
  have hsum : s.sum ≤ 64 * 256 := by
    rw [ok.sum]
    have := sumW_max (fun x hx => (ok.one x hx).2.2.1)
    omega
  obtain ⟨w4, hA⟩ := addF S w cb l per n s h id wt core hw hf hl hS
  have hrun := hA.run
  have d3 := hA.c3
  have df := hA.f3
  have hlt : (((s.L.length : Nat) : Int) < 64) := by omega
  have hfin := hA.fin
  have hfr := hid hA.fr
  have hap : ApartO (s.L ++ [⟨id, wt, 0, core, 0⟩]) := List.pairwise_append.2 ⟨ok.apart, List.pairwise_singleton _ _, fun a ha b hb => by
    obtain rfl := List.mem_singleton.1 hb
    exact findO_none hf a ha⟩
  have hql := ok.qlen hc
  have hR := hid (ready_c S _ cb _ per n _ hfin hap ⟨id, wt, 0, core, 0⟩ (List.mem_append_right _ (List.mem_singleton.2 rfl)) hw hc (by show (s.Q core).length ≤ 4096; omega) (fun k hk => hS k (Nat.le_trans hfr.out.size hk)))
  have he : Hid (readyC { s with L := s.L ++ [⟨id, wt, 0, core, 0⟩], sum := s.sum + wt } ⟨id, wt, 0, core, 0⟩ = addS s id wt core) := hid (by
    have e1 : ∀ L : List One, findO L id = none → setO (L ++ [⟨id, wt, 0, core, 0⟩]) id (fun y => { y with state := 1 }) = L ++ [⟨id, wt, 0, core, 1⟩] := by
      intro L hL
      have := findO_none hL
      unfold setO
      rw [List.map_append]
      congr 1
      · rw [List.map_congr_left (g := _root_.id) (fun x hx => by rw [if_neg (this x hx)]; rfl)]
        simp
      · simp
    unfold readyC addS
    dsimp only
    rw [e1 s.L hf])
  clear h ok hA hfin hap hql hf hw hS
  have w1' : ¬ ((wt : Int) < 1) := by omega
  have w2' : ¬ ((wt : Int) > 256) := by omega
  go_enter Try.func9, Try.ntmps9
  go_wp2_with (first
    | (go_at_call 26; refine HN.out.mono ?_; rintro e w' ⟨rfl, rfl⟩)
    | (go_at_call 27; refine HH.out.mono ?_; rintro e w' ⟨rfl, rfl⟩)
    | (at_len; refine wpList_len_F rfl (.tmp 37) 36 rfl l.mb s.L.length (by simp [Act.eval]) hlen.out ?_)
    | (go_at_call 28; refine hR.out.mono ?_; rintro e w5 ⟨rfl, C5, F5⟩)
    | fail)
  go_ret
  rw [he.out] at C5
  exact ⟨rfl, C5, hfr.out.trans F5.out⟩

def addV (n : Nat) (s : CS) (id wt core : Int) : Int := if wt < 1 ∨ 256 < wt ∨ inR n core = false then 2 else if (findO s.L id).isSome = true then 13 else if 64 ≤ s.L.length then 18 else 0
def addN (n : Nat) (s : CS) (id wt core : Int) : CS := if addV n s id wt core = 0 then addS s id wt.toNat core.toNat else s

theorem addN_ok {per n : Nat} {s : CS} (ok : OKs per n s) {id wt core : Int} (hw : (Lit.int .i64 id).wf = true) : OKs per n (addN n s id wt core) := by
  unfold addN
  split
  · rename_i h
    unfold addV at h
    split at h
    · exact absurd h (by show (2 : Int) ≠ 0; decide)
    · rename_i h1
      split at h
      · exact absurd h (by show (13 : Int) ≠ 0; decide)
      · rename_i h2
        split at h
        · exact absurd h (by show (18 : Int) ≠ 0; decide)
        · rename_i h3
          have h4 : inR n core = true := by cases hb : inR n core with | true => rfl | false => exact absurd (.inr (.inr hb)) h1
          obtain ⟨k, rfl, hk⟩ := inR_nat h4
          refine ok.add hw (by omega) (by omega) (by simpa using hk) ?_ (by omega)
          cases hf : findO s.L id with
          | none => rfl
          | some x => rw [hf] at h2; exact absurd rfl h2
  · exact ok

set_option maxHeartbeats 2000000 in
set_option maxRecDepth 100000 in
/-- Add, whatever the arguments. -/
theorem add_t (S : Nat → Prop) (w : World) (cb per n : Nat) (s : CS) (h : CR S w cb per n s) (ok : OKs per n s) (hS : ∀ k, w.heap.size ≤ k → S k) (id : Int) (hw : (Lit.int .i64 id).wf = true) (wt core : Int) :
    Calls Try.prog 9 #[.pointer (some ⟨cb, 0, none⟩), .int .i64 id, .int .i64 wt, .int .i64 core] w fun e w' => e = .returned (.int .i64 (addV n s id wt core)) ∧ Hid (CR S w' cb per n (addN n s id wt core)) ∧ Hid (Fr S w w') := by
  have hS0 := hS
  by_cases h1 : wt < 1
  · have e : addV n s id wt core = 2 := by unfold addV; rw [if_pos (.inl h1)]
    have e2 : addN n s id wt core = s := by unfold addN; rw [e, if_neg (by decide)]
    rw [e, e2]
    have HC := hid h
    obtain ⟨l, h⟩ := h
    obtain ⟨c0, c1, c2, c3, _⟩ := h.c
    have HN := hid (none_no w cb l.mb c2)
    clear h ok hS hS0 e e2 hw
    go_enter Try.func9, Try.ntmps9
    go_wp2_with (first
      | (go_at_call 26; refine HN.out.mono ?_; rintro e w' ⟨rfl, rfl⟩)
      | fail)
    go_ret
    exact ⟨rfl, HC.out, Fr.refl S w⟩
  by_cases h2 : wt > 256
  · have e : addV n s id wt core = 2 := by unfold addV; rw [if_pos (.inr (.inl h2))]
    have e2 : addN n s id wt core = s := by unfold addN; rw [e, if_neg (by decide)]
    rw [e, e2]
    have HC := hid h
    obtain ⟨l, h⟩ := h
    obtain ⟨c0, c1, c2, c3, _⟩ := h.c
    have HN := hid (none_no w cb l.mb c2)
    clear h ok hS hS0 e e2 hw
    go_enter Try.func9, Try.ntmps9
    go_wp2_with (first
      | (go_at_call 26; refine HN.out.mono ?_; rintro e w' ⟨rfl, rfl⟩)
      | fail)
    go_ret
    exact ⟨rfl, HC.out, Fr.refl S w⟩
  cases h3 : inR n core with
  | false =>
    have e : addV n s id wt core = 2 := by unfold addV; rw [if_pos (.inr (.inr h3))]
    have e2 : addN n s id wt core = s := by unfold addN; rw [e, if_neg (by decide)]
    rw [e, e2]
    have HC := hid h
    obtain ⟨l, h⟩ := h
    obtain ⟨c0, c1, c2, c3, _⟩ := h.c
    have HN := hid (none_no w cb l.mb c2)
    have HH := hid (has_c S w cb l per n s h core ok.n8)
    rw [h3] at HH
    clear h ok hS hS0 e e2 hw h3
    go_enter Try.func9, Try.ntmps9
    go_wp2_with (first
      | (go_at_call 26; refine HN.out.mono ?_; rintro e w' ⟨rfl, rfl⟩)
      | (go_at_call 27; refine HH.out.mono ?_; rintro e w' ⟨rfl, rfl⟩)
      | fail)
    go_ret
    exact ⟨rfl, HC.out, Fr.refl S w⟩
  | true =>
    have hn2 : ¬ (wt < 1 ∨ 256 < wt ∨ inR n core = false) := by rw [h3]; simp; omega
    obtain ⟨k, rfl, hk⟩ := inR_nat h3
    cases hf : findO s.L id with
    | some x =>
      have e : addV n s id wt k = 13 := by unfold addV; rw [if_neg hn2, hf]; rfl
      have e2 : addN n s id wt k = s := by unfold addN; rw [e, if_neg (by decide)]
      rw [e, e2]
      have HC := hid h
      obtain ⟨l, h⟩ := h
      obtain ⟨c0, c1, c2, c3, _⟩ := h.c
      have HN := hid (none_no w cb l.mb c2)
      have HH := hid (has_c S w cb l per n s h k ok.n8)
      rw [h3] at HH
      have hl := (h.found hw hf).2
      clear h ok hS hS0 e e2 hw h3 hf hn2
      go_enter Try.func9, Try.ntmps9
      go_wp2_with (first
        | (go_at_call 26; refine HN.out.mono ?_; rintro e w' ⟨rfl, rfl⟩)
        | (go_at_call 27; refine HH.out.mono ?_; rintro e w' ⟨rfl, rfl⟩)
        | fail)
      go_ret
      exact ⟨rfl, HC.out, Fr.refl S w⟩
    | none =>
      by_cases h4 : 64 ≤ s.L.length
      · have e : addV n s id wt k = 18 := by unfold addV; rw [if_neg hn2, hf, if_neg (by decide), if_pos h4]
        have e2 : addN n s id wt k = s := by unfold addN; rw [e, if_neg (by decide)]
        rw [e, e2]
        have HC := hid h
        obtain ⟨l, h⟩ := h
        obtain ⟨c0, c1, c2, c3, _⟩ := h.c
        have HN := hid (none_no w cb l.mb c2)
        have HH := hid (has_c S w cb l per n s h k ok.n8)
        rw [h3] at HH
        have hl := (h.lost hw hf).2
        have hlen := hid (fun ty => h.map.len Try.underlying36 ty)
        have hlt : (((s.L.length : Nat) : Int) ≥ 64) := by omega
        clear h ok hS hS0 e e2 hw h3 hf hn2
        go_enter Try.func9, Try.ntmps9
        go_wp2_with (first
          | (go_at_call 26; refine HN.out.mono ?_; rintro e w' ⟨rfl, rfl⟩)
          | (go_at_call 27; refine HH.out.mono ?_; rintro e w' ⟨rfl, rfl⟩)
          | (at_len; refine wpList_len_F rfl (.tmp 37) 36 rfl l.mb s.L.length (by simp [Act.eval]) hlen.out ?_)
          | fail)
        go_ret
        exact ⟨rfl, HC.out, Fr.refl S w⟩
      · have e : addV n s id wt k = 0 := by unfold addV; rw [if_neg hn2, hf, if_neg (by decide), if_neg h4]
        have e2 : addN n s id wt k = addS s id wt.toNat k := by unfold addN; rw [e, if_pos rfl]; rfl
        rw [e, e2]
        obtain ⟨wn, rfl⟩ : ∃ wn : Nat, wt = wn := ⟨wt.toNat, by omega⟩
        exact add_ok S w cb per n s h ok hS id hw wn k (by omega) (by omega) hk hf (by omega)

theorem info_core : ∃ i, Try.prog.info? 67 = some i ∧ i.zero = some (.agg #[.slice none 0 0, .int .i64 0, .bool false, .int .i64 0]) ∧ i.size = 4 ∧ i.bytes = 48 := by
  have h : (Try.prog.info? 67).map (fun i => (i.zero, i.size, i.bytes)) = some (some (.agg #[.slice none 0 0, .int .i64 0, .bool false, .int .i64 0]), 4, 48) := by kernel_rfl
  cases hx : Try.prog.info? 67 with
  | none => rw [hx] at h; cases h
  | some i =>
    rw [hx] at h
    simp only [Option.map_some, Option.some.injEq, Prod.mk.injEq] at h
    exact ⟨i, rfl, h.1, h.2.1, h.2.2⟩

def coreZ : Array Value := #[.slice none 0 0, .int .i64 0, .bool false, .int .i64 0]
theorem coreZ_at (n i m : Nat) (hi : i < n) (hm : m < 4) : (madeCells coreZ (n * 4))[i * 4 + m]? = some coreZ[m]! := by
  unfold madeCells
  rw [Array.getElem?_map, Array.getElem?_range, if_pos (by omega)]
  show some coreZ[(i * 4 + m) % 4]! = _
  rw [show (i * 4 + m) % 4 = m by omega]

theorem Fr.heap_alloc {w : World} {k : Nat} {o : Obj} (h : k < w.heap.size) : (w.alloc o).heap[k]? = w.heap[k]? := Below.heap_alloc _ _ _ h

/-- New. -/
theorem new_ok (S : Nat → Prop) (w : World) (n per : Nat) (n1 : 1 ≤ n) (n8 : n ≤ 8) (p1 : 1 ≤ per) (p2 : per ≤ 1048576) (hS : ∀ k, w.heap.size ≤ k → S k) :
    Calls Try.prog 8 #[.int .i64 n, .int .i64 per] w fun e w' => e = .returned (.tuple #[.pointer (some ⟨w.heap.size + 1 + 1, 0, none⟩), .int .i64 0]) ∧ Hid (CR S w' (w.heap.size + 1 + 1) per n ⟨[], fun _ => [], fun _ => 0, fun _ => false, fun _ => 0, 0⟩) ∧ Hid (Fr (fun _ => False) w w') := by
  have HS := hid hS
  clear hS
  obtain ⟨i0, hi0, hz0, hz1, hz2⟩ := info_core
  have hmk : (Instr.makeSlice 35 (.int .i64 (n : Int)) (.int .i64 (n : Int))).run Try.prog w = .ok (.slice (some ⟨w.heap.size, 0, none⟩) n n) (w.alloc (.cells (madeCells coreZ (n * 4)) 67)) := by
    have := run_make (P := Try.prog) w 35 67 i0 _ Try.underlying35 hi0 hz0 .i64 .i64 (n : Int) (n : Int) (by omega) (Int.le_refl _) (by rw [hz2]; omega) (by omega)
    rw [hz1] at this
    exact this
  have hmm := @run_makeMap
  have l1 : ¬ ((n : Int) < 1) := by omega
  have l2 : ¬ ((n : Int) > 8) := by omega
  have l3 : ¬ ((per : Int) < 1) := by omega
  have l4 : ¬ ((per : Int) > 1048576) := by omega
  clear hi0 hz0 hz1 hz2
  go_enter Try.func8, Try.ntmps8
  go_wp2_with fail
  go_ret2
  refine ⟨by first | rfl | simp, ?_, (((Fr.refl _ w).alloc _).alloc _).alloc _⟩
  obtain ⟨a, b, c⟩ := heap3 w (.cells (madeCells coreZ (n * 4)) 67) (.map #[] 0) (.cells #[.int .i64 per, .slice (some ⟨w.heap.size, 0, none⟩) n n, .map (some (w.heap.size + 1)), .int .i64 0] 38)
  refine ⟨⟨w.heap.size, w.heap.size + 1, fun _ => none, fun _ => 0, fun _ => 0⟩, c, ⟨_, a, fun i hi => ⟨coreZ_at n i 0 hi (by omega), coreZ_at n i 1 hi (by omega), coreZ_at n i 2 hi (by omega), coreZ_at n i 3 hi (by omega)⟩⟩, ?_, fun x hx => (by cases hx), fun i hi => World.ownsRow_nil _ _ _ _, fun x hx => (by cases hx), fun i j g _ _ hg => (by cases hg), HS.out _ (by omega), HS.out _ (by show w.heap.size ≤ w.heap.size; omega), HS.out _ (by show w.heap.size ≤ w.heap.size + 1; omega), fun i g _ hg => (by cases hg), fun x hx => (by cases hx)⟩
  have hm := MAPF_new (w.alloc (.cells (madeCells coreZ (n * 4)) 67)) Try.prog 3
  rw [World.size_alloc] at hm
  have e : lookF [] (fun _ => 0) = fun _ => none := lookF_ext (fun i => rfl) (fun kl h => lookF_off _ _ h)
  show MAPF Try.prog 3 _ (w.heap.size + 1) (lookF [] (fun _ => 0)) 0
  rw [e]
  exact hm.of_heap (Below.heap_alloc _ _ _ (by rw [World.size_alloc, World.size_alloc]; omega))
end Go.Proofs.Ytehjekcfhmmggaa

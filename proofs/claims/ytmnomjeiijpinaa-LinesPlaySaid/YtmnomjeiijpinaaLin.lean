/-
  The lines' functions, each walked once: what each does to lines in memory. No conditions.
-/
import Derived.Test.YtmnomjeiijpinaaRows
import Derived.Test.YtmnomjeiijpinaaBase
import Derived.Test.YtmnomjeiijpinaaChan
namespace Go.Proofs.Ytmnomjeiijpinaa
open Go.RowKit Go.Conc

/-- A core: the events that wait, its clock, its timer. -/
structure LC where
  ev : List Int
  clock : Int
  due : Int
  armed : Bool

def LC.cells (c : LC) (ch : Nat) : Array Value := #[.chan (some ch), .int .u64 c.clock, .int .u64 c.due, .bool c.armed]
def ptrs (cb : Nat → Nat) (n : Nat) : List Value := (List.range n).map fun i => Value.pointer (some ⟨cb i, 0, none⟩)
def evs (l : List Int) : Array Value := (l.map (Value.int .i64)).toArray

/-- Lines of n cores at block lb. -/
structure LAt (w : World) (lb : Nat) (sa : Option Addr) (cap : Nat) (cb ch : Nat → Nat) (n : Nat) (st : Nat → LC) : Prop where
  l : w.heap[lb]? = some (.cells #[.slice sa n cap] 37 (0, 0))
  row : w.ownsRow 0 65 1 (.slice sa n cap) n (ptrs cb n)
  core : ∀ i, i < n → w.heap[cb i]? = some (.cells ((st i).cells (ch i)) 68 (0, 0))
  chan : ∀ i, i < n → ∃ s r, w.heap[ch i]? = some (.chan 16 (evs (st i).ev) false s r false)
  lne : blk sa ≠ some lb
  ne : ∀ i, i < n → cb i ≠ lb ∧ ch i ≠ lb ∧ blk sa ≠ some (cb i) ∧ blk sa ≠ some (ch i)
  dist : ∀ i j, i < n → j < n → cb i ≠ ch j ∧ (i ≠ j → cb i ≠ cb j ∧ ch i ≠ ch j)

/-- What a call may write. -/
def Mine (cb ch : Nat → Nat) (n : Nat) (k : Nat) : Prop := ∃ i, i < n ∧ (k = cb i ∨ k = ch i)

def upd (st : Nat → LC) (i : Nat) (c : LC) : Nat → LC := fun j => if j = i then c else st j

theorem LAt.ptr {w : World} {lb : Nat} {sa : Option Addr} {cap : Nat} {cb ch : Nat → Nat} {n : Nat} {st : Nat → LC} (h : LAt w lb sa cap cb ch n st) {i : Nat} (hi : i < n) :
    ∃ g, sa = some ⟨g, 0, none⟩ ∧ w.cell? ⟨g, i, none⟩ = some (.pointer (some ⟨cb i, 0, none⟩)) := by
  have hr := h.row
  rcases hr.2 with ⟨hv, h0⟩ | ⟨g, cap', cur, hv, _, hg, _⟩
  · omega
  · simp only [Value.slice.injEq] at hv
    obtain ⟨rfl, _, rfl⟩ := hv
    refine ⟨g, rfl, ?_⟩
    have := hr.cells (g := g) rfl i (.pointer (some ⟨cb i, 0, none⟩)) (by simp [ptrs, hi])
    rw [Addr.add_lit, Nat.zero_add] at this
    exact this

set_option maxHeartbeats 400000 in
theorem of_ok (w : World) (lb : Nat) (sa : Option Addr) (cap : Nat) (cb ch : Nat → Nat) (n : Nat) (st : Nat → LC) (h : LAt w lb sa cap cb ch n st) (i : Nat) (hi : i < n) :
    Calls Try.prog 23 #[.pointer (some ⟨lb, 0, none⟩), .int .i64 i] w fun e w' => e = .returned (.tuple #[.pointer (some ⟨cb i, 0, none⟩), .int .i64 0]) ∧ w = w' := by
  obtain ⟨g, rfl, hp⟩ := h.ptr hi
  have c0 := cell_at (o := 0) h.l
  simp at c0
  have he := fun (w : World) => Lib.run_eql_slice_nil (P := Try.prog) w 35 65 (some ⟨g, 0, none⟩) n cap 0 0 Try.underlying35
  clear h
  go_enter Try.func23, Try.ntmps23
  go_wp2
  go_ret2
  exact ⟨rfl, rfl⟩

set_option maxHeartbeats 400000 in
theorem of_bad (w : World) (lb : Nat) (g : Addr) (cap : Nat) (n : Nat) (c0 : w.cell? ⟨lb, 0, none⟩ = some (.slice (some g) n cap)) (hn8 : n ≤ 8) (i : Int) (hi : i < 0 ∨ (n : Int) ≤ i) :
    Calls Try.prog 23 #[.pointer (some ⟨lb, 0, none⟩), .int .i64 i] w fun e w' => e = .returned (.tuple #[.pointer none, .int .i64 2]) ∧ w = w' := by
  have he := fun (w : World) => Lib.run_eql_slice_nil (P := Try.prog) w 35 65 (some g) n cap 0 0 Try.underlying35
  rcases hi with hi | hi
  · go_enter Try.func23, Try.ntmps23
    go_wp2
    go_ret2
    exact ⟨rfl, rfl⟩
  · have h0 : ¬ i < 0 := by omega
    go_enter Try.func23, Try.ntmps23
    go_wp2
    go_ret2
    exact ⟨rfl, rfl⟩

theorem setChan_heap (w : World) (c cap : Nat) (buf : Array Value) (cl : Bool) (s r : Nat) (tm : Bool) (h : c < w.heap.size) : (w.setChan c cap buf cl s r tm).heap[c]? = some (.chan cap buf cl s r tm) := heap_setChan w c cap buf cl s r tm h
theorem setChan_heap_ne (w : World) (c c' cap : Nat) (buf : Array Value) (closed : Bool) (s r : Nat) (tm : Bool) (h : c ≠ c') : (w.setChan c cap buf closed s r tm).heap[c']? = w.heap[c']? := by
  simp [World.setChan, Array.getElem?_setIfInBounds_ne h]

theorem evs_push (l : List Int) (x : Int) : (evs l).push (.int .i64 x) = evs (l ++ [x]) := by simp [evs]
theorem evs_size (l : List Int) : (evs l).size = l.length := by simp [evs]
theorem evs_pop (x : Int) (l : List Int) : (evs (x :: l)).extract 1 (evs (x :: l)).size = evs l := by
  apply Array.ext'
  simp [evs, List.extract]
  rw [List.take_of_length_le (by simp)]

/-- One core changes: its events. -/
theorem LAt.setChan {w : World} {lb : Nat} {sa : Option Addr} {cap : Nat} {cb ch : Nat → Nat} {n : Nat} {st : Nat → LC} (h : LAt w lb sa cap cb ch n st) {i : Nat} (hi : i < n) (l : List Int) (s r : Nat) :
    LAt (w.setChan (ch i) 16 (evs l) false s r false) lb sa cap cb ch n (upd st i { st i with ev := l }) ∧ Fr (Mine cb ch n) w (w.setChan (ch i) 16 (evs l) false s r false) := by
  have hlt : ch i < w.heap.size := by obtain ⟨s, r, hc⟩ := h.chan i hi; exact heap_lt hc
  refine ⟨⟨?_, ?_, fun j hj => ?_, fun j hj => ?_, h.lne, h.ne, h.dist⟩, ?_⟩
  · rw [setChan_heap_ne _ _ _ _ _ _ _ _ _ (h.ne i hi).2.1]; exact h.l
  · refine owns_of_heap h.row (fun g hg => setChan_heap_ne _ _ _ _ _ _ _ _ _ ?_)
    rw [ownBlock_slice] at hg
    exact fun e => (h.ne i hi).2.2.2 (e ▸ hg)
  · rw [setChan_heap_ne _ _ _ _ _ _ _ _ _ (Ne.symm (h.dist j i hj hi).1), h.core j hj]
    unfold upd
    split
    · rename_i e; subst e; rfl
    · rfl
  · by_cases e : j = i
    · subst e
      exact ⟨s, r, by rw [setChan_heap _ _ _ _ _ _ _ _ hlt]; simp [upd]⟩
    · obtain ⟨s', r', hc⟩ := h.chan j hj
      exact ⟨s', r', by rw [setChan_heap_ne _ _ _ _ _ _ _ _ _ (fun e' => ((h.dist i j hi hj).2 (Ne.symm e)).2 e'), hc]; simp [upd, e]⟩
  · refine ⟨rfl, rfl, rfl, by simp [World.setChan], fun k _ hk => setChan_heap_ne _ _ _ _ _ _ _ _ _ (fun e => hk ⟨i, hi, .inr e.symm⟩)⟩

set_option maxHeartbeats 400000 in
theorem send_room (w : World) (lb : Nat) (sa : Option Addr) (cap : Nat) (cb ch : Nat → Nat) (n : Nat) (st : Nat → LC) (h : LAt w lb sa cap cb ch n st) (i : Nat) (hi : i < n) (x : Int) (hl : (st i).ev.length < 16) :
    Calls Try.prog 9 #[.pointer (some ⟨lb, 0, none⟩), .int .i64 i, .int .i64 x] w fun e w' => e = .returned (.int .i64 0) ∧ Hid (LAt w' lb sa cap cb ch n (upd st i { st i with ev := (st i).ev ++ [x] })) ∧ Hid (Fr (Mine cb ch n) w w') := by
  have H := hid h
  have c0 := cell_at (o := 0) (h.core i hi)
  simp [LC.cells] at c0
  refine calls_of_wpN Try.func9 rfl ?_
  simp only [Try.ntmps9, List.size_toArray, List.length_cons, List.length_nil, Nat.reduceAdd, Nat.reduceSub, Array.replicate_succ, Array.replicate_zero, List.push_toArray, List.append_toArray, List.nil_append, List.cons_append]
  refine wpN_seq_k (fun K HK => ?_)
  go_wp2_with fail
  refine HK.out _ _ ?_
  clear HK K
  refine wpN_seq_k (fun K HK => ?_)
  go_wp2_with (go_at_call 23; refine (of_ok _ lb sa cap cb ch n st H.out i hi).mono ?_; rintro e w' ⟨rfl, rfl⟩)
  refine HK.out _ _ ?_
  clear HK K
  refine wpN_seq_k (fun K HK => ?_)
  go_wp2_with fail
  refine HK.out _ _ ?_
  clear HK K
  refine wpN_seq_k (fun K HK => ?_)
  go_wp2_with fail
  refine HK.out _ _ ?_
  clear HK K
  refine wpN_seqN ?_
  obtain ⟨s, r, hc⟩ := H.out.chan i hi
  refine wpN_send_room (v := .int .i64 x) (z := .int .i64 0) rfl (by simp [go_sem, execOp, scase, Act.eval]) hc (by simpa [evs] using hl) ?_
  go_wp2
  refine wpN_of_wp ?_
  go_wp2
  go_ret
  rw [evs_push]
  exact ⟨rfl, h.setChan hi _ _ _⟩

set_option maxHeartbeats 400000 in
theorem send_full (w : World) (lb : Nat) (sa : Option Addr) (cap : Nat) (cb ch : Nat → Nat) (n : Nat) (st : Nat → LC) (h : LAt w lb sa cap cb ch n st) (i : Nat) (hi : i < n) (x : Int) (hl : 16 ≤ (st i).ev.length) :
    Calls Try.prog 9 #[.pointer (some ⟨lb, 0, none⟩), .int .i64 i, .int .i64 x] w fun e w' => e = .returned (.int .i64 18) ∧ w = w' := by
  have H := hid h
  have c0 := cell_at (o := 0) (h.core i hi)
  simp [LC.cells] at c0
  refine calls_of_wpN Try.func9 rfl ?_
  simp only [Try.ntmps9, List.size_toArray, List.length_cons, List.length_nil, Nat.reduceAdd, Nat.reduceSub, Array.replicate_succ, Array.replicate_zero, List.push_toArray, List.append_toArray, List.nil_append, List.cons_append]
  refine wpN_seq_k (fun K HK => ?_)
  go_wp2_with fail
  refine HK.out _ _ ?_
  clear HK K
  refine wpN_seq_k (fun K HK => ?_)
  go_wp2_with (go_at_call 23; refine (of_ok _ lb sa cap cb ch n st H.out i hi).mono ?_; rintro e w' ⟨rfl, rfl⟩)
  refine HK.out _ _ ?_
  clear HK K
  refine wpN_seq_k (fun K HK => ?_)
  go_wp2_with fail
  refine HK.out _ _ ?_
  clear HK K
  refine wpN_seq_k (fun K HK => ?_)
  go_wp2_with fail
  refine HK.out _ _ ?_
  clear HK K
  refine wpN_seqN ?_
  obtain ⟨s, r, hc⟩ := H.out.chan i hi
  refine wpN_send_full (v := .int .i64 x) (z := .int .i64 0) rfl (by simp [go_sem, execOp, scase, Act.eval]) hc (by simpa [evs] using hl) ?_
  go_wp2
  refine wpN_of_wp ?_
  go_wp2
  go_ret
  exact ⟨rfl, rfl⟩

set_option maxHeartbeats 400000 in
theorem take_some (w : World) (lb : Nat) (sa : Option Addr) (cap : Nat) (cb ch : Nat → Nat) (n : Nat) (st : Nat → LC) (h : LAt w lb sa cap cb ch n st) (i : Nat) (hi : i < n) (x : Int) (l : List Int) (hl : (st i).ev = x :: l) :
    Calls Try.prog 11 #[.pointer (some ⟨lb, 0, none⟩), .int .i64 i] w fun e w' => e = .returned (.tuple #[.int .i64 x, .bool true]) ∧ Hid (LAt w' lb sa cap cb ch n (upd st i { st i with ev := l })) ∧ Hid (Fr (Mine cb ch n) w w') := by
  have H := hid h
  have HL := hid hl
  have c0 := cell_at (o := 0) (h.core i hi)
  simp [LC.cells] at c0
  clear hl
  refine calls_of_wpN Try.func11 rfl ?_
  simp only [Try.ntmps11, List.size_toArray, List.length_cons, List.length_nil, Nat.reduceAdd, Nat.reduceSub, Array.replicate_succ, Array.replicate_zero, List.push_toArray, List.append_toArray, List.nil_append, List.cons_append]
  refine wpN_seq_k (fun K HK => ?_)
  go_wp2_with fail
  refine HK.out _ _ ?_
  clear HK K
  refine wpN_seq_k (fun K HK => ?_)
  go_wp2_with (go_at_call 23; refine (of_ok _ lb sa cap cb ch n st H.out i hi).mono ?_; rintro e w' ⟨rfl, rfl⟩)
  refine HK.out _ _ ?_
  clear HK K
  refine wpN_seq_k (fun K HK => ?_)
  go_wp2_with fail
  refine HK.out _ _ ?_
  clear HK K
  refine wpN_seq_k (fun K HK => ?_)
  go_wp2_with fail
  refine HK.out _ _ ?_
  clear HK K
  refine wpN_seqN ?_
  obtain ⟨s, r, hc⟩ := H.out.chan i hi
  rw [HL.out] at hc
  refine wpN_recv_buf (z := .int .i64 0) rfl (by simp [go_sem, execOp, rcase, Act.eval]) hc (by simp [evs]) ?_
  rw [evs_pop, show (evs (x :: l)).getD 0 undef = .int .i64 x from by simp [evs]]
  go_wp2
  refine wpN_of_wp ?_
  go_wp2
  go_ret2
  exact ⟨rfl, h.setChan hi _ _ _⟩

set_option maxHeartbeats 400000 in
theorem take_none (w : World) (lb : Nat) (sa : Option Addr) (cap : Nat) (cb ch : Nat → Nat) (n : Nat) (st : Nat → LC) (h : LAt w lb sa cap cb ch n st) (i : Nat) (hi : i < n) (hl : (st i).ev = []) :
    Calls Try.prog 11 #[.pointer (some ⟨lb, 0, none⟩), .int .i64 i] w fun e w' => e = .returned (.tuple #[.int .i64 0, .bool false]) ∧ w = w' := by
  have H := hid h
  have HL := hid hl
  have c0 := cell_at (o := 0) (h.core i hi)
  simp [LC.cells] at c0
  clear hl
  refine calls_of_wpN Try.func11 rfl ?_
  simp only [Try.ntmps11, List.size_toArray, List.length_cons, List.length_nil, Nat.reduceAdd, Nat.reduceSub, Array.replicate_succ, Array.replicate_zero, List.push_toArray, List.append_toArray, List.nil_append, List.cons_append]
  refine wpN_seq_k (fun K HK => ?_)
  go_wp2_with fail
  refine HK.out _ _ ?_
  clear HK K
  refine wpN_seq_k (fun K HK => ?_)
  go_wp2_with (go_at_call 23; refine (of_ok _ lb sa cap cb ch n st H.out i hi).mono ?_; rintro e w' ⟨rfl, rfl⟩)
  refine HK.out _ _ ?_
  clear HK K
  refine wpN_seq_k (fun K HK => ?_)
  go_wp2_with fail
  refine HK.out _ _ ?_
  clear HK K
  refine wpN_seq_k (fun K HK => ?_)
  go_wp2_with fail
  refine HK.out _ _ ?_
  clear HK K
  refine wpN_seqN ?_
  obtain ⟨s, r, hc⟩ := H.out.chan i hi
  rw [HL.out] at hc
  refine wpN_recv_none (z := .int .i64 0) rfl (by simp [go_sem, execOp, rcase, Act.eval]) hc ?_
  go_wp2
  refine wpN_of_wp ?_
  go_wp2
  go_ret2
  exact ⟨rfl, rfl⟩

set_option maxHeartbeats 400000 in
theorem waiting_ok (w : World) (lb : Nat) (sa : Option Addr) (cap : Nat) (cb ch : Nat → Nat) (n : Nat) (st : Nat → LC) (h : LAt w lb sa cap cb ch n st) (i : Nat) (hi : i < n) :
    Calls Try.prog 10 #[.pointer (some ⟨lb, 0, none⟩), .int .i64 i] w fun e w' => e = .returned (.int .i64 (st i).ev.length) ∧ w = w' := by
  have H := hid h
  have c0 := cell_at (o := 0) (h.core i hi)
  simp [LC.cells] at c0
  obtain ⟨s, r, hc⟩ := h.chan i hi
  have hlen := fun ty => run_len_chan (P := Try.prog) 66 ty Try.underlying66 hc
  rw [evs_size] at hlen
  go_enter Try.func10, Try.ntmps10
  go_wp2_with (go_at_call 23; refine (of_ok _ lb sa cap cb ch n st H.out i hi).mono ?_; rintro e w' ⟨rfl, rfl⟩)
  go_ret
  exact ⟨rfl, rfl⟩

end Go.Proofs.Ytmnomjeiijpinaa

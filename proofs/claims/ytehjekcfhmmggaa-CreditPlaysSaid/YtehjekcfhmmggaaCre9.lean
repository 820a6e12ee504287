/-
  A scheduler's Look, Queue, Runs. No conditions.
-/
import Derived.Test.YtehjekcfhmmggaaCre8
import Derived.BigRegion
import Derived.Laws.StructEq
namespace Go.Proofs.Ytehjekcfhmmggaa
open Go.RowKit

theorem results_cell_pair {P : Program} {fn : Func} {p u : Tmp} {ty : TypeId} (h : fn.results = #[.cell p ty, .tmp u]) (tmps : Array Value) (w : World) (g : Nat) (t : TypeId) (cs : Array Value) (fr : Nat × Nat) (d : TypeDesc)
    (hp : tmps.getD p undef = .pointer (some ⟨g, 0, none⟩)) (hg : w.heap[g]? = some (.cells cs t fr)) (hu : P.underlying ty = some d) (hd : (match d with | .struct _ | .array _ _ => true | _ => false) = true) (hi : (P.info? ty).map (·.size) = some cs.size) :
    (results fn tmps).run P w = .ok (.tuple #[.agg cs, tmps.getD u undef]) w := by
  rw [results_cell_tmp h, hp]
  simp [asAddr, run_loadVar_row w g t ty cs fr d hg hu hd hi, Result.andThen]

theorem neq29 (a b c d a' b' c' d' : Int) (w : World) : (binOp .neq 29 (.agg #[.int .i64 a, .int .i64 b, .int .i64 c, .int .i64 d]) (.agg #[.int .i64 a', .int .i64 b', .int .i64 c', .int .i64 d'])).run Try.prog w = .ok (.bool (!decide (a = a' ∧ b = b' ∧ c = c' ∧ d = d'))) w := by
  have u3 := Try.underlying3
  have a3 := Try.isAgg3
  have z3 := Try.sizeOf3
  have hS : Try.prog.underlying 29 = some (.struct (Try.prog.fieldsOf 29)) := by kernel_rfl
  have hp : Try.prog.stoodInHeld 29 = false := by kernel_rfl
  rw [run_neq_struct, show (10000 : Nat) = 9999 + 1 from rfl, run_equalIn_agg w 9999 29 _ _ hS hp]
  simp only [Program.fieldsOf, Try.underlying29]
  go_simp
  by_cases h1 : a = a' <;> by_cases h2 : b = b' <;> by_cases h3 : c = c' <;> by_cases h4 : d = d' <;> simp [h1, h2, h3, h4]

def zero29 : Array Value := #[.int .i64 0, .int .i64 0, .int .i64 0, .int .i64 0]
def lookV (s : CS) (id : Int) : Value := .tuple #[.agg (match findO s.L id with | some x => oneCells x | none => zero29), .bool (findO s.L id).isSome]

set_option maxHeartbeats 1000000 in
set_option maxRecDepth 100000 in
/-- Look. -/
theorem look_c (S : Nat → Prop) (w : World) (cb per n : Nat) (s : CS) (h : CR S w cb per n s) (ok : OKs per n s) (id : Int) (hw : (Lit.int .i64 id).wf = true) :
    Calls Try.prog 11 #[.pointer (some ⟨cb, 0, none⟩), .int .i64 id] w fun e w' => e = .returned (lookV s id) ∧ Hid (Fr (fun _ => False) w w') := by
  obtain ⟨l, h⟩ := h
  have h1 : CAt S (w.alloc (.cells #[.int .i64 0, .int .i64 0, .int .i64 0, .int .i64 0] 29)) cb l per n s := h.kept ((Fr.refl (fun _ => False) w).alloc _) (fun _ _ _ h => h)
  cases hf : findO s.L id with
  | none =>
    have HO := hid (of_no S _ cb l per n s h1 id hw hf)
    unfold lookV
    rw [hf]
    clear h h1 ok hw hf
    go_enter Try.func11, Try.ntmps11
    go_wp2_with (first | (go_at_call 29; refine HO.out.mono ?_; rintro e w' ⟨rfl, rfl⟩) | fail)
    exact bodyPost_ret (v := .tuple #[.agg #[.int .i64 0, .int .i64 0, .int .i64 0, .int .i64 0], .bool false]) (by simp [results, Try.results11, go_sem]) rfl ⟨rfl, (Fr.refl _ w).alloc _⟩
  | some x =>
    have HO := hid (of_yes S _ cb l per n s h1 id hw x hf)
    obtain ⟨hx, hxi⟩ := findO_mem hf
    have hwt := (ok.one x hx).2.1
    obtain ⟨x0, x1, x2, x3, _⟩ := h.x hx
    rw [hxi] at x0 x1 x2 x3
    have hpb := block_lt_of_cell x0
    unfold lookV
    rw [hf]
    have hne : ∀ w' : World, (binOp .neq 29 (.agg #[.int .i64 x.state, .int .i64 (x.core : Int), .int .i64 (x.weight : Int), .int .i64 x.credit]) (.agg #[.int .i64 0, .int .i64 0, .int .i64 0, .int .i64 0])).run Try.prog w' = .ok (.bool true) w' := fun w' => by
      rw [neq29, decide_eq_false (by omega)]; rfl
    clear h h1 ok hw hf hx hxi
    go_enter Try.func11, Try.ntmps11
    go_wp2_with (first | (go_at_call 29; refine HO.out.mono ?_; rintro e w' ⟨rfl, rfl⟩) | fail)
    go_region
    go_wp2_with fail
    exact bodyPost_ret (results_cell_pair rfl _ _ w.heap.size 29 #[.int .i64 x.state, .int .i64 (x.core : Int), .int .i64 (x.weight : Int), .int .i64 x.credit] (0, 0) _ rfl (heap_alloc_new w _) Try.underlying29 rfl (by kernel_rfl)) rfl ⟨rfl, ((Fr.refl _ w).alloc _).drew⟩

set_option maxHeartbeats 1000000 in
/-- slices.Clone. -/
theorem clone_c (w : World) (ao : Option Addr) (l c : Nat) (xs : List Value) (base : Nat) (h : w.ownsRow base 3 1 (.slice ao l c) l xs) (h1 : ∀ u ∈ xs, u.oneCell' = true) (hc : l ≤ 4096) :
    Calls Try.prog 36 #[.slice ao l c] w fun e w' => ∃ ro cap, e = .returned (.slice ro l cap) ∧ Hid (w'.ownsRow w.heap.size 3 1 (.slice ro l cap) l xs) ∧ Hid (Fr (fun _ => False) w w') := by
  obtain ⟨i0, hi, hz0, hz1, hz2⟩ := info_int
  have hlen := h.1
  cases ao with
  | none =>
    have hcap := (owns_len h).2.2.2 rfl
    have hll := (owns_len h).2.1
    obtain rfl : l = 0 := by omega
    obtain rfl : c = 0 := by omega
    obtain rfl : xs = [] := List.eq_nil_of_length_eq_zero (by omega)
    have he := fun (w : World) => Lib.run_eql_slice_nil (P := Try.prog) w 49 3 none 0 0 0 0 Try.underlying49
    go_enter Try.func36, Try.ntmps36
    go_wp2
    go_ret
    exact ⟨none, 0, rfl, World.ownsRow_nil _ _ _ _, Fr.refl _ _⟩
  | some ad =>
    have he := fun (w : World) => Lib.run_eql_slice_nil (P := Try.prog) w 49 3 (some ad) l c 0 0 Try.underlying49
    have hrow : Hid ((w.alloc (.cells #[] 3)).ownsRow w.heap.size 3 1 (.slice (some ⟨w.heap.size, 0, none⟩) 0 0) 0 []) := World.ownsRow_made w #[] 0 (Nat.le_refl _) (Nat.zero_le _) rfl
    have hsrc : Hid (∀ a, some ad = some a → ∀ j u, xs[j]? = some u → (w.alloc (.cells #[] 3)).cell? (a.add j) = some u) := by
      intro a ha j u hu
      cases ha
      have had : ad = ⟨ad.block, 0, none⟩ := by
        rcases h.2 with ⟨hv, _⟩ | ⟨g, cap, cur, hv, _⟩
        · cases hv
        · simp only [Value.slice.injEq, Option.some.injEq] at hv
          rw [hv.1]
      have hc := h.cells (g := ad.block) (by rw [ownBlock_slice]; rfl) j u hu
      rw [← had] at hc
      rw [World.cell?_of_block (Below.heap_alloc _ _ _ (block_lt_of_cell hc))]
      exact hc
    have hlen' := hid hlen
    clear h hlen
    go_enter Try.func36, Try.ntmps36
    go_wp2_with (at_builtin; refine wpList_append_gen rfl (.tmp 5) (.tmp 6) 49 rfl 3 i0 (.int .i64 0) 1 8 Try.underlying49 hi hz0 hz1 hz2 rfl (by decide) w.heap.size _ 0 0 [] (by simp [Act.eval]) hrow.out (some ad) l c xs (by simp [Act.eval]) hlen'.out (fun e => by cases e) hsrc.out h1 (by unfold maxLen; omega) (by omega) (by simp) ?_; intro ro cap w' hown hgr hat; have Hown := hid hown; have Hgr := hid hgr; clear hown hgr hat)
    go_ret
    refine ⟨ro, cap, by simp, by unfold Hid; simpa using Hown.out, ?_⟩
    exact ((Fr.refl _ w).alloc _).grown Hgr.out (fun k e hk => by simp at e; omega)

theorem ints_one (xs : List Int) : ∀ u ∈ ints xs, u.oneCell' = true := by
  intro u hu
  unfold ints at hu
  obtain ⟨x, _, rfl⟩ := List.mem_map.1 hu
  rfl

def queueL (n : Nat) (s : CS) (i : Int) : List Int := if inR n i = true then s.Q i.toNat else []

set_option maxHeartbeats 1000000 in
/-- Queue. -/
theorem queue_c (S : Nat → Prop) (w : World) (cb per n : Nat) (s : CS) (h : CR S w cb per n s) (ok : OKs per n s) (i : Int) :
    Calls Try.prog 20 #[.pointer (some ⟨cb, 0, none⟩), .int .i64 i] w fun e w' => ∃ ro cap, e = .returned (.slice ro (queueL n s i).length cap) ∧ Hid (w'.ownsRow w.heap.size 3 1 (.slice ro (queueL n s i).length cap) (queueL n s i).length (ints (queueL n s i))) ∧ Hid (Fr (fun _ => False) w w') := by
  obtain ⟨l, h⟩ := h
  obtain ⟨c0, c1, c2, c3, _⟩ := h.c
  have HH := hid (has_c S w cb l per n s h i ok.n8)
  cases h3 : inR n i with
  | false =>
    have e : queueL n s i = [] := by unfold queueL; rw [h3, if_neg (by decide)]
    rw [e]
    rw [h3] at HH
    clear h ok h3 e
    go_enter Try.func20, Try.ntmps20
    go_wp2_with (first | (go_at_call 27; refine HH.out.mono ?_; rintro e w' ⟨rfl, rfl⟩) | fail)
    go_ret
    exact ⟨none, 0, rfl, World.ownsRow_nil _ _ _ _, Fr.refl _ _⟩
  | true =>
    rw [h3] at HH
    obtain ⟨k, rfl, hk⟩ := inR_nat h3
    have e : queueL n s (k : Int) = s.Q k := by unfold queueL; rw [h3, if_pos rfl]; rfl
    rw [e]
    obtain ⟨k0, _⟩ := h.k hk
    have hq := ok.qlen hk
    have HC := hid (clone_c w (l.qa k) (s.Q k).length (l.qc k) (ints (s.Q k)) 0 (h.queue k hk) (ints_one _) (by omega))
    have hk2 : ((k : Int) < (n : Int)) := by omega
    clear h ok h3 e
    go_enter Try.func20, Try.ntmps20
    go_wp2_with (first
      | (go_at_call 27; refine HH.out.mono ?_; rintro e w' ⟨rfl, rfl⟩)
      | (go_at_call 36; refine HC.out.mono ?_; rintro e w' ⟨ro, cap, rfl, O, F⟩)
      | fail)
    go_ret
    exact ⟨ro, cap, rfl, O, F⟩

def runsV (n : Nat) (s : CS) (i : Int) : Int := if inR n i = true ∧ s.bs i.toNat = true then s.rv i.toNat else 0
def runsB (n : Nat) (s : CS) (i : Int) : Bool := inR n i && s.bs i.toNat

theorem OKs.runner {per n : Nat} {s : CS} (ok : OKs per n s) {k : Nat} (hk : k < n) (hb : s.bs k = true) : ∃ x ∈ s.L, x.id = s.rv k ∧ x.state = 2 ∧ x.core = k ∧ findO s.L (s.rv k) = some x ∧ (Lit.int .i64 (s.rv k)).wf = true := by
  obtain ⟨x, hx, e1, e2, e3⟩ := ok.busy k hk hb
  exact ⟨x, hx, e1, e2, e3, by rw [← e1]; exact ok.find hx, by rw [← e1]; exact (ok.one x hx).1⟩

set_option maxHeartbeats 1000000 in
/-- Runs. -/
theorem runs_c (S : Nat → Prop) (w : World) (cb per n : Nat) (s : CS) (h : CR S w cb per n s) (ok : OKs per n s) (i : Int) :
    Calls Try.prog 14 #[.pointer (some ⟨cb, 0, none⟩), .int .i64 i] w fun e w' => e = .returned (.tuple #[.int .i64 (runsV n s i), .bool (runsB n s i)]) ∧ ∃ m, w' = w.drewN m := by
  obtain ⟨l, h⟩ := h
  obtain ⟨c0, c1, c2, c3, _⟩ := h.c
  cases h3 : inR n i with
  | false =>
    have e1 : runsV n s i = 0 := by unfold runsV; rw [h3, if_neg (by simp)]
    have e2 : runsB n s i = false := by unfold runsB; rw [h3]; rfl
    rw [e1, e2]
    have HR := hid (running_out S w cb l per n s h i ok.n8 h3)
    clear h ok h3 e1 e2
    go_enter Try.func14, Try.ntmps14
    go_wp2_with (first | (go_at_call 34; refine HR.out.mono ?_; rintro e w' ⟨rfl, rfl⟩) | fail)
    go_ret2
    exact ⟨rfl, 0, rfl⟩
  | true =>
    obtain ⟨k, rfl, hk⟩ := inR_nat h3
    cases hb : s.bs k with
    | false =>
      have e1 : runsV n s (k : Int) = 0 := by unfold runsV; rw [if_neg (by rw [show (k : Int).toNat = k from rfl, hb]; simp)]
      have e2 : runsB n s (k : Int) = false := by unfold runsB; rw [show (k : Int).toNat = k from rfl, hb, Bool.and_false]
      rw [e1, e2]
      have HR := hid (running_no S w cb l per n s h k ok.n8 hk hb)
      clear h ok h3 e1 e2 hb
      go_enter Try.func14, Try.ntmps14
      go_wp2_with (first | (go_at_call 34; refine HR.out.mono ?_; rintro e w' ⟨rfl, rfl⟩) | fail)
      go_ret2
      exact ⟨rfl, 0, rfl⟩
    | true =>
      have e1 : runsV n s (k : Int) = s.rv k := by unfold runsV; rw [if_pos ⟨h3, hb⟩]; rfl
      have e2 : runsB n s (k : Int) = true := by unfold runsB; rw [show (k : Int).toNat = k from rfl, hb, h3]; rfl
      rw [e1, e2]
      obtain ⟨x, hx, _, _, _, hf, hwf⟩ := ok.runner hk hb
      have HR := hid (running_yes S w cb l per n s h k ok.n8 hk hb hwf x hf)
      obtain ⟨_, k1, _⟩ := h.k hk
      have hk2 : ((k : Int) < (n : Int)) := by omega
      clear h ok h3 e1 e2 hb hx hf hwf
      go_enter Try.func14, Try.ntmps14
      go_wp2_with (first | (go_at_call 34; refine HR.out.mono ?_; rintro e w' ⟨rfl, m, rfl⟩) | fail)
      go_ret2
      exact ⟨rfl, _, rfl⟩
end Go.Proofs.Ytehjekcfhmmggaa

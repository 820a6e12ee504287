/-
  A scheduler's small functions: none, has, of, under, running, and the two closures. No conditions.
-/
import Derived.Test.YtehjekcfhmmggaaCre1
import Derived.Deep.LoopGhost
namespace Go.Proofs.Ytehjekcfhmmggaa
open Go.RowKit
open Go.Maps (Keyed)

theorem law3 : Keyed Try.prog 3 := Maps.int_keyed Try.underlying3
theorem key3 {id : Int} (h : (Lit.int .i64 id).wf = true) : keyOf Try.prog 3 (.int .i64 id) = some (.int .i64 id) := by
  simp [keyOf, Try.underlying3, mapKey, h]
theorem zero62 (w : World) : (zeroValue 62).run Try.prog w = .ok (.pointer none) w := by kernel_rfl

set_option maxHeartbeats 400000 in
theorem none_no (w : World) (cb mb : Nat) (c1 : w.cell? ⟨cb, 2, none⟩ = some (.map (some mb))) : Calls Try.prog 26 #[.pointer (some ⟨cb, 0, none⟩)] w fun e w' => e = .returned (.bool false) ∧ w = w' := by
  have he : ∀ (w : World) (r : Option Nat), (binOp .eql 36 (.map r) (.map none)).run Try.prog w = .ok (.bool r.isNone) w := fun w r => run_eql_map_nil w _ _ _ r Try.underlying36
  go_enter Try.func26, Try.ntmps26
  go_wp2
  go_ret
  exact ⟨rfl, rfl⟩

/-- Is there such a core? -/
def inR (n : Nat) (i : Int) : Bool := decide (0 ≤ i ∧ i < n)

theorem inR_nat {n : Nat} {i : Int} (h : inR n i = true) : ∃ k : Nat, i = k ∧ k < n := by
  unfold inR at h
  have := of_decide_eq_true h
  exact ⟨i.toNat, by omega, by omega⟩
theorem inR_of {n k : Nat} (h : k < n) : inR n (k : Int) = true := by unfold inR; exact decide_eq_true ⟨by omega, by omega⟩

theorem CAt.find {S : Nat → Prop} {w : World} {cb : Nat} {l : Lay} {per n : Nat} {s : CS} (h : CAt S w cb l per n s) {id : Int} (hw : (Lit.int .i64 id).wf = true) :
    (Instr.lookup 36 (.map (some l.mb)) (.int .i64 id) true).run Try.prog w = .ok (.tuple #[((findO s.L id).map fun _ => Value.pointer (some ⟨l.pb id, 0, none⟩)).getD (.pointer none), .bool (findO s.L id).isSome]) w ∧
    (Instr.lookup 36 (.map (some l.mb)) (.int .i64 id) false).run Try.prog w = .ok (((findO s.L id).map fun _ => Value.pointer (some ⟨l.pb id, 0, none⟩)).getD (.pointer none)) w := by
  have := h.map.look law3 Try.underlying36 zero62 (key3 hw)
  rw [lookF_id, Option.isSome_map] at this
  exact this
theorem CAt.found {S : Nat → Prop} {w : World} {cb : Nat} {l : Lay} {per n : Nat} {s : CS} (h : CAt S w cb l per n s) {id : Int} (hw : (Lit.int .i64 id).wf = true) {x : One} (hx : findO s.L id = some x) :
    (Instr.lookup 36 (.map (some l.mb)) (.int .i64 id) true).run Try.prog w = .ok (.tuple #[.pointer (some ⟨l.pb id, 0, none⟩), .bool true]) w ∧
    (Instr.lookup 36 (.map (some l.mb)) (.int .i64 id) false).run Try.prog w = .ok (.pointer (some ⟨l.pb id, 0, none⟩)) w := by
  have := h.find hw
  rw [hx] at this
  exact this
theorem CAt.lost {S : Nat → Prop} {w : World} {cb : Nat} {l : Lay} {per n : Nat} {s : CS} (h : CAt S w cb l per n s) {id : Int} (hw : (Lit.int .i64 id).wf = true) (hx : findO s.L id = none) :
    (Instr.lookup 36 (.map (some l.mb)) (.int .i64 id) true).run Try.prog w = .ok (.tuple #[.pointer none, .bool false]) w ∧
    (Instr.lookup 36 (.map (some l.mb)) (.int .i64 id) false).run Try.prog w = .ok (.pointer none) w := by
  have := h.find hw
  rw [hx] at this
  exact this

section
variable (S : Nat → Prop) (w : World) (cb : Nat) (l : Lay) (per n : Nat) (s : CS) (h : CAt S w cb l per n s)
include h

set_option maxHeartbeats 400000 in
theorem has_c (i : Int) (_ : n ≤ 8) : Calls Try.prog 27 #[.pointer (some ⟨cb, 0, none⟩), .int .i64 i] w fun e w' => e = .returned (.bool (inR n i)) ∧ w = w' := by
  obtain ⟨c0, c1, c2, c3, _⟩ := h.c
  have HN := hid (none_no w cb l.mb c2)
  clear h
  by_cases h1 : 0 ≤ i
  · by_cases h2 : i < n
    · have e : inR n i = true := decide_eq_true ⟨h1, h2⟩
      rw [e]
      clear e
      go_enter Try.func27, Try.ntmps27
      go_wp2_with (first | (go_at_call 26; refine HN.out.mono ?_; rintro e w' ⟨rfl, rfl⟩) | fail)
      go_ret
      exact ⟨rfl, rfl⟩
    · have e : inR n i = false := decide_eq_false (by omega)
      rw [e]
      clear e
      have H2 := hid (decide_eq_false h2)
      go_enter Try.func27, Try.ntmps27
      go_wp2_with (first | (go_at_call 26; refine HN.out.mono ?_; rintro e w' ⟨rfl, rfl⟩) | fail)
      go_ret
      exact ⟨congrArg (fun b => Ending.returned (.bool b)) H2.out, rfl⟩
  · have e : inR n i = false := decide_eq_false (by omega)
    rw [e]
    clear e
    go_enter Try.func27, Try.ntmps27
    go_wp2_with (first | (go_at_call 26; refine HN.out.mono ?_; rintro e w' ⟨rfl, rfl⟩) | fail)
    go_ret
    exact ⟨rfl, rfl⟩

set_option maxHeartbeats 400000 in
theorem of_yes (id : Int) (hw : (Lit.int .i64 id).wf = true) (x : One) (hx : findO s.L id = some x) : Calls Try.prog 29 #[.pointer (some ⟨cb, 0, none⟩), .int .i64 id] w fun e w' => e = .returned (.tuple #[.pointer (some ⟨l.pb id, 0, none⟩), .int .i64 0]) ∧ w = w' := by
  obtain ⟨c0, c1, c2, c3, _⟩ := h.c
  have HN := hid (none_no w cb l.mb c2)
  have hl := (h.found hw hx).1
  clear h hw hx
  go_enter Try.func29, Try.ntmps29
  go_wp2_with (first | (go_at_call 26; refine HN.out.mono ?_; rintro e w' ⟨rfl, rfl⟩) | fail)
  go_ret2
  exact ⟨rfl, rfl⟩

set_option maxHeartbeats 400000 in
theorem of_no (id : Int) (hw : (Lit.int .i64 id).wf = true) (hx : findO s.L id = none) : Calls Try.prog 29 #[.pointer (some ⟨cb, 0, none⟩), .int .i64 id] w fun e w' => e = .returned (.tuple #[.pointer none, .int .i64 14]) ∧ w = w' := by
  obtain ⟨c0, c1, c2, c3, _⟩ := h.c
  have HN := hid (none_no w cb l.mb c2)
  have hl := (h.lost hw hx).1
  clear h hw hx
  go_enter Try.func29, Try.ntmps29
  go_wp2_with (first | (go_at_call 26; refine HN.out.mono ?_; rintro e w' ⟨rfl, rfl⟩) | fail)
  go_ret2
  exact ⟨rfl, rfl⟩

set_option maxHeartbeats 400000 in
/-- under: a credit of nought or more. -/
theorem under_c (x : One) (hx : x ∈ s.L) (hw : (Lit.int .i64 x.id).wf = true) : Calls Try.prog 31 #[.pointer (some ⟨cb, 0, none⟩), .int .i64 x.id] w fun e w' => e = .returned (.bool (decide (0 ≤ x.credit))) ∧ w = w' := by
  obtain ⟨c0, c1, c2, c3, _⟩ := h.c
  obtain ⟨y, hy⟩ := findO_some hx
  have hl := (h.found hw hy).2
  obtain ⟨_, _, _, k3, _⟩ := h.x hx
  clear h hw hx hy
  by_cases hc : x.credit ≥ 0
  · rw [decide_eq_true (show 0 ≤ x.credit from hc)]
    go_enter Try.func31, Try.ntmps31
    go_wp2_with fail
    go_ret
    exact ⟨rfl, rfl⟩
  · rw [decide_eq_false (show ¬ 0 ≤ x.credit from hc)]
    go_enter Try.func31, Try.ntmps31
    go_wp2_with fail
    go_ret
    exact ⟨rfl, rfl⟩

set_option maxHeartbeats 400000 in
theorem running_out (i : Int) (hn : n ≤ 8) (hi : inR n i = false) : Calls Try.prog 34 #[.pointer (some ⟨cb, 0, none⟩), .int .i64 i] w fun e w' => e = .returned (.tuple #[.pointer none, .int .i64 2]) ∧ w = w' := by
  obtain ⟨c0, c1, c2, c3, _⟩ := h.c
  have HN := hid (none_no w cb l.mb c2)
  have HH := hid (has_c S w cb l per n s h i hn)
  rw [hi] at HH
  clear h hi
  go_enter Try.func34, Try.ntmps34
  go_wp2_with (first | (go_at_call 26; refine HN.out.mono ?_; rintro e w' ⟨rfl, rfl⟩) | (go_at_call 27; refine HH.out.mono ?_; rintro e w' ⟨rfl, rfl⟩) | fail)
  go_ret2
  exact ⟨rfl, rfl⟩

set_option maxHeartbeats 400000 in
theorem running_no (i : Nat) (hn : n ≤ 8) (hi : i < n) (hb : s.bs i = false) : Calls Try.prog 34 #[.pointer (some ⟨cb, 0, none⟩), .int .i64 (i : Int)] w fun e w' => e = .returned (.tuple #[.pointer none, .int .i64 14]) ∧ w = w' := by
  obtain ⟨c0, c1, c2, c3, _⟩ := h.c
  have HN := hid (none_no w cb l.mb c2)
  have HH := hid (has_c S w cb l per n s h i hn)
  rw [inR_of hi] at HH
  obtain ⟨k0, k1, k2, k3, _⟩ := h.k hi
  rw [hb] at k2
  have hi2 : ((i : Int) < (n : Int)) := by omega
  clear h hb
  go_enter Try.func34, Try.ntmps34
  go_wp2_with (first | (go_at_call 26; refine HN.out.mono ?_; rintro e w' ⟨rfl, rfl⟩) | (go_at_call 27; refine HH.out.mono ?_; rintro e w' ⟨rfl, rfl⟩) | fail)
  go_ret2
  exact ⟨rfl, rfl⟩

set_option maxHeartbeats 400000 in
theorem running_yes (i : Nat) (hn : n ≤ 8) (hi : i < n) (hb : s.bs i = true) (hw : (Lit.int .i64 (s.rv i)).wf = true) (x : One) (hx : findO s.L (s.rv i) = some x) : Calls Try.prog 34 #[.pointer (some ⟨cb, 0, none⟩), .int .i64 (i : Int)] w fun e w' => e = .returned (.tuple #[.pointer (some ⟨l.pb (s.rv i), 0, none⟩), .int .i64 0]) ∧ ∃ m, w' = w.drewN m := by
  obtain ⟨c0, c1, c2, c3, _⟩ := h.c
  have HN := hid (none_no w cb l.mb c2)
  have HH := hid (has_c S w cb l per n s h i hn)
  rw [inR_of hi] at HH
  obtain ⟨k0, k1, k2, k3, _⟩ := h.k hi
  rw [hb] at k2
  have hi2 : ((i : Int) < (n : Int)) := by omega
  have hl : ∀ m, (Instr.lookup 36 (.map (some l.mb)) (.int .i64 (s.rv i)) false).run Try.prog (w.drewN m) = .ok (.pointer (some ⟨l.pb (s.rv i), 0, none⟩)) (w.drewN m) := fun m => ((h.of_heap (w' := w.drewN m) (fun _ _ _ => rfl)).found hw hx).2
  clear h hb hw hx
  generalize s.rv i = r at *
  go_enter Try.func34, Try.ntmps34
  go_wp2_with (first | (go_at_call 26; refine HN.out.mono ?_; rintro e w' ⟨rfl, rfl⟩) | (go_at_call 27; refine HH.out.mono ?_; rintro e w' ⟨rfl, rfl⟩) | fail)
  go_quiet (fail)
  go_wp2_with fail
  go_ret2
  exact ⟨rfl, _, rfl⟩
end

/-- The closure of Pick. -/
theorem all_c (w : World) (x : Int) : Calls Try.prog 32 #[.int .i64 x] w fun e w' => e = .returned (.bool true) ∧ w = w' := by
  go_enter Try.func32, Try.ntmps32
  go_wp2
  go_ret
  exact ⟨rfl, rfl⟩

/-- The closure of out. -/
theorem same_c (w : World) (x id : Int) (B : Nat) (hc : w.cell? ⟨B, 0, none⟩ = some (.int .i64 id)) : Calls Try.prog 50 #[.int .i64 x, .pointer (some ⟨B, 0, none⟩)] w fun e w' => e = .returned (.bool (decide (x = id))) ∧ w = w' := by
  by_cases h : x = id
  · rw [decide_eq_true h]
    have h2 : (x == id) = true := by simpa using h
    clear h
    go_enter Try.func50, Try.ntmps50
    go_wp2_with fail
    go_ret
    exact ⟨rfl, rfl⟩
  · rw [decide_eq_false h]
    have h2 : (x == id) = false := by simpa using h
    clear h
    go_enter Try.func50, Try.ntmps50
    go_wp2_with fail
    go_ret
    exact ⟨rfl, rfl⟩
end Go.Proofs.Ytehjekcfhmmggaa

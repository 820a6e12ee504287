/-
  The console as an object of the law's own, and its functions' contracts over it. No conditions.
-/
import Derived.Test.YtmlmmcfalglbhaaCon2
namespace Go.Proofs.Ytmlmmcfalglbhaa
open Go.RowKit

/-- A console at block cb, all of its blocks in S. -/
def CON (w : World) (cb : Nat) (S : Nat → Prop) (s : Con) : Prop :=
  ∃ wa wc oa oc, ConAt w cb wa wc oa oc s ∧ S cb ∧ (∀ g, blk wa = some g → S g) ∧ (∀ g, blk oa = some g → S g) ∧ s.waits.length ≤ 4096 ∧ s.out.length ≤ 1048576

theorem CON.lt {w : World} {cb : Nat} {S : Nat → Prop} {s : Con} (h : CON w cb S s) : cb < w.heap.size := by
  obtain ⟨wa, wc, oa, oc, h, _⟩ := h
  exact heap_lt h.cells
theorem CON.len {w : World} {cb : Nat} {S : Nat → Prop} {s : Con} (h : CON w cb S s) : s.waits.length ≤ 4096 ∧ s.out.length ≤ 1048576 := by
  obtain ⟨wa, wc, oa, oc, _, _, _, _, h⟩ := h
  exact h

/-- What happens elsewhere leaves a console as it is. -/
theorem CON.kept {w w' : World} {cb : Nat} {S T : Nat → Prop} {s : Con} (h : CON w cb S s) (hf : Fr T w w') (hd : ∀ k, k < w.heap.size → S k → ¬ T k) : CON w' cb S s := by
  obtain ⟨wa, wc, oa, oc, h, h1, h2, h3, h4⟩ := h
  have hcb := heap_lt h.cells
  refine ⟨wa, wc, oa, oc, ⟨?_, ?_, ?_, h.wne, h.one, h.apart⟩, h1, h2, h3, h4⟩
  · rw [hf.block cb hcb (hd cb hcb h1)]; exact h.cells
  · refine owns_of_heap h.wrow (fun g hg => ?_)
    rw [ownBlock_slice] at hg
    exact hf.block g (owns_lt h.wrow g hg) (hd g (owns_lt h.wrow g hg) (h2 g hg))
  · refine owns_of_heap h.orow (fun g hg => ?_)
    rw [ownBlock_slice] at hg
    exact hf.block g (owns_lt h.orow g hg) (hd g (owns_lt h.orow g hg) (h3 g hg))

def con0 : Con := ⟨[], [], 0, 0, 0, 0⟩

theorem CON_new (w : World) (S : Nat → Prop) (hS : ∀ k, w.heap.size ≤ k → S k) :
    CON (w.alloc (.cells #[.bool true, .slice none 0 0, .slice none 0 0, .int .i64 0, .int .i64 0, .int .i64 0, .int .i64 0] 39)) w.heap.size S con0 :=
  ⟨none, 0, none, 0, ⟨heap_alloc_new w _, World.ownsRow_nil _ _ _ _, World.ownsRow_nil _ _ _ _, by simp, by simp, (fun g hg => by cases hg)⟩, hS _ (Nat.le_refl _), (fun g hg => by cases hg), (fun g hg => by cases hg), by simp [con0], by simp [con0]⟩

theorem taken_le (s : Con) (b : List UInt8) : s.taken b ≤ b.length ∧ s.waits.length ≤ 4096 → s.waits.length + s.taken b ≤ 4096 := by
  unfold Con.taken; omega

theorem c_input (w : World) (cb : Nat) (S : Nat → Prop) (s : Con) (h : CON w cb S s) (hS : ∀ k, w.heap.size ≤ k → S k) (bo : Option Addr) (bl bc : Nat) (b : List UInt8) (hb : Src w bo b) (hl : b.length = bl) (h2 : bl ≤ bc) (h3 : bc ≤ 9223372036854775807) :
    Calls Try.prog 8 #[.pointer (some ⟨cb, 0, none⟩), .slice bo bl bc] w fun e w' => e = .returned (.tuple #[.int .i64 (s.taken b), .int .i64 0]) ∧ Hid (CON w' cb S (s.input b)) ∧ Hid (Fr S w w') := by
  obtain ⟨wa, wc, oa, oc, h, h1, hw, ho, l1, l2⟩ := h
  subst hl
  refine (input_any w cb wa wc oa oc s h bo bc b hb l1 h2 h3).mono ?_
  rintro e w' ⟨rfl, wa', wc', hc, hf, ha⟩
  refine ⟨rfl, ⟨wa', wc', oa, oc, hc, h1, fun g hg => ?_, ho, ?_, l2⟩, hf.mono ?_⟩
  · rcases ha g hg with h | h
    · exact hw g h
    · exact hS g h
  · simp [Con.input, Con.taken]; omega
  · rintro k _ (rfl | h)
    · exact h1
    · exact hw k h

theorem c_write (w : World) (cb : Nat) (S : Nat → Prop) (s : Con) (h : CON w cb S s) (hS : ∀ k, w.heap.size ≤ k → S k) (bo : Option Addr) (bl bc : Nat) (b : List UInt8) (hb : Src w bo b) (hl : b.length = bl) (h2 : bl ≤ bc) (h3 : bc ≤ 9223372036854775807) :
    Calls Try.prog 11 #[.pointer (some ⟨cb, 0, none⟩), .slice bo bl bc] w fun e w' => e = .returned (.tuple #[.int .i64 (s.put b), .int .i64 0]) ∧ Hid (CON w' cb S (s.write b)) ∧ Hid (Fr S w w') := by
  obtain ⟨wa, wc, oa, oc, h, h1, hw, ho, l1, l2⟩ := h
  subst hl
  refine (write_any w cb wa wc oa oc s h bo bc b hb l2 h2 h3).mono ?_
  rintro e w' ⟨rfl, oa', oc', hc, hf, ha⟩
  refine ⟨rfl, ⟨wa, wc, oa', oc', hc, h1, hw, fun g hg => ?_, l1, ?_⟩, hf.mono ?_⟩
  · rcases ha g hg with h | h
    · exact ho g h
    · exact hS g h
  · simp [Con.write, Con.put]; omega
  · rintro k _ (rfl | h)
    · exact h1
    · exact ho k h

/-- A slice that the call gave: its cells. -/
structure Got (w : World) (S : Nat → Prop) (v : Value) (xs : List UInt8) (l : Nat) : Prop where
  len : xs.length = l
  form : ∃ ro cap, v = .slice ro l cap ∧ Src w ro xs ∧ l ≤ cap ∧ cap ≤ 9223372036854775807 ∧ ∀ g, blk ro = some g → S g ∧ g < w.heap.size

theorem got_of_owns {w : World} {base : Nat} {ro : Option Addr} {l cap : Nat} {xs : List UInt8} {S : Nat → Prop} (h : w.ownsRow base 5 1 (.slice ro l cap) l (bv xs)) (hS : ∀ k, base ≤ k → S k) : Src w ro xs ∧ xs.length = l ∧ l ≤ cap ∧ cap ≤ 9223372036854775807 ∧ ∀ g, blk ro = some g → S g ∧ g < w.heap.size := by
  have hlen : xs.length = l := by have := h.1; unfold bv at this; rw [List.length_map] at this; omega
  have hh := owns_len h
  unfold maxLen at hh
  refine ⟨⟨fun e => ?_, fun ad had j u hu => ?_⟩, hlen, hh.2.1, hh.2.2.1, fun g hg => ?_⟩
  · have := hh.2.2.2 e
    exact List.eq_nil_of_length_eq_zero (by omega)
  · rw [had] at h
    have hc := h.cells (g := ad.block) (by rw [ownBlock_slice]; rfl) j u hu
    have had' : ad = ⟨ad.block, 0, none⟩ := by
      rcases h.2 with ⟨hv, _⟩ | ⟨g, cap, cur, hv, _⟩
      · cases hv
      · simp only [Value.slice.injEq, Option.some.injEq] at hv
        rw [hv.1]
    rw [had']
    exact hc
  · have := h.lt g (by rw [ownBlock_slice]; exact hg)
    exact ⟨hS g this.1, this.2⟩

theorem c_read (w : World) (cb : Nat) (S : Nat → Prop) (s : Con) (h : CON w cb S s) (hS : ∀ k, w.heap.size ≤ k → S k) (n : Int) :
    Calls Try.prog 9 #[.pointer (some ⟨cb, 0, none⟩), .int .i64 n] w fun e w' => ∃ ro cap, e = .returned (.slice ro (s.reads n) cap) ∧ Hid (Src w' ro (s.waits.take (s.reads n)) ∧ (s.waits.take (s.reads n)).length = s.reads n) ∧ s.reads n ≤ cap ∧ cap ≤ 9223372036854775807 ∧ Hid (CON w' cb S (s.rest n)) ∧ Hid (Fr S w w') := by
  obtain ⟨wa, wc, oa, oc, h, h1, hw, ho, l1, l2⟩ := h
  by_cases hn : n < 1
  · have c0 := cell_at (o := 0) h.cells
    simp at c0
    refine (read_no w cb n c0 hn).mono ?_
    rintro e w' ⟨rfl, rfl⟩
    have e0 : s.reads n = 0 := by simp [Con.reads, hn]
    rw [e0]
    refine ⟨none, 0, rfl, ⟨⟨fun _ => by simp, fun ad had => by cases had⟩, by simp⟩, Nat.le_refl _, by omega, ?_, Fr.refl _ _⟩
    have er : s.rest n = s := by simp [Con.rest, e0, hn]
    rw [er]
    exact ⟨wa, wc, oa, oc, h, h1, hw, ho, l1, l2⟩
  · refine (read_yes w cb wa wc oa oc s h n hn l1).mono ?_
    rintro e w' ⟨rfl, hown, hc, hf⟩
    have hg := got_of_owns (S := S) hown hS
    refine ⟨_, _, rfl, ⟨hg.1, hg.2.1⟩, hg.2.2.1, hg.2.2.2.1, ⟨wa, wc, oa, oc, hc, h1, hw, ho, ?_, l2⟩, hf.mono ?_⟩
    · simp [Con.rest]; omega
    · rintro k _ (rfl | h)
      · exact h1
      · exact hw k h

theorem c_counts (w : World) (cb : Nat) (S : Nat → Prop) (s : Con) (h : CON w cb S s) :
    Calls Try.prog 10 #[.pointer (some ⟨cb, 0, none⟩)] w fun e w' => e = .returned s.counts ∧ Hid (CON w' cb S s) ∧ Hid (Fr (fun _ => False) w w') := by
  have H := h
  obtain ⟨wa, wc, oa, oc, h, h1, hw, ho, l1, l2⟩ := h
  refine (counts_any w cb wa wc oa oc s h).mono ?_
  rintro e w' ⟨rfl, hf⟩
  exact ⟨rfl, H.kept hf (fun _ _ _ h => h), hf⟩

theorem c_written (w : World) (cb : Nat) (S : Nat → Prop) (s : Con) (h : CON w cb S s) :
    Calls Try.prog 12 #[.pointer (some ⟨cb, 0, none⟩)] w fun e w' => ∃ ro cap, e = .returned (.slice ro s.out.length cap) ∧ Hid (w'.ownsRow w.heap.size 5 1 (.slice ro s.out.length cap) s.out.length (bv s.out)) ∧ Hid (CON w' cb S s) ∧ Hid (Fr (fun _ => False) w w') := by
  have H := h
  obtain ⟨wa, wc, oa, oc, h, h1, hw, ho, l1, l2⟩ := h
  refine (written_any w cb wa wc oa oc s h l2).mono ?_
  rintro e w' ⟨ro, cap, rfl, hown, hf⟩
  exact ⟨ro, cap, rfl, hown, H.kept hf (fun _ _ _ h => h), hf⟩

end Go.Proofs.Ytmlmmcfalglbhaa

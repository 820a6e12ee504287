/-
  The reference's Put at a key that is kept. No conditions.
-/
import Derived.Test.YtelbbfogeimekaaCref2
namespace Go.Proofs.Ytelbbfogeimekaa
open Go.RowKit

theorem its_set : ∀ {L : List (Ent Int Int)} {j : Nat} {e : Ent Int Int} (v : Int), L[j]? = some e → its (L.set j ⟨e.g, e.k, v⟩) = (its L).set (j * 3 + 2) (.int .i64 v)
  | [], _, _, _, h => by cases h
  | x :: L, 0, e, v, h => by
    obtain rfl : x = e := by simpa using h
    rfl
  | x :: L, j + 1, e, v, h => by
    have := its_set (L := L) (j := j) (e := e) v (by simpa using h)
    rw [show (j + 1) * 3 + 2 = j * 3 + 2 + 1 + 1 + 1 by omega]
    simp only [List.set_cons_succ, its]
    rw [this]

set_option maxHeartbeats 1000000 in
theorem put_refold (S : Nat → Prop) (w : World) (rb room : Nat) (L : List (Ent Int Int)) (h : REF S w rb room L) (g k v : Int) (hh : hasE L g k = true) : Calls Try.prog 15 #[.pointer (some ⟨rb, 0, none⟩), .int .i64 g, .int .u64 k, .int .i64 v] w fun e w' => e = .returned (.tuple #[]) ∧ Hid (REF S w' rb room (setE L g k v)) ∧ Hid (Fr S w w') := by
  have HA := hid (at_ref S w rb room L h g k)
  obtain ⟨so, sc, h⟩ := h
  obtain ⟨c0, c1, f⟩ := h.locs
  have hcap := h.seg.2.1
  have hmx := h.seg.2.2.1
  unfold maxLen at hmx
  obtain ⟨e, he, hi, _⟩ := idxE_at hh
  have hlt := idxE_lt hh
  obtain ⟨b, off, hb, k1, k2, k3⟩ := h.item he
  have hset : setE L g k v = L.set (idxE L g k) ⟨e.g, e.k, v⟩ := by
    obtain ⟨a1, a2⟩ := isE_iff.1 hi
    unfold setE
    rw [a1, a2]
  subst hb
  have fz : ∀ o, w.frozen? ⟨b, o, none⟩ = false := fun o => h.seg.thaw rfl
  rw [hh] at HA
  simp only [↓reduceIte] at HA
  have hend : Hid (REF S (w.setCell ⟨b, off + idxE L g k * 3 + 2, none⟩ (.int .i64 v)) rb room (setE L g k v) ∧ Fr S w (w.setCell ⟨b, off + idxE L g k * 3 + 2, none⟩ (.int .i64 v))) := by
    refine ⟨⟨some ⟨b, off, none⟩, sc, ?_, ?_, h.ne, h.mine⟩, (Fr.refl S w).setCell (fun _ => h.mine.2 b rfl) _⟩
    · rw [heap_set_ne (fun e => h.ne (by rw [← show rb = b from e]; rfl)), hset, List.length_set]; exact h.cells
    · have := h.seg.set rfl (idxE L g k * 3 + 2) (.int .i64 v)
      rw [← its_set v he, ← hset, ← Nat.add_assoc] at this
      rw [show (setE L g k v).length = L.length by simp [setE]]
      exact this
  obtain ⟨q, hq⟩ : ∃ q, q = idxE L g k := ⟨_, rfl⟩
  rw [← hq] at HA k1 k2 k3 hlt hend
  have hql : ((q : Int) < (L.length : Int)) := by omega
  have hq0 : ((q : Int) ≥ 0) := by omega
  clear h hh he hq hset hi
  go_enter Try.func15, Try.ntmps15
  go_wp2_with (first
    | (go_at_call 33; refine HA.out.mono ?_; rintro e w' ⟨rfl, rfl⟩)
    | fail)
  exact bodyPost_ret (v := .tuple #[]) (by kernel_rfl) rfl ⟨rfl, hend.out.1, hend.out.2⟩
end Go.Proofs.Ytelbbfogeimekaa

/-
  All that stand in queues or run: none stands there twice. Plain; no program; no conditions.
-/
import Derived.Test.YtehjekcfhmmggaaCreG
namespace Go.Proofs.Ytehjekcfhmmggaa

def tailL (s : CS) (k : Nat) : List Int := if s.bs k = true then [s.rv k] else []
def allL (s : CS) : Nat → List Int
  | 0 => []
  | k + 1 => (allL s k ++ s.Q k) ++ tailL s k

theorem allL_mem {s : CS} : ∀ {k : Nat} {y : Int}, y ∈ allL s k → ∃ i, i < k ∧ (y ∈ s.Q i ∨ (s.bs i = true ∧ y = s.rv i))
  | 0, y, h => by cases h
  | k + 1, y, h => by
    rcases List.mem_append.1 h with h | h
    · rcases List.mem_append.1 h with h | h
      · obtain ⟨i, hi, e⟩ := allL_mem h
        exact ⟨i, by omega, e⟩
      · exact ⟨k, by omega, .inl h⟩
    · unfold tailL at h
      split at h
      · rename_i hb
        exact ⟨k, by omega, .inr ⟨hb, List.mem_singleton.1 h⟩⟩
      · cases h

section
variable {per n : Nat} {s : CS} (ok : OKs per n s)
include ok

theorem all_who {i : Nat} (hi : i < n) {y : Int} (h : y ∈ s.Q i ∨ (s.bs i = true ∧ y = s.rv i)) : ∃ x ∈ s.L, x.id = y ∧ x.core = i ∧ ((y ∈ s.Q i ∧ x.state = 1) ∨ (y = s.rv i ∧ x.state = 2)) := by
  rcases h with h | ⟨hb, rfl⟩
  · obtain ⟨x, hx, e1, e2, e3⟩ := ok.qin i hi y h
    exact ⟨x, hx, e1, e3, .inl ⟨h, e2⟩⟩
  · obtain ⟨x, hx, e1, e2, e3, _⟩ := ok.runner hi hb
    exact ⟨x, hx, e1, e3, .inr ⟨rfl, e2⟩⟩

theorem allL_nodup : ∀ {k : Nat}, k ≤ n → (allL s k).Nodup
  | 0, _ => List.Pairwise.nil
  | k + 1, hk => by
    have ih := allL_nodup (k := k) (by omega)
    have far : ∀ y, y ∈ allL s k → ∀ x ∈ s.L, x.id = y → x.core < k := by
      intro y hy x hx e
      obtain ⟨i, hi, h⟩ := allL_mem hy
      obtain ⟨z, hz, e1, e2, _⟩ := all_who ok (by omega) h
      rw [ok.apart.one hx hz (by rw [e, e1]), e2]
      exact hi
    refine List.nodup_append.2 ⟨List.nodup_append.2 ⟨ih, ok.qone k (by omega), ?_⟩, ?_, ?_⟩
    · intro a ha b hb e
      subst e
      obtain ⟨x, hx, e1, e2, e3⟩ := ok.qin k (by omega) a hb
      have := far a ha x hx e1
      omega
    · unfold tailL
      split <;> simp
    · intro a ha b hb e
      subst e
      unfold tailL at hb
      split at hb
      · rename_i hbs
        have hb := List.mem_singleton.1 hb
        obtain ⟨x, hx, e1, e2, e3, _⟩ := ok.runner (by omega) hbs
        rcases List.mem_append.1 ha with ha | ha
        · have := far a ha x hx (by rw [e1, hb])
          omega
        · obtain ⟨z, hz, f1, f2, f3⟩ := ok.qin k (by omega) a ha
          have := ok.apart.one hx hz (by rw [e1, f1, hb])
          rw [this, f2] at e2
          revert e2; decide
      · cases hb

theorem allL_few {k : Nat} (hk : k ≤ n) : (allL s k).length ≤ 64 := by
  have := nodup_le (ys := s.L.map (·.id)) (allL_nodup ok hk) (fun y hy => by
    obtain ⟨i, hi, h⟩ := allL_mem hy
    obtain ⟨x, hx, e, _⟩ := all_who ok (by omega) h
    exact List.mem_map.2 ⟨x, hx, e⟩)
  rw [List.length_map] at this
  exact Nat.le_trans this ok.few

theorem allL_ne {i j : Nat} {x y : Int} (hi : (allL s n)[i]? = some x) (hj : (allL s n)[j]? = some y) (h : j < i) : y ≠ x := by
  have hn := allL_nodup ok (Nat.le_refl n)
  obtain ⟨hi1, hi2⟩ := List.getElem?_eq_some_iff.1 hi
  obtain ⟨hj1, hj2⟩ := List.getElem?_eq_some_iff.1 hj
  have := (List.pairwise_iff_getElem.1 hn) j i hj1 hi1 h
  rw [hi2, hj2] at this
  exact this
end
end Go.Proofs.Ytehjekcfhmmggaa

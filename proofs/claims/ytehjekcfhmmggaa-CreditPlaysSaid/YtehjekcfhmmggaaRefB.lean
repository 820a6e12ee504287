/-
  The order in which the reference's Pick lists those that are ready. Plain; no program; no conditions.
-/
import Derived.Test.YtehjekcfhmmggaaRefA
namespace Go.Proofs.Ytehjekcfhmmggaa

def catQ (s : CS) (n k : Nat) : Nat → List Int
  | 0 => []
  | i + 1 => catQ s n k i ++ s.Q ((k + i) % n)

theorem seek_cat (s : CS) (n k : Nat) (p : Int → Bool) : ∀ i, i ≤ n → (catQ s n k n).find? p = ((catQ s n k i).find? p).or (seek s n k p i) := by
  have down : ∀ d i, n - i = d → i ≤ n → (catQ s n k n).find? p = ((catQ s n k i).find? p).or (seek s n k p i) := by
    intro d
    induction d with
    | zero =>
      intro i hd hi
      obtain rfl : i = n := by omega
      rw [seek_end, Option.or_none]
    | succ d ih =>
      intro i hd hi
      rw [ih (i + 1) (by omega) (by omega), seek_step (by omega : i < n)]
      show ((catQ s n k i ++ s.Q ((k + i) % n)).find? p).or _ = _
      rw [List.find?_append, Option.or_assoc]
  intro i hi
  exact down _ i rfl hi
theorem first_cat (s : CS) (n k : Nat) (p : Int → Bool) : firstQ s n k p = (catQ s n k n).find? p := by
  rw [seek_cat s n k p 0 (Nat.zero_le _)]
  rfl
theorem head_cat (s : CS) (n k : Nat) : ((catQ s n k n).filter (underP s) ++ catQ s n k n).head? = pickO s n k := by
  unfold pickO
  rw [first_cat, first_cat, List.head?_append, List.head?_filter]
  congr 1
  cases catQ s n k n <;> rfl
theorem cat_len {s : CS} {n k : Nat} (hn : 0 < n) (h : ∀ i, i < n → (s.Q i).length ≤ 64) : ∀ i, (catQ s n k i).length ≤ i * 64
  | 0 => Nat.zero_le _
  | i + 1 => by
    have h1 := cat_len (k := k) hn h i
    have h2 := h ((k + i) % n) (Nat.mod_lt _ hn)
    show (catQ s n k i ++ s.Q ((k + i) % n)).length ≤ _
    rw [List.length_append]
    omega

/-- The order as it stands in round r, queue i, place t. -/
def ordO (s : CS) (n k r i t : Nat) : List Int :=
  if r = 0 then (catQ s n k i ++ (s.Q ((k + i) % n)).take t).filter (underP s) else (catQ s n k n).filter (underP s) ++ (catQ s n k i ++ (s.Q ((k + i) % n)).take t)
theorem ordO_zero (s : CS) (n k : Nat) : ordO s n k 0 0 0 = [] := by simp [ordO, catQ]
theorem ordO_step {s : CS} {n k r i t : Nat} {y : Int} (hy : (s.Q ((k + i) % n))[t]? = some y) : ordO s n k r i (t + 1) = if r ≠ 0 ∨ underP s y = true then ordO s n k r i t ++ [y] else ordO s n k r i t := by
  unfold ordO
  rw [List.take_add_one, hy]
  by_cases hr : r = 0
  · rw [if_pos hr, if_pos hr]
    by_cases hu : underP s y = true
    · rw [if_pos (.inr hu)]
      simp [List.filter_append, hu]
    · rw [if_neg (by simp [hr, hu])]
      simp [List.filter_append, hu]
  · rw [if_neg hr, if_neg hr, if_pos (.inl hr)]
    simp
theorem ordO_queue (s : CS) (n k r i t : Nat) (h : (s.Q ((k + i) % n)).length ≤ t) : ordO s n k r i t = ordO s n k r (i + 1) 0 := by
  unfold ordO
  rw [List.take_of_length_le h]
  simp [catQ]
theorem ordO_round (s : CS) (n k : Nat) : ordO s n k 0 n 0 = ordO s n k 1 0 0 := by simp [ordO, catQ]
theorem ordO_end (s : CS) (n k : Nat) : ordO s n k 1 n 0 = (catQ s n k n).filter (underP s) ++ catQ s n k n := by simp [ordO]

/-- The order at the head of round q. -/
def ordR (s : CS) (n k q : Nat) : List Int := if q = 0 then [] else if q = 1 then (catQ s n k n).filter (underP s) else (catQ s n k n).filter (underP s) ++ catQ s n k n
theorem ordR_in {s : CS} {n k q : Nat} (h : q < 2) : ordO s n k q 0 0 = ordR s n k q := by
  have : q = 0 ∨ q = 1 := by omega
  rcases this with rfl | rfl <;> simp [ordO, ordR, catQ]
theorem ordR_out {s : CS} {n k q : Nat} (h : q < 2) : ordO s n k q n 0 = ordR s n k (q + 1) := by
  have : q = 0 ∨ q = 1 := by omega
  rcases this with rfl | rfl <;> simp [ordO, ordR]
theorem ordR_two (s : CS) (n k : Nat) : ordR s n k 2 = (catQ s n k n).filter (underP s) ++ catQ s n k n := by simp [ordR]
end Go.Proofs.Ytehjekcfhmmggaa

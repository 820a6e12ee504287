/-
  What a cache keeps of many keys that are put twice each, one after the other. Plain; no conditions.
-/
import Derived.Test.YtelbbfogeimekaaCac0
namespace Go.Proofs.Ytelbbfogeimekaa

/-- The keys: one-letter strings from 'a' on. -/
def keyN (i : Nat) : ByteArray := Utf8.encode (97 + (i : Int))

def unN (b : ByteArray) : Int := if b.size = 1 then (b.get! 0).toNat else ((b.get! 0).toNat - 192) * 64 + ((b.get! 1).toNat - 128)

theorem unN_all : (List.range 256).all (fun i => decide (unN (keyN i) = 97 + (i : Int)) && decide ((keyN i).size ≤ 2)) = true := by decide +kernel

theorem keyN_un {i : Nat} (h : i < 256) : unN (keyN i) = 97 + (i : Int) ∧ (keyN i).size ≤ 2 := by
  have := List.all_eq_true.1 unN_all i (List.mem_range.2 h)
  simpa using this
theorem keyN_inj {i j : Nat} (hi : i < 256) (hj : j < 256) (h : keyN i = keyN j) : i = j := by
  have h1 := (keyN_un hi).1
  have h2 := (keyN_un hj).1
  rw [h] at h1
  omega

def entN (j : Nat) : Ent ByteArray (Int × Int) := ⟨((j % 2 : Nat) : Int), keyN j, ((j : Int), 2)⟩
theorem entN_k (j : Nat) : (entN j).k = keyN j := by simp only [entN]
def lisN (room i : Nat) : List (Ent ByteArray (Int × Int)) := (List.range' (i - room) (i - (i - room))).map entN

theorem lisN_length (room i : Nat) : (lisN room i).length = min room i := by simp [lisN]; omega
theorem mem_lisN {room i : Nat} {e : Ent ByteArray (Int × Int)} : e ∈ lisN room i ↔ ∃ j, i - room ≤ j ∧ j < i ∧ e = entN j := by
  unfold lisN
  rw [List.mem_map]
  constructor
  · rintro ⟨j, hj, rfl⟩
    have := List.mem_range'_1.1 hj
    exact ⟨j, this.1, by omega, rfl⟩
  · rintro ⟨j, h1, h2, rfl⟩
    exact ⟨j, List.mem_range'_1.2 ⟨h1, by omega⟩, rfl⟩

theorem hasN {room n i : Nat} (hn : n ≤ 255) (hi : i < 256) (g : Int) : hasE (lisN room n) g (keyN i) = decide (n - room ≤ i ∧ i < n ∧ g = ((i % 2 : Nat) : Int)) := by
  rw [Bool.eq_iff_iff, decide_eq_true_iff]
  unfold hasE
  rw [List.any_eq_true]
  constructor
  · rintro ⟨e, he, hh⟩
    obtain ⟨j, h1, h2, rfl⟩ := mem_lisN.1 he
    obtain ⟨h3, h4⟩ := isE_iff.1 hh
    rw [entN_k] at h4
    have := keyN_inj (i := j) (j := i) (by omega) hi h4
    subst this
    exact ⟨h1, h2, h3.symm⟩
  · rintro ⟨h1, h2, rfl⟩
    exact ⟨entN i, mem_lisN.2 ⟨i, h1, h2, rfl⟩, isE_self _ _ _⟩

theorem getN {room n i : Nat} (hn : n ≤ 255) (hi : i < n) (h : n - room ≤ i) : getE (lisN room n) ((i % 2 : Nat) : Int) (keyN i) = some ((i : Int), 2) := by
  have hh : hasE (lisN room n) ((i % 2 : Nat) : Int) (keyN i) = true := by rw [hasN hn (by omega)]; exact decide_eq_true ⟨h, hi, rfl⟩
  obtain ⟨e, he, h1, h2⟩ := idxE_at hh
  obtain ⟨j, h3, h4, rfl⟩ := mem_lisN.1 (List.mem_of_getElem? he)
  have h5 := (isE_iff.1 h1).2
  rw [entN_k] at h5
  have := keyN_inj (i := j) (j := i) (by omega) (by omega) h5
  subst this
  exact h2
theorem getN_none {room n i : Nat} (hn : n ≤ 255) (hi : i < 256) (g : Int) (h : ¬ (n - room ≤ i ∧ i < n ∧ g = ((i % 2 : Nat) : Int))) : getE (lisN room n) g (keyN i) = none := by
  have hh : hasE (lisN room n) g (keyN i) = false := by rw [hasN hn hi]; exact decide_eq_false h
  rw [hasE_get] at hh
  cases hx : getE (lisN room n) g (keyN i) with
  | none => rfl
  | some v => rw [hx] at hh; cases hh

/-- What was put first. -/
def firN (room i : Nat) : List (Ent ByteArray (Int × Int)) := putE room (lisN room i) ((i % 2 : Nat) : Int) (keyN i) ((i : Int), 1)
def heaN (room i : Nat) : List (Ent ByteArray (Int × Int)) := if room < (lisN room i).length + 1 then (lisN room i).tail else lisN room i

theorem heaN_mem {room i : Nat} {e : Ent ByteArray (Int × Int)} (h : e ∈ heaN room i) : e ∈ lisN room i := by
  unfold heaN at h
  split at h
  · exact List.mem_of_mem_tail h
  · exact h

theorem firN_eq {room i : Nat} (hi : i < 255) (hr : 1 ≤ room) : firN room i = heaN room i ++ [⟨((i % 2 : Nat) : Int), keyN i, ((i : Int), 1)⟩] := by
  have hh : hasE (lisN room i) ((i % 2 : Nat) : Int) (keyN i) = false := by rw [hasN (by omega) (by omega)]; exact decide_eq_false (by omega)
  unfold firN putE heaN
  rw [if_neg (by rw [hh]; decide)]
  split
  · rename_i h
    unfold addE
    cases hl : lisN room i with
    | nil => rw [hl] at h; simp at h; omega
    | cons a b => rfl
  · rfl

theorem firN_len {room i : Nat} (hi : i < 255) (hr : 1 ≤ room) : (firN room i).length = min room (i + 1) := by
  rw [firN_eq hi hr, List.length_append, List.length_singleton]
  unfold heaN
  have := lisN_length room i
  split
  · rw [List.length_tail]; omega
  · omega

/-- What was put then. -/
theorem secN {room i : Nat} (hi : i < 255) (hr : 1 ≤ room) : putE room (firN room i) ((i % 2 : Nat) : Int) (keyN i) ((i : Int), 2) = lisN room (i + 1) := by
  rw [firN_eq hi hr]
  have hne : ∀ a ∈ heaN room i, isE ((i % 2 : Nat) : Int) (keyN i) a = false := by
    intro a ha
    obtain ⟨j, h1, h2, rfl⟩ := mem_lisN.1 (heaN_mem ha)
    simp only [isE, decide_eq_false_iff_not]
    rintro ⟨_, h4⟩
    rw [entN_k] at h4
    have := keyN_inj (i := j) (j := i) (by omega) (by omega) h4
    omega
  have hhas : hasE (heaN room i ++ [⟨((i % 2 : Nat) : Int), keyN i, ((i : Int), 1)⟩]) ((i % 2 : Nat) : Int) (keyN i) = true := by
    unfold hasE
    rw [List.any_append, Bool.or_eq_true]
    right
    simp [isE]
  unfold putE
  rw [if_pos hhas]
  unfold setE
  rw [idx_skip (heaN room i) _ [] hne (by simp [isE]), List.set_append_right _ _ (Nat.le_refl _), Nat.sub_self]
  show heaN room i ++ [entN i] = lisN room (i + 1)
  have hl := lisN_length room i
  unfold heaN
  split
  · rename_i h
    obtain ⟨d, hd⟩ : ∃ d, room = d + 1 := ⟨room - 1, by omega⟩
    have h1 : lisN room i = entN (i - room) :: (List.range' (i - room + 1) d).map entN := by
      unfold lisN
      rw [show i - (i - room) = d + 1 by omega, List.range'_succ, List.map_cons]
    rw [h1, List.tail_cons]
    unfold lisN
    rw [show i + 1 - (i + 1 - room) = d + 1 by omega, show i + 1 - room = i - room + 1 by omega, ← List.range'_append_1 (m := d) (n := 1), List.map_append]
    congr 1
    show [entN i] = [entN (i - room + 1 + d)]
    rw [show i - room + 1 + d = i by omega]
  · rename_i h
    unfold lisN
    rw [show i + 1 - (i + 1 - room) = i + 1 by omega, show i + 1 - room = 0 by omega, show i - room = 0 by omega, show i - 0 = i by omega, ← List.range'_append_1 (m := i) (n := 1), List.map_append]
    congr 1
    show [entN i] = [entN (0 + i)]
    rw [Nat.zero_add]

theorem endN (room n : Nat) : dropG (dropG (lisN room n) 0) 1 = [] := by
  unfold dropG
  rw [List.filter_filter, List.filter_eq_nil_iff]
  intro e he
  obtain ⟨j, _, _, rfl⟩ := mem_lisN.1 he
  have : j % 2 = 0 ∨ j % 2 = 1 := by omega
  show ¬ (decide (((j % 2 : Nat) : Int) ≠ 1) && decide (((j % 2 : Nat) : Int) ≠ 0)) = true
  rcases this with h | h <;> rw [h] <;> simp
theorem dropG_le' {K V : Type} (L : List (Ent K V)) (g : Int) : (dropG L g).length ≤ L.length := List.length_filter_le _ _
end Go.Proofs.Ytelbbfogeimekaa

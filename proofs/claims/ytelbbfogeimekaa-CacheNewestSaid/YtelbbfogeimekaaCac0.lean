/-
  What a cache keeps, the oldest first: a list of entries, and what each call does to it. Plain; no program; no conditions.
-/
import Derived.Test.YtelbbfogeimekaaBase
namespace Go.Proofs.Ytelbbfogeimekaa

structure Ent (K V : Type) where
  g : Int
  k : K
  v : V

section
variable {K V : Type} [DecidableEq K]

def isE (g : Int) (k : K) (e : Ent K V) : Bool := decide (e.g = g ∧ e.k = k)
def idxE (L : List (Ent K V)) (g : Int) (k : K) : Nat := L.findIdx (isE g k)
def getE (L : List (Ent K V)) (g : Int) (k : K) : Option V := (L.find? (isE g k)).map (·.v)
def hasE (L : List (Ent K V)) (g : Int) (k : K) : Bool := L.any (isE g k)
def ApartE (L : List (Ent K V)) : Prop := L.Pairwise fun a b => ¬(b.g = a.g ∧ b.k = a.k)
def setE (L : List (Ent K V)) (g : Int) (k : K) (v : V) : List (Ent K V) := L.set (idxE L g k) ⟨g, k, v⟩
def addE (L : List (Ent K V)) (g : Int) (k : K) (v : V) : List (Ent K V) := L ++ [⟨g, k, v⟩]
def cutE (L : List (Ent K V)) (g : Int) (k : K) : List (Ent K V) := L.eraseIdx (idxE L g k)
/-- Put. -/
def putE (room : Nat) (L : List (Ent K V)) (g : Int) (k : K) (v : V) : List (Ent K V) :=
  if hasE L g k = true then setE L g k v else if room < L.length + 1 then (addE L g k v).tail else addE L g k v
/-- Drop. -/
def dropE (L : List (Ent K V)) (g : Int) (k : K) : List (Ent K V) := if hasE L g k = true then cutE L g k else L
/-- DropGroup. -/
def dropG (L : List (Ent K V)) (g : Int) : List (Ent K V) := L.filter fun e => decide (e.g ≠ g)

theorem isE_iff {g : Int} {k : K} {e : Ent K V} : isE g k e = true ↔ e.g = g ∧ e.k = k := by simp [isE]

theorem isE_self (g : Int) (k : K) (v : V) : isE g k (⟨g, k, v⟩ : Ent K V) = true := by simp [isE]
theorem isE_other {g g' : Int} {k k' : K} {v : V} (h : ¬(g' = g ∧ k' = k)) : isE g' k' (⟨g, k, v⟩ : Ent K V) = false := by
  simp only [isE, decide_eq_false_iff_not]
  exact fun h' => h ⟨h'.1.symm, h'.2.symm⟩
theorem isE_two {g g' : Int} {k k' : K} {e : Ent K V} (h : ¬(g' = g ∧ k' = k)) (he : isE g k e = true) : isE g' k' e = false := by
  obtain ⟨h1, h2⟩ := isE_iff.1 he
  simp only [isE, decide_eq_false_iff_not]
  rintro ⟨h3, h4⟩
  exact h ⟨by rw [← h3, h1], by rw [← h4, h2]⟩

theorem hasE_get (g : Int) (k : K) : ∀ L : List (Ent K V), hasE L g k = (getE L g k).isSome
  | [] => rfl
  | e :: L => by
    have ih := hasE_get g k L
    unfold hasE getE at ih ⊢
    cases h : isE g k e <;> simp [h, ih]

theorem idxE_cons (e : Ent K V) (L : List (Ent K V)) (g : Int) (k : K) : idxE (e :: L) g k = if isE g k e = true then 0 else idxE L g k + 1 := by
  unfold idxE
  rw [List.findIdx_cons]
  cases h : isE g k e <;> simp

theorem hasE_cons (e : Ent K V) (L : List (Ent K V)) (g : Int) (k : K) : hasE (e :: L) g k = (isE g k e || hasE L g k) := rfl
theorem getE_cons (e : Ent K V) (L : List (Ent K V)) (g : Int) (k : K) : getE (e :: L) g k = if isE g k e = true then some e.v else getE L g k := by
  unfold getE
  cases h : isE g k e <;> simp [h]

theorem idxE_lt {g : Int} {k : K} : ∀ {L : List (Ent K V)}, hasE L g k = true → idxE L g k < L.length
  | [], h => by cases h
  | e :: L, h => by
    rw [idxE_cons]
    split
    · simp
    · rename_i he
      rw [hasE_cons] at h
      have := idxE_lt (L := L) (by simpa [he] using h)
      simpa using this

theorem idxE_at {g : Int} {k : K} : ∀ {L : List (Ent K V)}, hasE L g k = true → ∃ e, L[idxE L g k]? = some e ∧ isE g k e = true ∧ getE L g k = some e.v
  | [], h => by cases h
  | e :: L, h => by
    rw [idxE_cons, getE_cons]
    by_cases he : isE g k e = true
    · rw [if_pos he, if_pos he]
      exact ⟨e, rfl, he, rfl⟩
    · rw [if_neg he, if_neg he]
      rw [hasE_cons] at h
      obtain ⟨e', h1, h2, h3⟩ := idxE_at (L := L) (by simpa [he] using h)
      exact ⟨e', by simpa using h1, h2, h3⟩

theorem idxE_before {g : Int} {k : K} : ∀ {L : List (Ent K V)} (j : Nat) (e : Ent K V), j < idxE L g k → L[j]? = some e → isE g k e = false
  | [], j, e, _, h => by cases h
  | x :: L, j, e, hj, h => by
    rw [idxE_cons] at hj
    by_cases hx : isE g k x = true
    · rw [if_pos hx] at hj; omega
    · rw [if_neg hx] at hj
      cases j with
      | zero => simp at h; subst h; simpa using hx
      | succ j => exact idxE_before (L := L) j e (by omega) (by simpa using h)

theorem getE_set {g g' : Int} {k k' : K} (v : V) : ∀ {L : List (Ent K V)}, hasE L g k = true → getE (setE L g k v) g' k' = if g' = g ∧ k' = k then some v else getE L g' k'
  | [], h => by cases h
  | e :: L, h => by
    unfold setE
    rw [idxE_cons]
    by_cases he : isE g k e = true
    · rw [if_pos he, List.set_cons_zero, getE_cons, getE_cons]
      by_cases hs : g' = g ∧ k' = k
      · obtain ⟨rfl, rfl⟩ := hs
        rw [isE_self]; simp
      · rw [isE_other hs, isE_two hs he]; simp [hs]
    · rw [if_neg he, List.set_cons_succ, getE_cons, getE_cons]
      rw [hasE_cons] at h
      have ih := getE_set (g' := g') (k' := k') v (L := L) (by simpa [he] using h)
      unfold setE at ih
      rw [ih]
      by_cases hs : g' = g ∧ k' = k
      · obtain ⟨rfl, rfl⟩ := hs
        simp [he]
      · simp [hs]

theorem getE_add {g g' : Int} {k k' : K} (v : V) : ∀ {L : List (Ent K V)}, hasE L g k = false → getE (addE L g k v) g' k' = if g' = g ∧ k' = k then some v else getE L g' k'
  | [], _ => by
    show getE [_] g' k' = _
    rw [getE_cons]
    by_cases hs : g' = g ∧ k' = k
    · obtain ⟨rfl, rfl⟩ := hs
      rw [isE_self]; simp
    · rw [isE_other hs]; simp [hs]
  | e :: L, h => by
    rw [hasE_cons] at h
    obtain ⟨h1, h2⟩ := Bool.or_eq_false_iff.1 h
    have ih := getE_add (g' := g') (k' := k') v (L := L) h2
    show getE (e :: addE L g k v) g' k' = _
    rw [getE_cons, getE_cons, ih]
    by_cases hs : g' = g ∧ k' = k
    · obtain ⟨rfl, rfl⟩ := hs
      simp [h1]
    · simp [hs]

theorem getE_none_of_apart {g : Int} {k : K} {e : Ent K V} {L : List (Ent K V)} (h : ApartE (e :: L)) (he : isE g k e = true) : getE L g k = none := by
  obtain ⟨h1, h2⟩ := isE_iff.1 he
  obtain ⟨hp, _⟩ := List.pairwise_cons.1 h
  unfold getE
  rw [List.find?_eq_none.2 (fun x hx hh => ?_)]
  · rfl
  · obtain ⟨h3, h4⟩ := isE_iff.1 hh
    exact hp x hx ⟨by rw [h3, h1], by rw [h4, h2]⟩

theorem getE_cut {g g' : Int} {k k' : K} : ∀ {L : List (Ent K V)}, ApartE L → getE (cutE L g k) g' k' = if g' = g ∧ k' = k then none else getE L g' k'
  | [], _ => by simp [cutE, getE]
  | e :: L, h => by
    unfold cutE
    rw [idxE_cons]
    by_cases he : isE g k e = true
    · rw [if_pos he, List.eraseIdx_cons_zero, getE_cons]
      by_cases hs : g' = g ∧ k' = k
      · obtain ⟨rfl, rfl⟩ := hs
        simp [getE_none_of_apart h he]
      · rw [isE_two hs he]; simp [hs]
    · rw [if_neg he, List.eraseIdx_cons_succ, getE_cons, getE_cons]
      have ih := getE_cut (g := g) (g' := g') (k := k) (k' := k') (L := L) (List.pairwise_cons.1 h).2
      unfold cutE at ih
      rw [ih]
      by_cases hs : g' = g ∧ k' = k
      · obtain ⟨rfl, rfl⟩ := hs
        simp [he]
      · simp [hs]

theorem ApartE.cut {g : Int} {k : K} {L : List (Ent K V)} (h : ApartE L) : ApartE (cutE L g k) := List.Pairwise.sublist (List.eraseIdx_sublist L _) h
omit [DecidableEq K] in
theorem ApartE.filter {L : List (Ent K V)} (h : ApartE L) (p : Ent K V → Bool) : ApartE (L.filter p) := List.Pairwise.filter p h

theorem hasE_false_mem {g : Int} {k : K} {L : List (Ent K V)} (h : hasE L g k = false) {e : Ent K V} (he : e ∈ L) : ¬(g = e.g ∧ k = e.k) := by
  have := List.any_eq_false.1 h e he
  rw [isE_iff] at this
  exact fun h' => this ⟨h'.1.symm, h'.2.symm⟩

theorem ApartE.add {g : Int} {k : K} {L : List (Ent K V)} (h : ApartE L) (hh : hasE L g k = false) (v : V) : ApartE (addE L g k v) := by
  unfold ApartE addE
  rw [List.pairwise_append]
  refine ⟨h, List.pairwise_singleton _ _, fun a ha b hb => ?_⟩
  obtain rfl := List.mem_singleton.1 hb
  exact hasE_false_mem hh ha

theorem keys_set {g : Int} {k : K} (v : V) : ∀ {L : List (Ent K V)}, hasE L g k = true → (setE L g k v).map (fun e => (e.g, e.k)) = L.map fun e => (e.g, e.k)
  | [], h => by cases h
  | e :: L, h => by
    unfold setE
    rw [idxE_cons]
    by_cases he : isE g k e = true
    · rw [if_pos he, List.set_cons_zero]
      obtain ⟨h1, h2⟩ := isE_iff.1 he
      simp [h1, h2]
    · rw [if_neg he, List.set_cons_succ]
      rw [hasE_cons] at h
      have ih := keys_set v (L := L) (by simpa [he] using h)
      unfold setE at ih
      simp [ih]

omit [DecidableEq K] in
theorem apart_keys {L L' : List (Ent K V)} (h : L'.map (fun e => (e.g, e.k)) = L.map fun e => (e.g, e.k)) (hL : ApartE L) : ApartE L' := by
  have h1 : ∀ M : List (Ent K V), ApartE M ↔ (M.map fun e => (e.g, e.k)).Pairwise (fun a b => ¬(b.1 = a.1 ∧ b.2 = a.2)) := fun M => by
    rw [List.pairwise_map]; rfl
  rw [h1, h, ← h1]
  exact hL

theorem cutE_head (e : Ent K V) (L : List (Ent K V)) : cutE (e :: L) e.g e.k = L := by
  unfold cutE
  rw [idxE_cons, if_pos (by simp [isE])]
  rfl

theorem cut_length {g : Int} {k : K} {L : List (Ent K V)} (h : hasE L g k = true) : (cutE L g k).length = L.length - 1 := by
  unfold cutE
  rw [List.length_eraseIdx, if_pos (idxE_lt h)]

/-- In the loop of DropGroup: i were looked at. -/
def groupAt (L : List (Ent K V)) (g : Int) (i : Nat) : List (Ent K V) := dropG (L.take i) g ++ L.drop i
omit [DecidableEq K] in
theorem groupAt_zero (L : List (Ent K V)) (g : Int) : groupAt L g 0 = L := by simp [groupAt, dropG]
omit [DecidableEq K] in
theorem groupAt_end (L : List (Ent K V)) (g : Int) : groupAt L g L.length = dropG L g := by simp [groupAt]

omit [DecidableEq K] in
theorem groupAt_keep {L : List (Ent K V)} {g : Int} {i : Nat} {e : Ent K V} (he : L[i]? = some e) (hg : e.g ≠ g) : groupAt L g (i + 1) = groupAt L g i := by
  have hi : i < L.length := (List.getElem?_eq_some_iff.1 he).1
  have h1 : L.drop i = e :: L.drop (i + 1) := by rw [List.drop_eq_getElem_cons hi]; congr 1; exact (List.getElem?_eq_some_iff.1 he).2
  unfold groupAt dropG
  rw [List.take_add_one, he, h1]
  simp [hg]

theorem idx_skip {g : Int} {k : K} : ∀ (A : List (Ent K V)) (e : Ent K V) (B : List (Ent K V)), (∀ a ∈ A, isE g k a = false) → isE g k e = true → idxE (A ++ e :: B) g k = A.length
  | [], e, B, _, he => by rw [List.nil_append, idxE_cons, if_pos he]; rfl
  | a :: A, e, B, h, he => by
    rw [List.cons_append, idxE_cons, if_neg (by rw [h a List.mem_cons_self]; simp), idx_skip A e B (fun x hx => h x (List.mem_cons_of_mem _ hx)) he]
    rfl

theorem groupAt_drop {L : List (Ent K V)} {g : Int} {i : Nat} {e : Ent K V} (he : L[i]? = some e) (hg : e.g = g) : groupAt L g (i + 1) = cutE (groupAt L g i) g e.k ∧ hasE (groupAt L g i) g e.k = true := by
  have hi : i < L.length := (List.getElem?_eq_some_iff.1 he).1
  have h1 : L.drop i = e :: L.drop (i + 1) := by rw [List.drop_eq_getElem_cons hi]; congr 1; exact (List.getElem?_eq_some_iff.1 he).2
  have hA : ∀ a ∈ dropG (L.take i) g, isE g e.k a = false := by
    intro a ha
    have := (List.mem_filter.1 ha).2
    simp only [isE, decide_eq_false_iff_not]
    exact fun h => (of_decide_eq_true this) h.1
  have hee : isE g e.k e = true := by simp [isE, hg]
  constructor
  · have : groupAt L g i = dropG (L.take i) g ++ e :: L.drop (i + 1) := by unfold groupAt; rw [h1]
    rw [this]
    unfold cutE
    rw [idx_skip _ _ _ hA hee, List.eraseIdx_append_of_length_le (Nat.le_refl _), Nat.sub_self, List.eraseIdx_cons_zero]
    unfold groupAt dropG
    rw [List.take_add_one, he]
    simp [hg]
  · unfold groupAt hasE
    rw [h1, List.any_append]
    simp [hee]

omit [DecidableEq K] in
theorem groupAt_apart {L : List (Ent K V)} (h : ApartE L) (g : Int) (i : Nat) : ApartE (groupAt L g i) := by
  refine List.Pairwise.sublist ?_ h
  conv => rhs; rw [← List.take_append_drop i L]
  exact List.Sublist.append List.filter_sublist (List.Sublist.refl _)

theorem groupAt_length {L : List (Ent K V)} {g : Int} {i : Nat} {e : Ent K V} (he : L[i]? = some e) (hg : e.g = g) : (groupAt L g (i + 1)).length + 1 = (groupAt L g i).length := by
  obtain ⟨h1, h2⟩ := groupAt_drop he hg
  rw [h1, cut_length h2]
  have := idxE_lt h2
  omega
end
end Go.Proofs.Ytelbbfogeimekaa

/-
  CacheGroups: the plain law. No conditions.
-/
import Derived.Test.YtelbbfogeimekaaCac0
namespace Go.Proofs.Ytelbbfogeimekaa
open Go.RowKit

section
variable {K V : Type} [DecidableEq K]

/-- How many are kept of a group. -/
def cnt (L : List (Ent K V)) (g : Int) : Nat := (L.filter fun e => decide (e.g = g)).length

omit [DecidableEq K] in
theorem cnt_drop (L : List (Ent K V)) (g : Int) : (dropG L g).length + cnt L g = L.length := by
  unfold dropG cnt
  induction L with
  | nil => rfl
  | cons e L ih => by_cases h : e.g = g <;> simp [h] at ih ⊢ <;> omega

omit [DecidableEq K] in
theorem cnt_keys (g : Int) : ∀ A B : List (Ent K V), A.map (fun e => (e.g, e.k)) = B.map (fun e => (e.g, e.k)) → cnt A g = cnt B g := by
  intro A
  induction A with
  | nil => intro B e; cases B with | nil => rfl | cons b B => cases e
  | cons a A ih =>
    intro B e
    cases B with
    | nil => cases e
    | cons b B =>
      simp only [List.map_cons, List.cons.injEq, Prod.mk.injEq] at e
      have := ih B e.2
      unfold cnt at this ⊢
      by_cases h : b.g = g <;> simp [e.1.1, h, this]

omit [DecidableEq K] in
theorem cnt_add (L : List (Ent K V)) (a g : Int) (k : K) (v : V) : cnt (addE L a k v) g = cnt L g + if a = g then 1 else 0 := by
  unfold cnt addE
  rw [List.filter_append, List.length_append]
  by_cases h : a = g <;> simp [h]

theorem getE_dropG (g g' : Int) (k : K) (L : List (Ent K V)) : getE (dropG L g) g' k = if g' = g then none else getE L g' k := by
  induction L with
  | nil => simp [dropG, getE]
  | cons e L ih =>
    have hd : dropG (e :: L) g = if e.g = g then dropG L g else e :: dropG L g := by
      unfold dropG
      by_cases h : e.g = g <;> simp [h]
    rw [hd]
    by_cases h : e.g = g
    · rw [if_pos h, ih, getE_cons]
      by_cases h2 : g' = g
      · rw [if_pos h2, if_pos h2]
      · rw [if_neg h2, if_neg h2, if_neg (fun hx => h2 ((isE_iff.1 hx).1.symm.trans h))]
    · rw [if_neg h, getE_cons, getE_cons, ih]
      by_cases h2 : g' = g
      · rw [if_pos h2, if_pos h2, if_neg (fun hx => h ((isE_iff.1 hx).1.trans h2))]
      · rw [if_neg h2, if_neg h2]

omit [DecidableEq K] in
theorem dropG_twice (L : List (Ent K V)) (g : Int) : dropG (dropG L g) g = dropG L g := by
  unfold dropG
  rw [List.filter_filter]
  simp

theorem getE_put {room : Nat} {L : List (Ent K V)} (h : L.length + 1 ≤ room) (g g' : Int) (k k' : K) (v : V) : getE (putE room L g k v) g' k' = if g' = g ∧ k' = k then some v else getE L g' k' := by
  unfold putE
  cases hh : hasE L g k with
  | true => rw [if_pos rfl]; exact getE_set v hh
  | false => rw [if_neg (by decide), if_neg (by omega)]; exact getE_add v hh

theorem put_len {room : Nat} {L : List (Ent K V)} (h : L.length + 1 ≤ room) (g : Int) (k : K) (v : V) : (putE room L g k v).length = if hasE L g k = true then L.length else L.length + 1 := by
  unfold putE
  cases hh : hasE L g k with
  | true => rw [if_pos rfl, if_pos rfl]; simp [setE]
  | false => rw [if_neg (by decide), if_neg (by omega), if_neg (by decide)]; simp [addE]

theorem put_cnt {room : Nat} {L : List (Ent K V)} (h : L.length + 1 ≤ room) (g x : Int) (k : K) (v : V) : cnt (putE room L g k v) x = if hasE L g k = true then cnt L x else cnt L x + if g = x then 1 else 0 := by
  unfold putE
  cases hh : hasE L g k with
  | true => rw [if_pos rfl, if_pos rfl]; exact cnt_keys x _ _ (keys_set v hh)
  | false => rw [if_neg (by decide), if_neg (by omega), if_neg (by decide)]; exact cnt_add L g x k v

/-- What CacheGroups' first loop keeps. -/
structure Grps (w2 : K → V) (a b : Int) (keys : List K) (i : Nat) (L : List (Ent K V)) : Prop where
  len : L.length ≤ 2 * i
  two : cnt L a = cnt L b
  sum : cnt L a + cnt L b = L.length
  has : ∀ k, hasE L a k = hasE L b k
  val : ∀ k v, getE L b k = some v → v = w2 k
  mem : ∀ j k, j < i → keys[j]? = some k → hasE L b k = true

theorem Grps.zero (w2 : K → V) (a b : Int) (keys : List K) : Grps w2 a b keys 0 [] :=
  ⟨Nat.le_refl _, rfl, rfl, fun _ => rfl, fun _ _ h => (by cases h), fun j _ h => by omega⟩

theorem Grps.step {w2 : K → V} {a b : Int} {keys : List K} {i : Nat} {L : List (Ent K V)} (h : Grps w2 a b keys i L) (hab : a ≠ b) (hi : i < 200) {k : K} (hk : keys[i]? = some k) (v1 : V) :
    Grps w2 a b keys (i + 1) (putE 1024 (putE 1024 L a k v1) b k (w2 k)) := by
  have hl := h.len
  have l1 : (putE 1024 L a k v1).length ≤ L.length + 1 := by
    rw [put_len (by omega)]; split <;> omega
  have g1 := fun g' k' => getE_put (room := 1024) (L := L) (by omega) a g' k k' v1
  have g2 := fun g' k' => getE_put (room := 1024) (L := putE 1024 L a k v1) (by omega) b g' k k' (w2 k)
  have hb : hasE (putE 1024 L a k v1) b k = hasE L a k := by
    rw [hasE_get, g1, if_neg (fun e => hab e.1.symm), ← hasE_get, h.has]
  have n2 := put_len (room := 1024) (L := putE 1024 L a k v1) (by omega) b k (w2 k)
  have n1 := put_len (room := 1024) (L := L) (by omega) a k v1
  have c2 := fun x => put_cnt (room := 1024) (L := putE 1024 L a k v1) (by omega) b x k (w2 k)
  have c1 := fun x => put_cnt (room := 1024) (L := L) (by omega) a x k v1
  have hs := h.sum
  have ht := h.two
  have ca := c2 a
  have cb := c2 b
  rw [c1, hb] at ca cb
  rw [hb] at n2
  have hba : ¬ b = a := fun e => hab e.symm
  refine ⟨?_, ?_, ?_, fun k' => ?_, fun k' v hv => ?_, fun j k' hj hk' => ?_⟩
  · cases hx : hasE L a k <;> simp [hx] at n1 n2 <;> omega
  · cases hx : hasE L a k <;> simp [hx, hab, hba] at ca cb <;> omega
  · cases hx : hasE L a k <;> simp [hx, hab, hba] at ca cb n1 n2 <;> omega
  · rw [hasE_get, hasE_get, g2, g2, g1, g1]
    have := h.has k'
    rw [hasE_get, hasE_get] at this
    by_cases e : k' = k
    · simp [e, hab]
    · simp [e, this]
  · rw [g2, g1] at hv
    by_cases e : k' = k
    · subst e
      simp at hv
      exact hv.symm
    · simp [e] at hv
      exact h.val k' v hv
  · rw [hasE_get, g2, g1]
    by_cases e : k' = k
    · simp [e]
    · have : j < i := by
        rcases Nat.lt_or_ge j i with h | h
        · exact h
        · exact absurd (Option.some.inj (hk'.symm.trans ((show j = i by omega) ▸ hk))) e
      have := h.mem j k' this hk'
      rw [hasE_get] at this
      simp [e, this]
end
end Go.Proofs.Ytelbbfogeimekaa

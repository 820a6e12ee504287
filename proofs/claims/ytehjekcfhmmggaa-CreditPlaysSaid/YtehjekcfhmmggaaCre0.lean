/-
  What a scheduler holds, in plain terms. Plain; no program; no conditions.
-/
import Derived.Test.YtehjekcfhmmggaaMap
namespace Go.Proofs.Ytehjekcfhmmggaa

structure One where
  id : Int
  weight : Nat
  credit : Int
  core : Nat
  state : Int

structure CS where
  L : List One
  Q : Nat → List Int
  rv : Nat → Int
  bs : Nat → Bool
  ran : Nat → Int
  sum : Nat

def findO (L : List One) (id : Int) : Option One := L.find? fun x => decide (x.id = id)
def setO (L : List One) (id : Int) (f : One → One) : List One := L.map fun x => if x.id = id then f x else x
def cutO (L : List One) (id : Int) : List One := L.filter fun x => decide (x.id ≠ id)
def updN {α : Type} (f : Nat → α) (i : Nat) (v : α) : Nat → α := fun j => if j = i then v else f j
def strike (q : List Int) (id : Int) : List Int := q.filter fun x => decide (x ≠ id)
def sumW : List One → Nat
  | [] => 0
  | x :: L => x.weight + sumW L

theorem updN_same {α : Type} (f : Nat → α) (i : Nat) (v : α) : updN f i v i = v := by simp [updN]
theorem updN_ne {α : Type} (f : Nat → α) {i j : Nat} (v : α) (h : j ≠ i) : updN f i v j = f j := by simp [updN, h]

theorem findO_mem {L : List One} {id : Int} {x : One} (h : findO L id = some x) : x ∈ L ∧ x.id = id :=
  ⟨List.mem_of_find?_eq_some h, by have := List.find?_some h; simpa using this⟩
theorem findO_none {L : List One} {id : Int} (h : findO L id = none) : ∀ x ∈ L, x.id ≠ id := by
  intro x hx e
  have := List.find?_eq_none.1 h x hx
  simp [e] at this
theorem findO_cons (x : One) (L : List One) (id : Int) : findO (x :: L) id = if x.id = id then some x else findO L id := by
  unfold findO
  by_cases h : x.id = id <;> simp [h]
theorem findO_some {L : List One} {x : One} (h : x ∈ L) : ∃ y, findO L x.id = some y := by
  cases hf : findO L x.id with
  | none => exact absurd rfl (findO_none hf x h)
  | some y => exact ⟨y, rfl⟩

theorem setO_length (L : List One) (id : Int) (f : One → One) : (setO L id f).length = L.length := by simp [setO]
theorem mem_setO {L : List One} {id : Int} {f : One → One} {y : One} : y ∈ setO L id f ↔ ∃ x ∈ L, y = if x.id = id then f x else x := by
  simp [setO, eq_comm]
theorem setO_ids {L : List One} {id : Int} {f : One → One} (hf : ∀ y, (f y).id = y.id) : (setO L id f).map (·.id) = L.map (·.id) := by
  unfold setO
  rw [List.map_map]
  apply List.map_congr_left
  intro x _
  show (if x.id = id then f x else x).id = x.id
  split
  · exact hf x
  · rfl
theorem setO_id {id : Int} {f : One → One} (hf : ∀ y, (f y).id = y.id) (x : One) : (if x.id = id then f x else x).id = x.id := by
  split
  · exact hf x
  · rfl

theorem findO_append (L M : List One) (id : Int) : findO (L ++ M) id = (findO L id).or (findO M id) := by
  unfold findO
  rw [List.find?_append]
theorem findO_cut (L : List One) (id i : Int) : findO (cutO L id) i = if i = id then none else findO L i := by
  induction L with
  | nil => simp [findO, cutO]
  | cons x L ih =>
    unfold cutO at ih ⊢
    by_cases hx : x.id = id
    · rw [List.filter_cons_of_neg (by simp [hx]), ih, findO_cons]
      by_cases h : i = id
      · rw [if_pos h, if_pos h]
      · rw [if_neg h, if_neg h, if_neg (fun e => h (by rw [← e, hx]))]
    · rw [List.filter_cons_of_pos (by simp [hx]), findO_cons, findO_cons, ih]
      by_cases h : i = id
      · rw [if_pos h, if_pos h, if_neg (by rw [h]; exact hx)]
      · rw [if_neg h, if_neg h]
theorem findO_set (L : List One) (id : Int) {f : One → One} (hf : ∀ y, (f y).id = y.id) (i : Int) : findO (setO L id f) i = (findO L i).map fun x => if x.id = id then f x else x := by
  induction L with
  | nil => rfl
  | cons x L ih =>
    show findO ((if x.id = id then f x else x) :: setO L id f) i = _
    rw [findO_cons, findO_cons, setO_id hf, ih]
    by_cases h : x.id = i
    · rw [if_pos h, if_pos h]; rfl
    · rw [if_neg h, if_neg h]

/-- Where each of the map's keys leads to. -/
def lookF (L : List One) (pb : Int → Nat) (kl : Lit) : Option Value :=
  match kl with
  | .int .i64 id => (findO L id).map fun _ => .pointer (some ⟨pb id, 0, none⟩)
  | _ => none

theorem lookF_ext {F G : Lit → Option Value} (h : ∀ id, F (.int .i64 id) = G (.int .i64 id)) (h2 : ∀ kl, (∀ id, kl ≠ .int .i64 id) → F kl = G kl) : F = G := by
  funext kl
  by_cases e : ∃ id, kl = .int .i64 id
  · obtain ⟨id, rfl⟩ := e; exact h id
  · exact h2 kl (fun id he => e ⟨id, he⟩)
theorem lookF_off (L : List One) (pb : Int → Nat) {kl : Lit} (h : ∀ id, kl ≠ .int .i64 id) : lookF L pb kl = none := by
  unfold lookF
  split
  · rename_i id; exact absurd rfl (h id)
  · rfl
theorem lookF_id (L : List One) (pb : Int → Nat) (id : Int) : lookF L pb (.int .i64 id) = (findO L id).map fun _ => .pointer (some ⟨pb id, 0, none⟩) := rfl
theorem lookF_set (L : List One) (pb : Int → Nat) (id : Int) {f : One → One} (hf : ∀ y, (f y).id = y.id) : lookF (setO L id f) pb = lookF L pb :=
  lookF_ext (fun i => by rw [lookF_id, lookF_id, findO_set _ _ hf]; cases findO L i <;> rfl) (fun kl h => by rw [lookF_off _ _ h, lookF_off _ _ h])
theorem lookF_pb {L : List One} {pb pb' : Int → Nat} (h : ∀ x ∈ L, pb x.id = pb' x.id) : lookF L pb = lookF L pb' :=
  lookF_ext (fun i => by
    rw [lookF_id, lookF_id]
    cases hf : findO L i with
    | none => rfl
    | some x =>
      obtain ⟨hx, rfl⟩ := findO_mem hf
      show some _ = some _
      rw [h x hx]) (fun kl h => by rw [lookF_off _ _ h, lookF_off _ _ h])
theorem lookF_some {L : List One} {pb : Int → Nat} {kl : Lit} {v : Value} (h : lookF L pb kl = some v) : ∃ x ∈ L, kl = .int .i64 x.id ∧ v = .pointer (some ⟨pb x.id, 0, none⟩) := by
  by_cases e : ∃ id, kl = .int .i64 id
  · obtain ⟨id, rfl⟩ := e
    rw [lookF_id] at h
    cases hf : findO L id with
    | none => rw [hf] at h; cases h
    | some x =>
      rw [hf] at h
      obtain ⟨hx, rfl⟩ := findO_mem hf
      exact ⟨x, hx, rfl, (Option.some.inj h).symm⟩
  · rw [lookF_off _ _ (fun id he => e ⟨id, he⟩)] at h
    cases h
theorem lookF_snoc {L : List One} {pb : Int → Nat} {x : One} (h : findO L x.id = none) : lookF (L ++ [x]) pb = updF (lookF L pb) (.int .i64 x.id) (some (.pointer (some ⟨pb x.id, 0, none⟩))) :=
  lookF_ext (fun i => by
    unfold updF
    rw [lookF_id, lookF_id, findO_append]
    by_cases e : i = x.id
    · subst e
      rw [if_pos rfl, h]
      simp [findO]
    · rw [if_neg (fun h' => e (by injection h')), show findO [x] i = none from by simp [findO, Ne.symm e], Option.or_none]) (fun kl h => by
    unfold updF
    rw [lookF_off _ _ h, lookF_off _ _ h, if_neg (h _)])
theorem lookF_cut (L : List One) (pb : Int → Nat) (id : Int) : lookF (cutO L id) pb = updF (lookF L pb) (.int .i64 id) none :=
  lookF_ext (fun i => by
    unfold updF
    rw [lookF_id, lookF_id, findO_cut]
    by_cases e : i = id
    · subst e
      rw [if_pos rfl, if_pos rfl]; rfl
    · rw [if_neg e, if_neg (fun h' => e (by injection h'))]) (fun kl h => by
    unfold updF
    rw [lookF_off _ _ h, lookF_off _ _ h, if_neg (h _)])

/-- No two of one number. -/
def ApartO (L : List One) : Prop := L.Pairwise fun a b => a.id ≠ b.id
theorem ApartO.one {L : List One} (h : ApartO L) {x y : One} (hx : x ∈ L) (hy : y ∈ L) (e : x.id = y.id) : x = y := by
  induction L with
  | nil => cases hx
  | cons z L ih =>
    obtain ⟨h1, h2⟩ := List.pairwise_cons.1 h
    rcases List.mem_cons.1 hx with rfl | hx'
    · rcases List.mem_cons.1 hy with rfl | hy'
      · rfl
      · exact absurd e (h1 y hy')
    · rcases List.mem_cons.1 hy with rfl | hy'
      · exact absurd e.symm (h1 x hx')
      · exact ih h2 hx' hy'
theorem ApartO.find {L : List One} (h : ApartO L) {x : One} (hx : x ∈ L) : findO L x.id = some x := by
  obtain ⟨y, hy⟩ := findO_some hx
  have := findO_mem hy
  rw [hy, h.one this.1 hx this.2]
theorem apartO_ids {L M : List One} (h : L.map (·.id) = M.map (·.id)) (hL : ApartO L) : ApartO M := by
  have e : ∀ M : List One, ApartO M ↔ (M.map (·.id)).Pairwise (· ≠ ·) := fun M => by rw [List.pairwise_map]; rfl
  rw [e, ← h, ← e]
  exact hL
theorem cutO_length {L : List One} (h : ApartO L) {x : One} (hx : x ∈ L) : (cutO L x.id).length + 1 = L.length := by
  induction L with
  | nil => cases hx
  | cons z L ih =>
    obtain ⟨h1, h2⟩ := List.pairwise_cons.1 h
    unfold cutO at ih ⊢
    rcases List.mem_cons.1 hx with rfl | hx'
    · rw [List.filter_cons_of_neg (by simp), List.filter_eq_self.2 (fun y hy => by simpa using fun e => h1 y hy e.symm)]
      rfl
    · rw [List.filter_cons_of_pos (by simpa using h1 x hx'), List.length_cons, ih h2 hx']
      rfl
theorem sumW_cut {L : List One} (h : ApartO L) {x : One} (hx : x ∈ L) : sumW (cutO L x.id) + x.weight = sumW L := by
  induction L with
  | nil => cases hx
  | cons z L ih =>
    obtain ⟨h1, h2⟩ := List.pairwise_cons.1 h
    unfold cutO at ih ⊢
    rcases List.mem_cons.1 hx with rfl | hx'
    · rw [List.filter_cons_of_neg (by simp), List.filter_eq_self.2 (fun y hy => by simpa using fun e => h1 y hy e.symm)]
      simp [sumW]; omega
    · rw [List.filter_cons_of_pos (by simpa using h1 x hx')]
      have := ih h2 hx'
      simp only [sumW]
      omega
theorem sumW_append (L M : List One) : sumW (L ++ M) = sumW L + sumW M := by
  induction L with
  | nil => simp [sumW]
  | cons x L ih => simp [sumW, ih]; omega
theorem sumW_le {L : List One} {x : One} (hx : x ∈ L) : x.weight ≤ sumW L := by
  induction L with
  | nil => cases hx
  | cons z L ih =>
    rcases List.mem_cons.1 hx with rfl | hx'
    · simp [sumW]
    · have := ih hx'
      simp only [sumW]
      omega
theorem sumW_max {L : List One} (h : ∀ x ∈ L, x.weight ≤ 256) : sumW L ≤ L.length * 256 := by
  induction L with
  | nil => simp [sumW]
  | cons z L ih =>
    have h1 := h z List.mem_cons_self
    have := ih (fun x hx => h x (List.mem_cons_of_mem _ hx))
    simp only [sumW, List.length_cons]
    omega
theorem sumW_set (L : List One) (id : Int) (f : One → One) (hf : ∀ y, (f y).weight = y.weight) : sumW (setO L id f) = sumW L := by
  induction L with
  | nil => rfl
  | cons z L ih =>
    show (if z.id = id then f z else z).weight + sumW (setO L id f) = _
    rw [ih]
    split <;> simp [sumW, hf]
end Go.Proofs.Ytehjekcfhmmggaa

/-
  What holds of a scheduler at every time, and that each call keeps it. Plain; no conditions.
-/
import Derived.Test.YtehjekcfhmmggaaCre6
namespace Go.Proofs.Ytehjekcfhmmggaa

structure OKs (per n : Nat) (s : CS) : Prop where
  apart : ApartO s.L
  one : ∀ x ∈ s.L, (Lit.int .i64 x.id).wf = true ∧ 1 ≤ x.weight ∧ x.weight ≤ 256 ∧ -(per : Int) ≤ x.credit ∧ x.credit ≤ per ∧ x.core < n ∧ (x.state = 1 ∨ x.state = 2 ∨ x.state = 3)
  few : s.L.length ≤ 64
  sum : s.sum = sumW s.L
  busy : ∀ i, i < n → s.bs i = true → ∃ x ∈ s.L, x.id = s.rv i ∧ x.state = 2 ∧ x.core = i
  runs : ∀ x ∈ s.L, x.state = 2 → s.bs x.core = true ∧ s.rv x.core = x.id
  qin : ∀ i, i < n → ∀ id ∈ s.Q i, ∃ x ∈ s.L, x.id = id ∧ x.state = 1 ∧ x.core = i
  qall : ∀ x ∈ s.L, x.state = 1 → x.id ∈ s.Q x.core
  qone : ∀ i, i < n → (s.Q i).Nodup
  ran : ∀ i, i < n → 0 ≤ s.ran i ∧ s.ran i ≤ 1048576
  n1 : 1 ≤ n
  n8 : n ≤ 8
  p1 : 1 ≤ per
  p2 : per ≤ 1048576

theorem nodup_le : ∀ {xs ys : List Int}, xs.Nodup → (∀ x ∈ xs, x ∈ ys) → xs.length ≤ ys.length
  | [], _, _, _ => Nat.zero_le _
  | x :: xs, ys, h, hs => by
    obtain ⟨h1, h2⟩ := List.nodup_cons.1 h
    have hx := hs x List.mem_cons_self
    have := nodup_le (ys := ys.erase x) h2 (fun y hy => (List.mem_erase_of_ne (fun e => h1 (by rw [e] at hy; exact hy))).2 (hs y (List.mem_cons_of_mem _ hy)))
    rw [List.length_erase_of_mem hx] at this
    have hp := List.length_pos_of_mem hx
    rw [List.length_cons]
    omega

theorem mem_strike {q : List Int} {id x : Int} : x ∈ strike q id ↔ x ∈ q ∧ x ≠ id := by simp [strike]
theorem nodup_strike {q : List Int} (h : q.Nodup) (id : Int) : (strike q id).Nodup := List.Pairwise.filter _ h
theorem nodup_snoc {q : List Int} (h : q.Nodup) {id : Int} (hi : id ∉ q) : (q ++ [id]).Nodup := by
  rw [List.nodup_append]
  refine ⟨h, by simp, ?_⟩
  intro a ha b hb
  simp at hb
  subst hb
  exact fun e => hi (e ▸ ha)

section
variable {per n : Nat} {s : CS}

theorem OKs.qlen (h : OKs per n s) {i : Nat} (hi : i < n) : (s.Q i).length ≤ 64 := by
  have := nodup_le (ys := s.L.map (·.id)) (h.qone i hi) (fun y hy => by
    obtain ⟨x, hx, e, _⟩ := h.qin i hi y hy
    exact List.mem_map.2 ⟨x, hx, e⟩)
  rw [List.length_map] at this
  exact Nat.le_trans this h.few

theorem OKs.find (h : OKs per n s) {x : One} (hx : x ∈ s.L) : findO s.L x.id = some x := h.apart.find hx

theorem OKs.new (h1 : 1 ≤ n) (h8 : n ≤ 8) (p1 : 1 ≤ per) (p2 : per ≤ 1048576) : OKs per n ⟨[], fun _ => [], fun _ => 0, fun _ => false, fun _ => 0, 0⟩ :=
  ⟨List.Pairwise.nil, fun x hx => (by cases hx), Nat.zero_le _, rfl, fun i _ hb => (by cases hb), fun x hx => (by cases hx), fun i _ id hid => (by cases hid), fun x hx => (by cases hx), fun i _ => List.Pairwise.nil, fun i _ => ⟨Int.le_refl _, by show (0 : Int) ≤ 1048576; decide⟩, h1, h8, p1, p2⟩

/-- In no queue but its own. -/
theorem OKs.off (h : OKs per n s) {x : One} (hx : x ∈ s.L) {i : Nat} (hi : i < n) (hne : x.state ≠ 1 ∨ i ≠ x.core) : x.id ∉ s.Q i := by
  intro hm
  obtain ⟨y, hy, e, h1, h2⟩ := h.qin i hi _ hm
  obtain rfl := h.apart.one hy hx e
  rcases hne with hne | hne
  · exact hne h1
  · exact hne h2.symm

def addS (s : CS) (id : Int) (wt core : Nat) : CS := { s with L := s.L ++ [⟨id, wt, 0, core, 1⟩], Q := updN s.Q core (s.Q core ++ [id]), sum := s.sum + wt }
def removeS (s : CS) (x : One) : CS := { s with L := cutO s.L x.id, Q := updN s.Q x.core (strike (s.Q x.core) x.id), sum := s.sum - x.weight }
def blockS (s : CS) (x : One) : CS := { outC s x with L := setO s.L x.id fun y => { y with state := 3 } }
def pickS (s : CS) (x : One) (k : Nat) : CS := { s with L := setO s.L x.id fun y => { y with state := 2, core := k }, Q := updN s.Q x.core (strike (s.Q x.core) x.id), rv := updN s.rv k x.id, bs := updN s.bs k true, ran := updN s.ran k 0 }
def chargeS (per : Nat) (s : CS) (x : One) (k : Nat) (m : Int) : CS := { s with L := setO s.L x.id fun y => { y with credit := max (y.credit - m) (-(per : Int)) }, ran := updN s.ran k (min (s.ran k + m) 1048576) }
def yieldS (s : CS) (x : One) : CS := readyC (outC s x) x
def fillO (per sum : Nat) (y : One) : One := { y with credit := min (y.credit + max 1 ((per * y.weight / sum : Nat) : Int)) per }
def refillS (per : Nat) (s : CS) : CS := { s with L := s.L.map (fillO per s.sum) }

theorem OKs.add (h : OKs per n s) {id : Int} {wt core : Nat} (hw : (Lit.int .i64 id).wf = true) (w1 : 1 ≤ wt) (w2 : wt ≤ 256) (hc : core < n) (hf : findO s.L id = none) (hl : s.L.length < 64) : OKs per n (addS s id wt core) := by
  have hno := findO_none hf
  have hnq : ∀ i, i < n → id ∉ s.Q i := fun i hi hm => by
    obtain ⟨y, hy, e, _⟩ := h.qin i hi _ hm
    exact hno y hy e
  have hp := h.p1
  refine ⟨?_, ?_, ?_, ?_, ?_, ?_, ?_, ?_, ?_, h.ran, h.n1, h.n8, h.p1, h.p2⟩
  · refine List.pairwise_append.2 ⟨h.apart, List.pairwise_singleton _ _, fun a ha b hb => ?_⟩
    obtain rfl := List.mem_singleton.1 hb
    exact hno a ha
  · intro x hx
    rcases List.mem_append.1 hx with hx | hx
    · exact h.one x hx
    · obtain rfl := List.mem_singleton.1 hx
      exact ⟨hw, w1, w2, by show -(per : Int) ≤ 0; omega, by show (0 : Int) ≤ per; omega, hc, .inl rfl⟩
  · show (s.L ++ [_]).length ≤ 64
    rw [List.length_append, List.length_singleton]; omega
  · show s.sum + wt = sumW (s.L ++ [_])
    rw [sumW_append, h.sum]; rfl
  · intro i hi hb
    obtain ⟨x, hx, e⟩ := h.busy i hi hb
    exact ⟨x, List.mem_append_left _ hx, e⟩
  · intro x hx h2
    rcases List.mem_append.1 hx with hx | hx
    · exact h.runs x hx h2
    · obtain rfl := List.mem_singleton.1 hx
      exact absurd h2 (by show (1 : Int) ≠ 2; decide)
  · intro i hi y hy
    by_cases e : i = core
    · subst e
      simp only [addS, updN_same] at hy
      rcases List.mem_append.1 hy with hy | hy
      · obtain ⟨x, hx, e⟩ := h.qin i hi y hy
        exact ⟨x, List.mem_append_left _ hx, e⟩
      · obtain rfl := List.mem_singleton.1 hy
        exact ⟨_, List.mem_append_right _ (List.mem_singleton.2 rfl), rfl, rfl, rfl⟩
    · simp only [addS, updN_ne _ _ e] at hy
      obtain ⟨x, hx, e⟩ := h.qin i hi y hy
      exact ⟨x, List.mem_append_left _ hx, e⟩
  · intro x hx h1
    show x.id ∈ updN s.Q core _ x.core
    rcases List.mem_append.1 hx with hx | hx
    · have := h.qall x hx h1
      by_cases e : x.core = core
      · rw [e, updN_same]; rw [e] at this; exact List.mem_append_left _ this
      · rw [updN_ne _ _ e]; exact this
    · obtain rfl := List.mem_singleton.1 hx
      show id ∈ updN s.Q core _ core
      rw [updN_same]
      exact List.mem_append_right _ (List.mem_singleton.2 rfl)
  · intro i hi
    by_cases e : i = core
    · subst e
      simp only [addS, updN_same]
      exact nodup_snoc (h.qone i hi) (hnq i hi)
    · simp only [addS, updN_ne _ _ e]
      exact h.qone i hi

theorem mem_cutO {L : List One} {id : Int} {x : One} : x ∈ cutO L id ↔ x ∈ L ∧ x.id ≠ id := by simp [cutO]

theorem OKs.remove (h : OKs per n s) {x : One} (hx : x ∈ s.L) (h2 : x.state ≠ 2) : OKs per n (removeS s x) := by
  refine ⟨h.apart.filter _, fun y hy => h.one y (mem_cutO.1 hy).1, ?_, ?_, ?_, ?_, ?_, ?_, ?_, h.ran, h.n1, h.n8, h.p1, h.p2⟩
  · show (cutO s.L x.id).length ≤ 64
    have := cutO_length h.apart hx
    have := h.few
    omega
  · show s.sum - x.weight = sumW (cutO s.L x.id)
    have := sumW_cut h.apart hx
    rw [h.sum]; omega
  · intro i hi hb
    obtain ⟨y, hy, e1, e2, e3⟩ := h.busy i hi hb
    exact ⟨y, mem_cutO.2 ⟨hy, fun e => h2 (by rw [← h.apart.one hy hx e]; exact e2)⟩, e1, e2, e3⟩
  · intro y hy e
    exact h.runs y (mem_cutO.1 hy).1 e
  · intro i hi id hid
    have hid' : id ∈ s.Q i ∧ (i = x.core → id ≠ x.id) := by
      by_cases e : i = x.core
      · subst e
        simp only [removeS, updN_same] at hid
        have := mem_strike.1 hid
        exact ⟨this.1, fun _ => this.2⟩
      · simp only [removeS, updN_ne _ _ e] at hid
        exact ⟨hid, fun e2 => absurd e2 e⟩
    obtain ⟨y, hy, e1, e2, e3⟩ := h.qin i hi id hid'.1
    refine ⟨y, mem_cutO.2 ⟨hy, fun e => ?_⟩, e1, e2, e3⟩
    have := h.apart.one hy hx e
    exact hid'.2 (by rw [← this]; exact e3.symm) (by rw [← e1, e])
  · intro y hy h1
    obtain ⟨hy, hne⟩ := mem_cutO.1 hy
    have := h.qall y hy h1
    show y.id ∈ updN s.Q x.core _ y.core
    by_cases e : y.core = x.core
    · rw [e, updN_same]; rw [e] at this; exact mem_strike.2 ⟨this, hne⟩
    · rw [updN_ne _ _ e]; exact this
  · intro i hi
    by_cases e : i = x.core
    · subst e
      simp only [removeS, updN_same]
      exact nodup_strike (h.qone _ hi) _
    · simp only [removeS, updN_ne _ _ e]
      exact h.qone i hi

/-- What stands of a one that was changed. -/
theorem mem_set_ne {L : List One} {id : Int} {f : One → One} {x : One} (hx : x ∈ L) (h : x.id ≠ id) : x ∈ setO L id f := mem_setO.2 ⟨x, hx, by rw [if_neg h]⟩
theorem mem_set_eq {L : List One} {f : One → One} {x : One} (hx : x ∈ L) : f x ∈ setO L x.id f := mem_setO.2 ⟨x, hx, by rw [if_pos rfl]⟩
theorem mem_set_or {L : List One} (ha : ApartO L) {f : One → One} {x : One} (hx : x ∈ L) {y : One} (hy : y ∈ setO L x.id f) : y = f x ∨ (y ∈ L ∧ y.id ≠ x.id) := by
  obtain ⟨z, hz, rfl⟩ := mem_setO.1 hy
  by_cases e : z.id = x.id
  · rw [if_pos e]; exact .inl (by rw [ha.one hz hx e])
  · rw [if_neg e]; exact .inr ⟨hz, e⟩

/-- Of one that waited it becomes ready. -/
theorem OKs.wake (h : OKs per n s) {x : One} (hx : x ∈ s.L) (h3 : x.state = 3) : OKs per n (readyC s x) := by
  have hone := h.one x hx
  have hnq : ∀ i, i < n → x.id ∉ s.Q i := fun i hi => h.off hx hi (.inl (by rw [h3]; decide))
  refine ⟨apartO_ids (M := setO s.L x.id _) (setO_ids (by exact fun _ => rfl)).symm h.apart, fun y hy => ?_, ?_, ?_, ?_, ?_, ?_, ?_, ?_, h.ran, h.n1, h.n8, h.p1, h.p2⟩
  · rcases mem_set_or h.apart hx hy with rfl | ⟨hy, _⟩
    · obtain ⟨a, b, c, d, e, f, _⟩ := hone
      exact ⟨a, b, c, d, e, f, .inl rfl⟩
    · exact h.one y hy
  · show (setO s.L _ _).length ≤ 64
    rw [setO_length]; exact h.few
  · show s.sum = sumW (setO s.L _ _)
    rw [sumW_set]
    · exact h.sum
    · exact fun _ => rfl
  · intro i hi hb
    obtain ⟨y, hy, e1, e2, e3⟩ := h.busy i hi hb
    exact ⟨y, mem_set_ne hy (fun e => by have := h.apart.one hy hx e; rw [this, h3] at e2; revert e2; decide), e1, e2, e3⟩
  · intro y hy h2
    rcases mem_set_or h.apart hx hy with rfl | ⟨hy, _⟩
    · exact absurd h2 (by show (1 : Int) ≠ 2; decide)
    · exact h.runs y hy h2
  · intro i hi id hid
    have hid' : id ∈ s.Q i ∨ (i = x.core ∧ id = x.id) := by
      by_cases e : i = x.core
      · subst e
        simp only [readyC, updN_same] at hid
        rcases List.mem_append.1 hid with h | h
        · exact .inl h
        · exact .inr ⟨rfl, List.mem_singleton.1 h⟩
      · simp only [readyC, updN_ne _ _ e] at hid
        exact .inl hid
    rcases hid' with hid | ⟨rfl, rfl⟩
    · obtain ⟨y, hy, e1, e2, e3⟩ := h.qin i hi id hid
      exact ⟨y, mem_set_ne hy (fun e => hnq i hi (by rw [← e, e1]; exact hid)), e1, e2, e3⟩
    · exact ⟨_, mem_set_eq hx, rfl, rfl, rfl⟩
  · intro y hy h1
    show y.id ∈ updN s.Q x.core _ y.core
    rcases mem_set_or h.apart hx hy with rfl | ⟨hy, hne⟩
    · show x.id ∈ updN s.Q x.core _ x.core
      rw [updN_same]
      exact List.mem_append_right _ (List.mem_singleton.2 rfl)
    · have := h.qall y hy h1
      by_cases e : y.core = x.core
      · rw [e, updN_same]; rw [e] at this; exact List.mem_append_left _ this
      · rw [updN_ne _ _ e]; exact this
  · intro i hi
    by_cases e : i = x.core
    · subst e
      simp only [readyC, updN_same]
      exact nodup_snoc (h.qone _ hi) (hnq _ hi)
    · simp only [readyC, updN_ne _ _ e]
      exact h.qone i hi

theorem OKs.block (h : OKs per n s) {x : One} (hx : x ∈ s.L) : OKs per n (blockS s x) := by
  have hone := h.one x hx
  refine ⟨apartO_ids (M := setO s.L x.id _) (setO_ids (by exact fun _ => rfl)).symm h.apart, fun y hy => ?_, ?_, ?_, ?_, ?_, ?_, ?_, ?_, h.ran, h.n1, h.n8, h.p1, h.p2⟩
  · rcases mem_set_or h.apart hx hy with rfl | ⟨hy, _⟩
    · obtain ⟨a, b, c, d, e, f, _⟩ := hone
      exact ⟨a, b, c, d, e, f, .inr (.inr rfl)⟩
    · exact h.one y hy
  · show (setO s.L _ _).length ≤ 64
    rw [setO_length]; exact h.few
  · show s.sum = sumW (setO s.L _ _)
    rw [sumW_set]
    · exact h.sum
    · exact fun _ => rfl
  · intro i hi hb
    have hb' : s.bs i = true ∧ (x.state = 2 → i ≠ x.core) := by
      simp only [blockS, outC] at hb
      by_cases e2 : x.state = 2
      · rw [if_pos e2] at hb
        by_cases e : i = x.core
        · rw [e, updN_same] at hb; cases hb
        · rw [updN_ne _ _ e] at hb; exact ⟨hb, fun _ => e⟩
      · rw [if_neg e2] at hb; exact ⟨hb, fun h => absurd h e2⟩
    obtain ⟨y, hy, e1, e2, e3⟩ := h.busy i hi hb'.1
    refine ⟨y, mem_set_ne hy (fun e => ?_), e1, e2, e3⟩
    have := h.apart.one hy hx e
    exact hb'.2 (by rw [← this]; exact e2) (by rw [← this]; exact e3.symm)
  · intro y hy h2
    rcases mem_set_or h.apart hx hy with rfl | ⟨hy, hne⟩
    · exact absurd h2 (by show (3 : Int) ≠ 2; decide)
    · obtain ⟨a, b⟩ := h.runs y hy h2
      refine ⟨?_, b⟩
      show (if x.state = 2 then updN s.bs x.core false else s.bs) y.core = true
      split
      · rename_i e2
        rw [updN_ne]
        · exact a
        · intro e
          have := (h.runs x hx e2).2
          rw [← e, b] at this
          exact hne this
      · exact a
  · intro i hi id hid
    have hid' : id ∈ s.Q i ∧ (i = x.core → id ≠ x.id) := by
      by_cases e : i = x.core
      · subst e
        simp only [blockS, outC, updN_same] at hid
        have := mem_strike.1 hid
        exact ⟨this.1, fun _ => this.2⟩
      · simp only [blockS, outC, updN_ne _ _ e] at hid
        exact ⟨hid, fun e2 => absurd e2 e⟩
    obtain ⟨y, hy, e1, e2, e3⟩ := h.qin i hi id hid'.1
    refine ⟨y, mem_set_ne hy (fun e => ?_), e1, e2, e3⟩
    have := h.apart.one hy hx e
    exact hid'.2 (by rw [← this]; exact e3.symm) (by rw [← e1, e])
  · intro y hy h1
    show y.id ∈ updN s.Q x.core _ y.core
    rcases mem_set_or h.apart hx hy with rfl | ⟨hy, hne⟩
    · exact absurd h1 (by show (3 : Int) ≠ 1; decide)
    · have := h.qall y hy h1
      by_cases e : y.core = x.core
      · rw [e, updN_same]; rw [e] at this; exact mem_strike.2 ⟨this, hne⟩
      · rw [updN_ne _ _ e]; exact this
  · intro i hi
    by_cases e : i = x.core
    · subst e
      simp only [blockS, outC, updN_same]
      exact nodup_strike (h.qone _ hi) _
    · simp only [blockS, outC, updN_ne _ _ e]
      exact h.qone i hi

theorem OKs.pick (h : OKs per n s) {x : One} (hx : x ∈ s.L) (h1 : x.state = 1) {k : Nat} (hk : k < n) (hb : s.bs k = false) : OKs per n (pickS s x k) := by
  have hone := h.one x hx
  refine ⟨apartO_ids (M := setO s.L x.id _) (setO_ids (by exact fun _ => rfl)).symm h.apart, fun y hy => ?_, ?_, ?_, ?_, ?_, ?_, ?_, ?_, ?_, h.n1, h.n8, h.p1, h.p2⟩
  · rcases mem_set_or h.apart hx hy with rfl | ⟨hy, _⟩
    · obtain ⟨a, b, c, d, e, f, _⟩ := hone
      exact ⟨a, b, c, d, e, hk, .inr (.inl rfl)⟩
    · exact h.one y hy
  · show (setO s.L _ _).length ≤ 64
    rw [setO_length]; exact h.few
  · show s.sum = sumW (setO s.L _ _)
    rw [sumW_set]
    · exact h.sum
    · exact fun _ => rfl
  · intro i hi hbi
    by_cases e : i = k
    · subst e
      exact ⟨_, mem_set_eq hx, by show x.id = updN s.rv i x.id i; rw [updN_same], rfl, rfl⟩
    · simp only [pickS, updN_ne _ _ e] at hbi
      obtain ⟨y, hy, e1, e2, e3⟩ := h.busy i hi hbi
      exact ⟨y, mem_set_ne hy (fun e' => by have := h.apart.one hy hx e'; rw [this, h1] at e2; revert e2; decide), by show y.id = updN s.rv k x.id i; rw [updN_ne _ _ e]; exact e1, e2, e3⟩
  · intro y hy h2
    rcases mem_set_or h.apart hx hy with rfl | ⟨hy, hne⟩
    · exact ⟨by show updN s.bs k true k = true; rw [updN_same], by show updN s.rv k x.id k = x.id; rw [updN_same]⟩
    · obtain ⟨a, b⟩ := h.runs y hy h2
      have e : y.core ≠ k := fun e => by rw [e, hb] at a; cases a
      exact ⟨by show updN s.bs k true y.core = true; rw [updN_ne _ _ e]; exact a, by show updN s.rv k x.id y.core = y.id; rw [updN_ne _ _ e]; exact b⟩
  · intro i hi id hid
    have hid' : id ∈ s.Q i ∧ (i = x.core → id ≠ x.id) := by
      by_cases e : i = x.core
      · subst e
        simp only [pickS, updN_same] at hid
        have := mem_strike.1 hid
        exact ⟨this.1, fun _ => this.2⟩
      · simp only [pickS, updN_ne _ _ e] at hid
        exact ⟨hid, fun e2 => absurd e2 e⟩
    obtain ⟨y, hy, e1, e2, e3⟩ := h.qin i hi id hid'.1
    refine ⟨y, mem_set_ne hy (fun e => ?_), e1, e2, e3⟩
    have := h.apart.one hy hx e
    exact hid'.2 (by rw [← this]; exact e3.symm) (by rw [← e1, e])
  · intro y hy hy1
    show y.id ∈ updN s.Q x.core _ y.core
    rcases mem_set_or h.apart hx hy with rfl | ⟨hy, hne⟩
    · exact absurd hy1 (by show (2 : Int) ≠ 1; decide)
    · have := h.qall y hy hy1
      by_cases e : y.core = x.core
      · rw [e, updN_same]; rw [e] at this; exact mem_strike.2 ⟨this, hne⟩
      · rw [updN_ne _ _ e]; exact this
  · intro i hi
    by_cases e : i = x.core
    · subst e
      simp only [pickS, updN_same]
      exact nodup_strike (h.qone _ hi) _
    · simp only [pickS, updN_ne _ _ e]
      exact h.qone i hi
  · intro i hi
    show 0 ≤ updN s.ran k 0 i ∧ updN s.ran k 0 i ≤ 1048576
    by_cases e : i = k
    · rw [e, updN_same]; exact ⟨Int.le_refl _, by decide⟩
    · rw [updN_ne _ _ e]; exact h.ran i hi

/-- A change of credits alone. -/
theorem OKs.credits (h : OKs per n s) (f : One → One) (hf : ∀ y, (f y).id = y.id ∧ (f y).weight = y.weight ∧ (f y).core = y.core ∧ (f y).state = y.state) (hc : ∀ y ∈ s.L, -(per : Int) ≤ (f y).credit ∧ (f y).credit ≤ per) (ran : Nat → Int) (hr : ∀ i, i < n → 0 ≤ ran i ∧ ran i ≤ 1048576) :
    OKs per n { s with L := s.L.map f, ran := ran } := by
  have ids : (s.L.map f).map (·.id) = s.L.map (·.id) := by
    rw [List.map_map]
    exact List.map_congr_left (fun x _ => (hf x).1)
  have sw : ∀ L : List One, sumW (L.map f) = sumW L := by
    intro L
    induction L with
    | nil => rfl
    | cons y L ih => show (f y).weight + sumW (L.map f) = _; rw [ih, (hf y).2.1]; rfl
  refine ⟨apartO_ids ids.symm h.apart, fun y hy => ?_, by show (s.L.map f).length ≤ 64; rw [List.length_map]; exact h.few, by show s.sum = sumW (s.L.map f); rw [sw]; exact h.sum, fun i hi hb => ?_, fun y hy h2 => ?_, fun i hi id hid => ?_, fun y hy h1 => ?_, h.qone, hr, h.n1, h.n8, h.p1, h.p2⟩
  · obtain ⟨z, hz, rfl⟩ := List.mem_map.1 hy
    obtain ⟨a, b, c, d, e, g, k⟩ := h.one z hz
    obtain ⟨f1, f2, f3, f4⟩ := hf z
    exact ⟨by rw [f1]; exact a, by rw [f2]; exact b, by rw [f2]; exact c, (hc z hz).1, (hc z hz).2, by rw [f3]; exact g, by rw [f4]; exact k⟩
  · obtain ⟨z, hz, e1, e2, e3⟩ := h.busy i hi hb
    obtain ⟨f1, f2, f3, f4⟩ := hf z
    exact ⟨f z, List.mem_map_of_mem hz, by rw [f1]; exact e1, by rw [f4]; exact e2, by rw [f3]; exact e3⟩
  · obtain ⟨z, hz, rfl⟩ := List.mem_map.1 hy
    obtain ⟨f1, f2, f3, f4⟩ := hf z
    rw [f4] at h2
    rw [f3, f1]
    exact h.runs z hz h2
  · obtain ⟨z, hz, e1, e2, e3⟩ := h.qin i hi id hid
    obtain ⟨f1, f2, f3, f4⟩ := hf z
    exact ⟨f z, List.mem_map_of_mem hz, by rw [f1]; exact e1, by rw [f4]; exact e2, by rw [f3]; exact e3⟩
  · obtain ⟨z, hz, rfl⟩ := List.mem_map.1 hy
    obtain ⟨f1, f2, f3, f4⟩ := hf z
    rw [f4] at h1
    rw [f3, f1]
    exact h.qall z hz h1

theorem OKs.charge (h : OKs per n s) {x : One} {k : Nat} {m : Int} (m1 : 0 ≤ m) (_ : m ≤ 1048576) : OKs per n (chargeS per s x k m) := by
  refine h.credits (fun y => if y.id = x.id then { y with credit := max (y.credit - m) (-(per : Int)) } else y) (fun y => by split <;> exact ⟨rfl, rfl, rfl, rfl⟩) (fun y hy => ?_) _ (fun i hi => ?_)
  · obtain ⟨_, _, _, d, e, _⟩ := h.one y hy
    split
    · dsimp only; omega
    · exact ⟨d, e⟩
  · by_cases e : i = k
    · subst e
      have := h.ran i hi
      rw [updN_same]; omega
    · rw [updN_ne _ _ e]; exact h.ran i hi

theorem OKs.refill (h : OKs per n s) : OKs per n (refillS per s) := by
  refine h.credits (fillO per s.sum) (fun y => ⟨rfl, rfl, rfl, rfl⟩) (fun y hy => ?_) s.ran h.ran
  obtain ⟨_, _, _, d, e, _⟩ := h.one y hy
  have := h.p1
  unfold fillO
  dsimp only
  omega

/-- Who runs becomes ready, behind the others. -/
theorem OKs.yield (h : OKs per n s) {x : One} (hx : x ∈ s.L) : OKs per n (yieldS s x) := by
  have hb := h.block hx
  have e : yieldS s x = readyC (blockS s x) { x with state := 3 } := by
    unfold yieldS readyC blockS
    have : setO (setO s.L x.id fun y => { y with state := 3 }) x.id (fun y => { y with state := 1 }) = setO s.L x.id fun y => { y with state := 1 } := by
      unfold setO
      rw [List.map_map]
      apply List.map_congr_left
      intro y _
      show (if (if y.id = x.id then _ else y : One).id = x.id then _ else _) = _
      by_cases e : y.id = x.id <;> simp [e]
    simp only [this, outC]
  rw [e]
  exact hb.wake (x := { x with state := 3 }) (mem_set_eq hx) rfl
end
end Go.Proofs.Ytehjekcfhmmggaa

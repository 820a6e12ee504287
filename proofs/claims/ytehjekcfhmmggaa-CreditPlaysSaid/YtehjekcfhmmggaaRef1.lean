/-
  The reference's Find, Has, Runs; what their places are. No conditions.
-/
import Derived.Test.YtehjekcfhmmggaaRef0
import Derived.Deep.LoopGhost
namespace Go.Proofs.Ytehjekcfhmmggaa
open Go.RowKit

/-- The place of the first of which p holds. -/
def idxL (p : One → Bool) (xs : List One) : Int := if xs.any p = true then (xs.findIdx p : Nat) else -1

theorem idxL_hit {p : One → Bool} {xs : List One} {j : Nat} {x : One} (hx : xs[j]? = some x) (hp : p x = true) (hb : ∀ i y, i < j → xs[i]? = some y → p y = false) : idxL p xs = j := by
  have hj := (List.getElem?_eq_some_iff.1 hx).1
  have hxe := (List.getElem?_eq_some_iff.1 hx).2
  unfold idxL
  rw [if_pos (List.any_eq_true.2 ⟨x, List.mem_of_getElem? hx, hp⟩)]
  congr 1
  rw [List.findIdx_eq hj]
  refine ⟨by rw [hxe]; exact hp, fun i hi => hb i _ hi (List.getElem?_eq_getElem (by omega))⟩
theorem idxL_miss {p : One → Bool} {xs : List One} (hb : ∀ i y, i < xs.length → xs[i]? = some y → p y = false) : idxL p xs = -1 := by
  unfold idxL
  rw [if_neg]
  rw [List.any_eq_true]
  rintro ⟨x, hx, hp⟩
  obtain ⟨i, hi, rfl⟩ := List.getElem_of_mem hx
  rw [hb i _ hi (List.getElem?_eq_getElem hi)] at hp
  cases hp
theorem idxL_cases (p : One → Bool) (xs : List One) : (idxL p xs = -1 ∧ ∀ x ∈ xs, p x = false) ∨ ∃ (j : Nat) (x : One), idxL p xs = j ∧ xs[j]? = some x ∧ p x = true := by
  unfold idxL
  cases h : xs.any p with
  | false =>
    rw [if_neg (by decide)]
    exact .inl ⟨rfl, fun x hx => by have := List.any_eq_false.1 h x hx; simpa using this⟩
  | true =>
    rw [if_pos rfl]
    have hl : xs.findIdx p < xs.length := List.findIdx_lt_length_of_exists (List.any_eq_true.1 h)
    exact .inr ⟨xs.findIdx p, xs[xs.findIdx p], rfl, List.getElem?_eq_getElem hl, List.findIdx_getElem (w := hl)⟩

def findP (L : List One) (id : Int) : Int := idxL (fun x => decide (x.id = id)) L
def runP (L : List One) (k : Int) : Int := idxL (fun x => decide (x.state = 2) && decide ((x.core : Int) = k)) L

theorem findP_none {L : List One} {id : Int} (h : findO L id = none) : findP L id = -1 :=
  idxL_miss (fun _ y _ hy => decide_eq_false (findO_none h y (List.mem_of_getElem? hy)))
theorem findP_some {L : List One} {id : Int} {x : One} (ha : ApartO L) (h : findO L id = some x) : ∃ j : Nat, findP L id = j ∧ L[j]? = some x := by
  obtain ⟨hx, e⟩ := findO_mem h
  rcases idxL_cases (fun x => decide (x.id = id)) L with ⟨_, h2⟩ | ⟨j, y, h1, h2, h3⟩
  · have := h2 x hx
    simp [e] at this
  · refine ⟨j, h1, ?_⟩
    rw [h2, ha.one (List.mem_of_getElem? h2) hx (by rw [e]; exact of_decide_eq_true h3)]
theorem findP_ge {L : List One} (id : Int) : decide (0 ≤ findP L id) = (findO L id).isSome := by
  rcases idxL_cases (fun x => decide (x.id = id)) L with ⟨h1, h2⟩ | ⟨j, y, h1, h2, h3⟩
  · have : findO L id = none := by
      cases h : findO L id with
      | none => rfl
      | some x =>
        obtain ⟨hx, e⟩ := findO_mem h
        have := h2 x hx
        simp [e] at this
    unfold findP
    rw [h1, this]; rfl
  · have h4 : findO L id ≠ none := fun h => findO_none h y (List.mem_of_getElem? h2) (of_decide_eq_true h3)
    unfold findP
    rw [h1, decide_eq_true (by omega : (0 : Int) ≤ j)]
    cases h : findO L id with
    | none => exact absurd h h4
    | some x => rfl

section
variable {per n : Nat} {s : CS} (ok : OKs per n s)
include ok
theorem runP_no {k : Nat} (hb : s.bs k = false) : runP s.L k = -1 :=
  idxL_miss (fun _ y _ hy => by
    have hy := List.mem_of_getElem? hy
    by_cases h1 : y.state = 2
    · have := (ok.runs y hy h1).1
      by_cases h2 : y.core = k
      · rw [h2, hb] at this; cases this
      · rw [decide_eq_true h1, decide_eq_false (by omega : ¬ (y.core : Int) = k)]; rfl
    · rw [decide_eq_false h1]; rfl)
theorem runP_yes {k : Nat} (hk : k < n) (hb : s.bs k = true) : ∃ (j : Nat) (x : One), runP s.L k = j ∧ s.L[j]? = some x ∧ x.id = s.rv k ∧ x.state = 2 ∧ x.core = k ∧ findO s.L (s.rv k) = some x := by
  obtain ⟨x, hx, e1, e2, e3, e4, _⟩ := ok.runner hk hb
  rcases idxL_cases (fun x => decide (x.state = 2) && decide ((x.core : Int) = k)) s.L with ⟨h1, h2⟩ | ⟨j, y, h1, h2, h3⟩
  · have := h2 x hx
    simp [e2, e3] at this
  · have hy := List.mem_of_getElem? h2
    have h4 : y.state = 2 ∧ (y.core : Int) = k := by simpa using h3
    have hc : y.core = k := by omega
    have h5 := (ok.runs y hy h4.1).2
    rw [hc] at h5
    obtain rfl := ok.apart.one hx hy (by rw [e1, h5])
    exact ⟨j, x, h1, h2, e1, e2, e3, e4⟩
end

section
variable (S : Nat → Prop) (w : World) (rb : Nat) (l : RLay) (per n : Nat) (L : List One) (Q : Nat → List Int) (r : Nat → Int) (h : RAt S w rb l per n L Q r)
include h

set_option maxHeartbeats 1000000 in
/-- Has. -/
theorem rhas_c (i : Int) : Calls Try.prog 45 #[.pointer (some ⟨rb, 0, none⟩), .int .i64 i] w fun e w' => e = .returned (.bool (inR n i)) ∧ w = w' := by
  obtain ⟨c0, _⟩ := h.c
  clear h
  by_cases h0 : 0 ≤ i
  · by_cases h1 : i < n
    · have e : inR n i = true := decide_eq_true ⟨h0, h1⟩
      rw [e]
      clear e
      go_enter Try.func45, Try.ntmps45
      go_wp2_with fail
      go_ret
      exact ⟨rfl, rfl⟩
    · have e : inR n i = false := decide_eq_false (fun h => h1 h.2)
      rw [e]
      clear e
      go_enter Try.func45, Try.ntmps45
      go_wp2_with fail
      go_ret
      exact ⟨rfl, rfl⟩
  · have e : inR n i = false := decide_eq_false (fun h => h0 h.1)
    rw [e]
    clear e
    go_enter Try.func45, Try.ntmps45
    go_wp2_with fail
    go_ret
    exact ⟨rfl, rfl⟩

set_option maxHeartbeats 1000000 in
set_option maxRecDepth 100000 in
/-- Find. -/
theorem rfind_c (id : Int) : Calls Try.prog 25 #[.pointer (some ⟨rb, 0, none⟩), .int .i64 id] w fun e w' => e = .returned (.int .i64 (findP L id)) ∧ w = w' := by
  obtain ⟨c0, c1, c2, c3, _⟩ := h.c
  obtain ⟨f0, f1⟩ := h.fit
  unfold maxLen at f1
  have H := hid h
  obtain ⟨R, hR0⟩ : ∃ R : Int, R = findP L id := ⟨_, rfl⟩
  rw [← hR0]
  have hR := hid hR0
  clear h hR0
  go_enter Try.func25, Try.ntmps25
  go_wp2_with fail
  go_loopg [5] L.length (fun gg vi wr => ∃ j : Nat, j ≤ L.length ∧ (∀ i y, i < j → L[i]? = some y → decide (y.id = id) = false) ∧ gg = L.length - j ∧ vi = .int .i64 j ∧ wr = w)
  case atStart => exact ⟨0, Nat.zero_le _, fun i e hi => absurd hi (by omega), rfl, rfl, rfl⟩
  case round =>
    as_aux_lemma =>
      obtain ⟨j, hj, hbef0, rfl, rfl, rfl⟩ := hrel
      have hbef := hid hbef0
      clear hbef0
      by_cases hlt : j < L.length
      · obtain ⟨x, hx⟩ : ∃ x, L[j]? = some x := ⟨L[j], List.getElem?_eq_getElem hlt⟩
        obtain ⟨g, hg, k0, k1, k2, k3, k4, _⟩ := H.out.x hx
        rw [hg] at c2
        have hjl : ((j : Int) < (L.length : Int)) := by omega
        have hx := hid hx
        by_cases h1 : x.id = id
        · have hF := hid (show R = j by rw [hR.out]; exact idxL_hit hx.out (decide_eq_true h1) hbef.out)
          have e1 : (x.id == id) = true := by simpa using h1
          clear h1 hj hlt hg
          go_wp2_with fail
          go_ret
          exact ⟨by rw [hF.out]; rfl, rfl⟩
        · have hi := hid (show decide (x.id = id) = false from decide_eq_false h1)
          have e1 : (x.id == id) = false := by simpa using h1
          clear h1 hg
          go_wp2_with fail
          go_roundg (L.length - (j + 1))
          case measure => omega
          case rel => exact ⟨j + 1, by omega, fun i y hi' hy' => by
            rcases Nat.lt_succ_iff_lt_or_eq.1 hi' with h | rfl
            · exact hbef.out i y h hy'
            · obtain rfl := Option.some.inj (hx.out.symm.trans hy'); exact hi.out, rfl, by go_num, rfl⟩
      · have hjn : ¬ ((j : Int) < (L.length : Int)) := by omega
        have hF := hid (show R = -1 by rw [hR.out]; exact idxL_miss (fun i y hi => hbef.out i y (by omega)))
        clear hj hlt
        go_wp2_with fail
        go_ret
        exact ⟨by rw [hF.out]; rfl, rfl⟩

set_option maxHeartbeats 1000000 in
set_option maxRecDepth 100000 in
/-- Runs. -/
theorem rruns_c (q : Int) : Calls Try.prog 46 #[.pointer (some ⟨rb, 0, none⟩), .int .i64 q] w fun e w' => e = .returned (.int .i64 (runP L q)) ∧ w = w' := by
  obtain ⟨c0, c1, c2, c3, _⟩ := h.c
  obtain ⟨f0, f1⟩ := h.fit
  unfold maxLen at f1
  have H := hid h
  obtain ⟨R, hR0⟩ : ∃ R : Int, R = runP L q := ⟨_, rfl⟩
  rw [← hR0]
  have hR := hid hR0
  clear h hR0
  go_enter Try.func46, Try.ntmps46
  go_wp2_with fail
  go_loopg [5] L.length (fun gg vi wr => ∃ j : Nat, j ≤ L.length ∧ (∀ i y, i < j → L[i]? = some y → (decide (y.state = 2) && decide ((y.core : Int) = q)) = false) ∧ gg = L.length - j ∧ vi = .int .i64 j ∧ wr = w)
  case atStart => exact ⟨0, Nat.zero_le _, fun i e hi => absurd hi (by omega), rfl, rfl, rfl⟩
  case round =>
    as_aux_lemma =>
      obtain ⟨j, hj, hbef0, rfl, rfl, rfl⟩ := hrel
      have hbef := hid hbef0
      clear hbef0
      by_cases hlt : j < L.length
      · obtain ⟨x, hx⟩ : ∃ x, L[j]? = some x := ⟨L[j], List.getElem?_eq_getElem hlt⟩
        obtain ⟨g, hg, k0, k1, k2, k3, k4, _⟩ := H.out.x hx
        rw [hg] at c2
        have hjl : ((j : Int) < (L.length : Int)) := by omega
        have hx := hid hx
        by_cases h1 : x.state = 2
        · have e1 : (x.state == 2) = true := by simpa using h1
          by_cases h2 : (x.core : Int) = q
          · have hF := hid (show R = j by rw [hR.out]; exact idxL_hit hx.out (by rw [decide_eq_true h1, decide_eq_true h2]; rfl) hbef.out)
            have e2 : ((x.core : Int) == q) = true := by simpa using h2
            clear h1 h2 hj hlt hg
            go_wp2_with fail
            go_ret
            exact ⟨by rw [hF.out]; rfl, rfl⟩
          · have hi := hid (show (decide (x.state = 2) && decide ((x.core : Int) = q)) = false by rw [decide_eq_false h2, Bool.and_false])
            have e2 : ((x.core : Int) == q) = false := by simpa using h2
            clear h1 h2 hg
            go_wp2_with fail
            go_roundg (L.length - (j + 1))
            case measure => omega
            case rel => exact ⟨j + 1, by omega, fun i y hi' hy' => by
              rcases Nat.lt_succ_iff_lt_or_eq.1 hi' with h | rfl
              · exact hbef.out i y h hy'
              · obtain rfl := Option.some.inj (hx.out.symm.trans hy'); exact hi.out, rfl, by go_num, rfl⟩
        · have hi := hid (show (decide (x.state = 2) && decide ((x.core : Int) = q)) = false by rw [decide_eq_false h1, Bool.false_and])
          have e1 : (x.state == 2) = false := by simpa using h1
          clear h1 hg
          go_wp2_with fail
          go_roundg (L.length - (j + 1))
          case measure => omega
          case rel => exact ⟨j + 1, by omega, fun i y hi' hy' => by
            rcases Nat.lt_succ_iff_lt_or_eq.1 hi' with h | rfl
            · exact hbef.out i y h hy'
            · obtain rfl := Option.some.inj (hx.out.symm.trans hy'); exact hi.out, rfl, by go_num, rfl⟩
      · have hjn : ¬ ((j : Int) < (L.length : Int)) := by omega
        have hF := hid (show R = -1 by rw [hR.out]; exact idxL_miss (fun i y hi => hbef.out i y (by omega)))
        clear hj hlt
        go_wp2_with fail
        go_ret
        exact ⟨by rw [hF.out]; rfl, rfl⟩
end
end Go.Proofs.Ytehjekcfhmmggaa

/-
  Two wires, in one of which a group is silent: the other group's queues are the same. Plain; no program; no conditions.
-/
import Derived.Test.YtjoamafcmknglaaApart0
namespace Go.Proofs.Ytjoamafcmknglaa

/-- The even ports' queues are the same, and hold what even ports sent. -/
def Even (Q Q' : QS) : Prop := (Q 0 = Q' 0 ∧ Q 2 = Q' 2) ∧ (∀ m ∈ Q 0, m.1 = 0 ∨ m.1 = 2) ∧ (∀ m ∈ Q 2, m.1 = 0 ∨ m.1 = 2)

theorem Even.put {Q Q' : QS} (h : Even Q Q') (j f : Nat) (hf : f = 0 ∨ f = 2) (hj : j = 0 ∨ j = 2) (b : List UInt8) : Even (putQ Q j ((f : Int), b)) (putQ Q' j ((f : Int), b)) := by
  obtain ⟨⟨h0, h2⟩, m0, m2⟩ := h
  have hff : (f : Int) = 0 ∨ (f : Int) = 2 := by omega
  rcases hj with rfl | rfl
  · unfold putQ
    rw [← h0]
    split
    · refine ⟨⟨by simp [updA, h0], by simp [updA, h2]⟩, fun m hm => ?_, fun m hm => m2 m (by simpa [updA] using hm)⟩
      simp [updA] at hm
      rcases hm with hm | rfl
      · exact m0 m hm
      · exact hff
    · exact ⟨⟨h0, h2⟩, m0, m2⟩
  · unfold putQ
    rw [← h2]
    split
    · refine ⟨⟨by simp [updA, h0], by simp [updA, h2]⟩, fun m hm => m0 m (by simpa [updA] using hm), fun m hm => ?_⟩
      simp [updA] at hm
      rcases hm with hm | rfl
      · exact m2 m hm
      · exact hff
    · exact ⟨⟨h0, h2⟩, m0, m2⟩

theorem Even.odd {Q Q' : QS} (h : Even Q Q') (j : Nat) (hj : j = 1 ∨ j = 3) (m : Int × List UInt8) : Even (putQ Q j m) Q' := by
  obtain ⟨⟨h0, h2⟩, m0, m2⟩ := h
  unfold putQ
  split
  · rcases hj with rfl | rfl
    · exact ⟨⟨by simp [updA, h0], by simp [updA, h2]⟩, fun m hm => m0 m (by simpa [updA] using hm), fun m hm => m2 m (by simpa [updA] using hm)⟩
    · exact ⟨⟨by simp [updA, h0], by simp [updA, h2]⟩, fun m hm => m0 m (by simpa [updA] using hm), fun m hm => m2 m (by simpa [updA] using hm)⟩
  · exact ⟨⟨h0, h2⟩, m0, m2⟩

theorem Even.rcv {Q Q' : QS} (h : Even Q Q') (j : Nat) (hj : j = 0 ∨ j = 2) : Even (rcvQ Q j) (rcvQ Q' j) ∧ rcvF Q j = rcvF Q' j ∧ rcvB Q j = rcvB Q' j ∧ rcvO Q j = rcvO Q' j ∧ (rcvF Q j = 0 ∨ rcvF Q j = 2) := by
  obtain ⟨⟨h0, h2⟩, m0, m2⟩ := h
  rcases hj with rfl | rfl
  · unfold rcvQ rcvF rcvB rcvO
    rw [← h0]
    cases hq : Q 0 with
    | nil => exact ⟨⟨⟨h0, h2⟩, m0, m2⟩, rfl, rfl, rfl, .inl rfl⟩
    | cons m l =>
      refine ⟨⟨⟨by simp [updA], by simp [updA, h2]⟩, fun x hx => m0 x ?_, fun x hx => m2 x (by simpa [updA] using hx)⟩, rfl, rfl, rfl, m0 m (by rw [hq]; exact List.mem_cons_self)⟩
      rw [hq]
      exact List.mem_cons_of_mem _ (by simpa [updA] using hx)
  · unfold rcvQ rcvF rcvB rcvO
    rw [← h2]
    cases hq : Q 2 with
    | nil => exact ⟨⟨⟨h0, h2⟩, m0, m2⟩, rfl, rfl, rfl, .inl rfl⟩
    | cons m l =>
      refine ⟨⟨⟨by simp [updA, h0], by simp [updA]⟩, fun x hx => m0 x (by simpa [updA] using hx), fun x hx => m2 x ?_⟩, rfl, rfl, rfl, m2 m (by rw [hq]; exact List.mem_cons_self)⟩
      rw [hq]
      exact List.mem_cons_of_mem _ (by simpa [updA] using hx)

theorem Even.rcvOdd {Q Q' : QS} (h : Even Q Q') (j : Nat) (hj : j = 1 ∨ j = 3) : Even (rcvQ Q j) Q' := by
  obtain ⟨⟨h0, h2⟩, m0, m2⟩ := h
  unfold rcvQ
  split
  · exact ⟨⟨h0, h2⟩, m0, m2⟩
  · rcases hj with rfl | rfl
    · exact ⟨⟨by simp [updA, h0], by simp [updA, h2]⟩, fun m hm => m0 m (by simpa [updA] using hm), fun m hm => m2 m (by simpa [updA] using hm)⟩
    · exact ⟨⟨by simp [updA, h0], by simp [updA, h2]⟩, fun m hm => m0 m (by simpa [updA] using hm), fun m hm => m2 m (by simpa [updA] using hm)⟩

theorem allTo0 (b : List UInt8) (Q : QS) : allTo gg 0 b Q 4 = (putQ Q 2 (0, b), if (Q 2).length < 16 then 1 else 0) := by
  simp [allTo, allStep, gg]
theorem allTo2 (b : List UInt8) (Q : QS) : allTo gg 2 b Q 4 = (putQ Q 0 (2, b), if (Q 0).length < 16 then 1 else 0) := by
  simp [allTo, allStep, gg]
  rfl
theorem allTo1 (b : List UInt8) (Q : QS) : allTo gg 1 b Q 4 = (putQ Q 3 (1, b), if (Q 3).length < 16 then 1 else 0) := by
  simp [allTo, allStep, gg]
theorem allTo3 (b : List UInt8) (Q : QS) : allTo gg 3 b Q 4 = (putQ Q 1 (3, b), if (Q 1).length < 16 then 1 else 0) := by
  simp [allTo, allStep, gg]

theorem Even.send {Q Q' : QS} (h : Even Q Q') (f : Nat) (hf : f = 0 ∨ f = 2) (t : Int) (ht : -1 ≤ t ∧ t < 4) (b : List UInt8) :
    (sendR 4 gg Q f t b).1 = (sendR 4 gg Q' f t b).1 ∧ Even (sendR 4 gg Q f t b).2 (sendR 4 gg Q' f t b).2 := by
  have h' := h
  obtain ⟨⟨h0, h2⟩, _⟩ := h'
  have e : t = -1 ∨ t = 0 ∨ t = 1 ∨ t = 2 ∨ t = 3 := by omega
  by_cases hb : b.length ≤ 2048
  · rcases hf with rfl | rfl
    · have hp := h.put 2 0 (.inl rfl) (.inr rfl) b
      rcases e with rfl | rfl | rfl | rfl | rfl <;> simp [sendR, inR, hb, allTo0, gg, h2] <;> first | exact hp | exact h
    · have hp := h.put 0 2 (.inr rfl) (.inl rfl) b
      rcases e with rfl | rfl | rfl | rfl | rfl <;> simp [sendR, inR, hb, allTo2, gg, h0] <;> first | exact hp | exact h
  · rcases hf with rfl | rfl <;> rcases e with rfl | rfl | rfl | rfl | rfl <;> simp [sendR, inR, hb] <;> exact h

theorem Even.sendOdd {Q Q' : QS} (h : Even Q Q') (f : Nat) (hf : f = 1 ∨ f = 3) (t : Int) (ht : -1 ≤ t ∧ t < 4) (b : List UInt8) : Even (sendR 4 gg Q f t b).2 Q' := by
  have e : t = -1 ∨ t = 0 ∨ t = 1 ∨ t = 2 ∨ t = 3 := by omega
  by_cases hb : b.length ≤ 2048
  · rcases hf with rfl | rfl
    · have hp := fun m => h.odd 3 (.inr rfl) m
      rcases e with rfl | rfl | rfl | rfl | rfl <;> simp [sendR, inR, hb, allTo1, gg] <;> first | exact hp _ | exact h
    · have hp := fun m => h.odd 1 (.inl rfl) m
      rcases e with rfl | rfl | rfl | rfl | rfl <;> simp [sendR, inR, hb, allTo3, gg] <;> first | exact hp _ | exact h
  · rcases hf with rfl | rfl <;> rcases e with rfl | rfl | rfl | rfl | rfl <;> simp [sendR, inR, hb] <;> exact h
end Go.Proofs.Ytjoamafcmknglaa

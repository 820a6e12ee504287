/-
  Go's slices.IndexFunc, ContainsFunc, Clone at int, and the scheduler's search over its queues. No conditions.
-/
import Derived.Test.YtehjekcfhmmggaaCre2
namespace Go.Proofs.Ytehjekcfhmmggaa
open Go.RowKit
open Go.Maps (Keyed)

/-- A function value that says p of each of these. -/
def FnAt (w : World) (g : Nat) (pre lb : Array Value) (p : Int → Bool) (xs : List Int) : Prop :=
  ∀ x ∈ xs, Calls Try.prog g (pre.push (.int .i64 x) ++ lb) w fun e w' => e = .returned (.bool (p x)) ∧ w = w'

/-- A slice of ints that may be read. -/
def RdI (w : World) (a : Option Addr) (xs : List Int) : Prop := ∀ (j : Nat) x, xs[j]? = some x → ∃ b off, a = some ⟨b, off, none⟩ ∧ w.cell? ⟨b, off + j, none⟩ = some (.int .i64 x)

theorem RdI.of_owns {w : World} {base l c n : Nat} {a : Option Addr} {xs : List Int} (h : w.ownsRow base 3 1 (.slice a l c) n (ints xs)) : RdI w a xs := by
  intro j x hx
  rcases h.2 with ⟨hv, h0⟩ | ⟨g, cap', cur, hv, _⟩
  · have := h.1
    rw [ints_length, h0] at this
    have := (List.getElem?_eq_some_iff.1 hx).1
    omega
  · simp only [Value.slice.injEq] at hv
    refine ⟨g, 0, hv.1, ?_⟩
    have hc := h.cells (g := g) (by rw [ownBlock_slice, hv.1]; rfl) j (.int .i64 x) (by unfold ints; rw [List.getElem?_map, hx]; rfl)
    simpa [Addr.add_lit] using hc

/-- The place of the first of which p holds. -/
def idxI (p : Int → Bool) (xs : List Int) : Int := if xs.any p = true then (xs.findIdx p : Nat) else -1

theorem idxI_hit {p : Int → Bool} {xs : List Int} {j : Nat} {x : Int} (hx : xs[j]? = some x) (hp : p x = true) (hb : ∀ i y, i < j → xs[i]? = some y → p y = false) : idxI p xs = j := by
  have hj := (List.getElem?_eq_some_iff.1 hx).1
  have hxe := (List.getElem?_eq_some_iff.1 hx).2
  unfold idxI
  rw [if_pos (List.any_eq_true.2 ⟨x, List.mem_of_getElem? hx, hp⟩)]
  congr 1
  rw [List.findIdx_eq hj]
  refine ⟨by rw [hxe]; exact hp, fun i hi => hb i _ hi (List.getElem?_eq_getElem (by omega))⟩
theorem idxI_miss {p : Int → Bool} {xs : List Int} (hb : ∀ i y, i < xs.length → xs[i]? = some y → p y = false) : idxI p xs = -1 := by
  unfold idxI
  rw [if_neg]
  rw [List.any_eq_true]
  rintro ⟨x, hx, hp⟩
  obtain ⟨i, hi, rfl⟩ := List.getElem_of_mem hx
  rw [hb i _ hi (List.getElem?_eq_getElem hi)] at hp
  cases hp

set_option maxHeartbeats 1000000 in
theorem indexFunc (w : World) (a : Option Addr) (c : Nat) (xs : List Int) (hx : RdI w a xs) (hc : xs.length ≤ c) (hm : c ≤ maxLen) (g : Nat) (pre lb : Array Value) (p : Int → Bool) (eg : ∀ args w, (callFunc g args).run Try.prog w = .ok (.enter g args) w) (hp : FnAt w g pre lb p xs) :
    Calls Try.prog 48 #[.slice a xs.length c, .func (.func g) pre lb] w fun e w' => e = .returned (.int .i64 (idxI p xs)) ∧ w = w' := by
  unfold maxLen at hm
  obtain ⟨R, hR0⟩ : ∃ R : Int, R = idxI p xs := ⟨_, rfl⟩
  rw [← hR0]
  have hR := hid hR0
  have HX := hid hx
  have HP := hid hp
  clear hR0 hx hp
  go_enter Try.func48, Try.ntmps48
  go_wp2_with fail
  go_loopg [5, 8] xs.length (fun gg _ vi wr => ∃ j : Nat, j ≤ xs.length ∧ Hid (∀ i y, i < j → xs[i]? = some y → p y = false) ∧ gg = xs.length - j ∧ vi = .int .i64 j ∧ wr = w)
  case atStart => exact ⟨0, Nat.zero_le _, fun i y hi => absurd hi (by omega), rfl, rfl, rfl⟩
  case round =>
    obtain ⟨j, hj, hbef, rfl, rfl, rfl⟩ := hrel
    by_cases hlt : j < xs.length
    · obtain ⟨x, he⟩ : ∃ x, xs[j]? = some x := ⟨xs[j], List.getElem?_eq_getElem hlt⟩
      obtain ⟨b, off, hb, hcell⟩ := HX.out j x he
      subst hb
      have hjl : ((j : Int) < (xs.length : Int)) := by omega
      have hcall := HP.out x (List.mem_of_getElem? he)
      cases hpx : p x with
      | true =>
        rw [hpx] at hcall
        have hF := hid (hR.out.trans (idxI_hit he hpx hbef.out))
        have hcall := hid hcall
        clear he hpx
        go_wp2_with fail
        with_reducible refine hcall.out.mono ?_
        rintro e w' ⟨rfl, rfl⟩
        go_wp2_with fail
        go_ret
        exact ⟨by rw [hF.out]; rfl, rfl⟩
      | false =>
        rw [hpx] at hcall
        have he := hid he
        have hpx := hid hpx
        have hcall := hid hcall
        go_wp2_with fail
        with_reducible refine hcall.out.mono ?_
        rintro e w' ⟨rfl, rfl⟩
        go_wp2_with fail
        go_roundg (xs.length - (j + 1))
        case measure => omega
        case rel => exact ⟨j + 1, by omega, fun i y hi hy => by
          rcases Nat.lt_succ_iff_lt_or_eq.1 hi with h | rfl
          · exact hbef.out i y h hy
          · obtain rfl := Option.some.inj (he.out.symm.trans hy); exact hpx.out, rfl, by go_num, rfl⟩
    · have hjn : ¬ ((j : Int) < (xs.length : Int)) := by omega
      have hF := hid (hR.out.trans (idxI_miss (fun i y hi => hbef.out i y (by omega))))
      go_wp2_with fail
      go_ret
      exact ⟨by rw [hF.out]; rfl, rfl⟩

theorem containsFunc (w : World) (a : Option Addr) (c : Nat) (xs : List Int) (hx : RdI w a xs) (hc : xs.length ≤ c) (hm : c ≤ maxLen) (g : Nat) (pre lb : Array Value) (p : Int → Bool) (eg : ∀ args w, (callFunc g args).run Try.prog w = .ok (.enter g args) w) (hp : FnAt w g pre lb p xs) :
    Calls Try.prog 35 #[.slice a xs.length c, .func (.func g) pre lb] w fun e w' => e = .returned (.bool (xs.any p)) ∧ w = w' := by
  have HI := hid (indexFunc w a c xs hx hc hm g pre lb p eg hp)
  clear hx hp
  cases hh : xs.any p with
  | true =>
    have e : idxI p xs = (xs.findIdx p : Nat) := by unfold idxI; rw [if_pos hh]
    rw [e] at HI
    clear e hh
    go_enter Try.func35, Try.ntmps35
    go_wp2_with (go_at_call 48; refine HI.out.mono ?_; rintro e w' ⟨rfl, rfl⟩)
    go_ret
    exact ⟨rfl, rfl⟩
  | false =>
    have e : idxI p xs = -1 := by unfold idxI; rw [if_neg (by rw [hh]; decide)]
    rw [e] at HI
    clear e hh
    go_enter Try.func35, Try.ntmps35
    go_wp2_with (go_at_call 48; refine HI.out.mono ?_; rintro e w' ⟨rfl, rfl⟩)
    go_ret
    exact ⟨rfl, rfl⟩
end Go.Proofs.Ytehjekcfhmmggaa

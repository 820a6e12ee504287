/-
  CreditPlays, walked. No conditions.
-/
import Derived.Test.YtehjekcfhmmggaaPlayS
namespace Go.Proofs.Ytehjekcfhmmggaa
open Go.RowKit

section
variable {W : World} {cb rb per n : Nat} {w : World} {s : CS} (h : Pair W cb rb per n w s)
include h
theorem Pair.stands : Calls Try.prog 24 #[.pointer (some ⟨cb, 0, none⟩), .pointer (some ⟨rb, 0, none⟩)] w fun e w' => e = .returned (.bool true) ∧ Hid (Pair W cb rb per n w' s) := by
  obtain ⟨S, T, hC, ⟨l, r, hA, hr⟩, _⟩ := h.reg
  exact (stands_c S T w cb rb per n s l r hC hA hr h.ok).mono fun e w' ⟨a, b⟩ => ⟨a, h.still b.out⟩
theorem Pair.look (id : Int) (hw : (Lit.int .i64 id).wf = true) : ∃ a b c d : Int, Calls Try.prog 11 #[.pointer (some ⟨cb, 0, none⟩), .int .i64 id] w fun e w' => e = .returned (.tuple #[.agg #[.int .i64 a, .int .i64 b, .int .i64 c, .int .i64 d], .bool (findO s.L id).isSome]) ∧ Hid (Pair W cb rb per n w' s) := by
  obtain ⟨S, T, hC, _⟩ := h.reg
  have := look_c S w cb per n s hC h.ok id hw
  unfold lookV at this
  cases hf : findO s.L id with
  | none =>
    rw [hf] at this
    exact ⟨0, 0, 0, 0, this.mono fun e w' ⟨a, b⟩ => ⟨a, h.still b.out⟩⟩
  | some x =>
    rw [hf] at this
    exact ⟨x.state, x.core, x.weight, x.credit, this.mono fun e w' ⟨a, b⟩ => ⟨a, h.still b.out⟩⟩
theorem Pair.find (id : Int) : Calls Try.prog 25 #[.pointer (some ⟨rb, 0, none⟩), .int .i64 id] w fun e w' => e = .returned (.int .i64 (findP s.L id)) ∧ w = w' := by
  obtain ⟨S, T, _, ⟨l, r, hA, _⟩, _⟩ := h.reg
  exact rfind_c T w rb l per n s.L s.Q r hA id
end

def PlayI (W : World) (cb rb per n pl g : Nat) (vi : Value) (wr : World) : Prop :=
  ∃ (i : Nat) (s : CS), i ≤ pl ∧ g = pl - i ∧ vi = .int .i64 i ∧ Pair W cb rb per n wr s

set_option maxHeartbeats 1000000 in
theorem names_ok (w : World) : Calls Try.prog 22 #[] w fun e w' => e = .returned (.bool true) ∧ w = w' := by
  go_enter Try.func22, Try.ntmps22
  go_wp2
  go_ret
  exact ⟨rfl, rfl⟩

set_option maxHeartbeats 4000000 in
set_option maxRecDepth 100000 in
theorem play_walk (x y : Int) (po : Option Addr) (pl pc : Nat) (ac : Nat → Act5) (W : World) (hA : Acts W po pl pc ac) :
    Calls Try.prog 5 #[.int .i64 x, .int .i64 y, .slice po pl pc] W fun e w' => e = .returned (.bool true) ∧ Below W.heap.size W w' := by
  have HA := hid hA
  have p1 := hA.1
  have p2 := hA.2.1
  clear hA
  by_cases hc : badN x y
  · have H1 := hid (new_bad W x y hc)
    have H2 := hid (rnew_bad W x y hc)
    clear hc
    go_enter Try.func5, Try.ntmps5
    go_wp2_with (first
      | (go_at_call 8; refine H1.out.mono ?_; rintro e w' ⟨rfl, rfl⟩)
      | (go_at_call 21; refine H2.out.mono ?_; rintro e w' ⟨rfl, rfl⟩)
      | (go_at_call 22; refine (names_ok _).mono ?_; rintro e w' ⟨rfl, rfl⟩)
      | fail)
    go_loopw [11] (fun vi wr => vi = .int .i64 0 ∧ wr = W) (fun _ _ => 0)
    case atStart => exact ⟨rfl, rfl⟩
    case round =>
      as_aux_lemma =>
        obtain ⟨rfl, rfl⟩ := hrel
        by_cases h0 : (0 : Int) < pl
        · go_wp2
          go_ret
          exact ⟨rfl, Below.refl _ _⟩
        · go_wp2
          go_ret
          exact ⟨rfl, Below.refl _ _⟩
  · obtain ⟨n, rfl⟩ : ∃ n : Nat, x = n := ⟨x.toNat, by unfold badN at hc; omega⟩
    obtain ⟨per, rfl⟩ : ∃ n : Nat, y = n := ⟨y.toNat, by unfold badN at hc; omega⟩
    have hn1 : 1 ≤ n := by unfold badN at hc; omega
    have hn8 : n ≤ 8 := by unfold badN at hc; omega
    have hp1 : 1 ≤ per := by unfold badN at hc; omega
    have hp2 : per ≤ 1048576 := by unfold badN at hc; omega
    clear hc
    have H1 : Hid (Calls Try.prog 8 #[.int .i64 n, .int .i64 per] W fun e w' => ∃ cb, e = .returned (.tuple #[.pointer (some ⟨cb, 0, none⟩), .int .i64 0]) ∧ Hid (CR (fun k => W.heap.size ≤ k) w' cb per n emptyC) ∧ Hid (Fr (fun _ => False) W w')) := hid ((new_ok (fun k => W.heap.size ≤ k) W n per hn1 hn8 hp1 hp2 (fun _ h => h)).mono fun _ _ h => ⟨_, h⟩)
    have H2 : Hid (∀ w : World, Calls Try.prog 21 #[.int .i64 n, .int .i64 per] w fun e w' => ∃ rb, e = .returned (.tuple #[.pointer (some ⟨rb, 0, none⟩), .int .i64 0]) ∧ Hid (RR (fun k => w.heap.size ≤ k) w' rb per n emptyC) ∧ Hid (Fr (fun _ => False) w w')) := hid (fun w => (rnew_ok (fun k => w.heap.size ≤ k) w n per hn1 hn8 hp1 hp2 (fun _ h => h)).mono fun _ _ h => ⟨_, h⟩)
    have hok := hid (OKs.new hn1 hn8 hp1 hp2)
    go_enter Try.func5, Try.ntmps5
    go_wp2_with (first
      | (go_at_call 8; refine H1.out.mono ?_; rintro e w0 ⟨cb, rfl, L0, F0⟩)
      | (go_at_call 21; refine (H2.out w0).mono ?_; rintro e w1 ⟨rb, rfl, R1, F1⟩)
      | (go_at_call 22; refine (names_ok _).mono ?_; rintro e w' ⟨rfl, rfl⟩)
      | fail)
    have hst : Hid (PlayI W cb rb per n pl pl (.int .i64 0) w1) := ⟨0, emptyC, Nat.zero_le _, rfl, rfl, Pair.new hok.out L0.out F0.out R1.out F1.out⟩
    clear L0 R1 F1 F0 H1 H2 hok
    go_loopg [11, 12, 13] pl (fun g vi _ _ wr => PlayI W cb rb per n pl g vi wr)
    case atStart => exact hst.out
    case round =>
      as_aux_lemma =>
        obtain ⟨i, s, hi, rfl, rfl, hP⟩ := hrel
        by_cases hlt : i < pl
        · obtain ⟨b, off, hpo, k0, k1, k2, k3, k4, y1⟩ := HA.out.2.2 i hlt
          subst hpo
          obtain ⟨a, ha⟩ : ∃ a, a = ac i := ⟨_, rfl⟩
          rw [← ha] at k0 k1 k2 k3 k4 y1
          have Y1 := hid y1
          clear ha y1
          have K1 := hid k1
          have old : ∀ {p : Addr} {u : Value}, W.cell? p = some u → wr.cell? p = some u := fun {p u} hc => (hP.fr.cell (block_lt_of_cell hc) (Nat.not_le_of_lt (block_lt_of_cell hc))).trans hc
          have oldW : Hid (∀ wx s', Pair W cb rb per n wx s' → wx.cell? ⟨b, off + i * 5 + 1, none⟩ = some (.int .i64 a.id)) := hid (fun wx s' P => (P.fr.cell (block_lt_of_cell K1.out) (Nat.not_le_of_lt (block_lt_of_cell K1.out))).trans K1.out)
          replace k0 := old k0
          replace k1 := old k1
          replace k2 := old k2
          replace k3 := old k3
          replace k4 := old k4
          have HD := hid (does_c W cb rb per n wr s a hP Y1.out)
          unfold actCells at HD
          clear hP hst HA old K1
          go_upto_region 10 with (first
            | (go_at_call 23; refine HD.out.mono ?_; rintro e w2 ⟨rfl, s2, P2⟩)
            | (go_at_call 24; refine P2.out.stands.mono ?_; rintro e w3 ⟨rfl, P3⟩)
            | fail)
          clear k0 k1 k2 k3 k4 HD
          have k1 := oldW.out _ _ P3.out
          obtain ⟨v0, v1, v2, v3, hL⟩ := P3.out.look a.id Y1.out
          have HL := hid hL
          clear hL
          go_upto_region 11 with (first
            | (go_at_call 11; refine HL.out.mono ?_; rintro e w4 ⟨rfl, P4⟩)
            | fail)
          obtain ⟨w5, hw⟩ : ∃ w5, w5 = w4.alloc (.cells #[.int .i64 v0, .int .i64 v1, .int .i64 v2, .int .i64 v3] 29) := ⟨_, rfl⟩
          rw [← hw]
          have P5 := hid (P4.out.still (w' := w5) (by rw [hw]; exact (Fr.refl _ w4).alloc _))
          clear hw k1 HL
          have k1 := oldW.out _ _ P5.out
          have hge := findP_ge (L := s2.L) a.id
          have HF := hid (P5.out.find a.id)
          generalize findP s2.L a.id = f at *
          cases hv : (findO s2.L a.id).isSome with
          | true =>
            have hf : f ≥ 0 := of_decide_eq_true (hge.trans hv)
            clear hge
            go_wp2_with (first
              | (go_at_call 25; refine HF.out.mono ?_; rintro e w6 ⟨rfl, rfl⟩)
              | fail)
            go_roundg (pl - (i + 1))
            case measure => omega
            case rel => exact ⟨i + 1, s2, by omega, rfl, by go_num, P5.out⟩
          | false =>
            have hf : ¬ f ≥ 0 := of_decide_eq_false (hge.trans hv)
            clear hge
            go_wp2_with (first
              | (go_at_call 25; refine HF.out.mono ?_; rintro e w6 ⟨rfl, rfl⟩)
              | fail)
            go_roundg (pl - (i + 1))
            case measure => omega
            case rel => exact ⟨i + 1, s2, by omega, rfl, by go_num, P5.out⟩
        · have hb := hid (hP.fr.below (Nat.le_refl _) (fun k hk h => Nat.not_le_of_lt hk h))
          clear hP hst HA
          go_wp2
          go_ret
          exact ⟨rfl, hb.out⟩
end Go.Proofs.Ytehjekcfhmmggaa

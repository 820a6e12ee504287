/-
  The reference's out: one is in no queue any more. No conditions.
-/
import Derived.Test.YtehjekcfhmmggaaRef2
namespace Go.Proofs.Ytehjekcfhmmggaa
open Go.RowKit

def outN (Q : Nat → List Int) (id : Int) (i : Nat) : Nat → List Int := fun k => if k < i then strike (Q k) id else Q k

theorem outN_zero (Q : Nat → List Int) (id : Int) : outN Q id 0 = Q := by
  funext k
  simp [outN]
theorem outN_at (Q : Nat → List Int) (id : Int) (i : Nat) : outN Q id i i = Q i := by simp [outN]
theorem outN_step (Q : Nat → List Int) (id : Int) (i : Nat) : updN (outN Q id i) i (strike (Q i) id) = outN Q id (i + 1) := by
  funext k
  unfold updN outN
  by_cases e : k = i
  · subst e
    rw [if_pos rfl, if_pos (by omega)]
  · rw [if_neg e]
    by_cases h : k < i
    · rw [if_pos h, if_pos (by omega)]
    · rw [if_neg h, if_neg (by omega)]

theorem owns_base {w : World} {b b' : Nat} {e : TypeId} {size : Nat} {v : Value} {n : Nat} {xs : List Value} (h : w.ownsRow b e size v n xs) (hb : b' ≤ b) : w.ownsRow b' e size v n xs := by
  refine ⟨h.1, ?_⟩
  rcases h.2 with h2 | ⟨g, cap, cur, hv, hbg, r⟩
  · exact .inl h2
  · exact .inr ⟨g, cap, cur, hv, Nat.le_trans hb hbg, r⟩

def OutI (S : Nat → Prop) (w : World) (rb per n : Nat) (L : List One) (Q : Nat → List Int) (r : Nat → Int) (id : Int) (g : Nat) (v : Value) (wr : World) : Prop :=
  ∃ (i : Nat) (l : RLay), i ≤ n ∧ g = n - i ∧ v = .int .i64 i ∧ Hid (RAt S wr rb l per n L (outN Q id i) r) ∧ Hid (Fr S w wr)
def OutJ (wo : World) (q : List Int) (id : Int) (g : Nat) (v5 v6 : Value) (wx : World) : Prop :=
  ∃ (j m : Nat) (ao : Option Addr) (c : Nat), j ≤ q.length ∧ m ≤ j ∧ g = q.length - j ∧ v6 = .int .i64 j ∧ v5 = .slice ao m c ∧ Hid (wx.ownsRow wo.heap.size 3 1 (.slice ao m c) m (ints (strike (q.take j) id))) ∧ Hid (Fr (fun _ => False) wo wx)

set_option maxHeartbeats 2000000 in
set_option maxRecDepth 100000 in
theorem rout_c (S : Nat → Prop) (w : World) (rb : Nat) (l : RLay) (per n : Nat) (L : List One) (Q : Nat → List Int) (r : Nat → Int) (h : RAt S w rb l per n L Q r) (hS : ∀ k, w.heap.size ≤ k → S k) (hn : n ≤ 8) (hq : ∀ i, i < n → (Q i).length ≤ 4096) (id : Int) :
    Calls Try.prog 51 #[.pointer (some ⟨rb, 0, none⟩), .int .i64 id] w fun e w' => e = .returned (.tuple #[]) ∧ Hid (∃ l', RAt S w' rb l' per n L (fun i => strike (Q i) id) r) ∧ Hid (Fr S w w') := by
  obtain ⟨i0, hi0, hz0, hz1, hz2⟩ := info_int
  have H := hid h
  have HS := hid hS
  have HQ := hid hq
  clear h hS hq
  go_enter Try.func51, Try.ntmps51
  go_wp2_with fail
  go_loopg [4, 5, 6] n (fun gg v4 _ _ wr => OutI S w rb per n L Q r id gg v4 wr)
  case atStart => exact ⟨0, l, Nat.zero_le _, rfl, rfl, by rw [outN_zero]; exact H.out, Fr.refl S w⟩
  case round =>
    as_aux_lemma =>
      obtain ⟨i, l1, hi, rfl, rfl, A, F⟩ := hrel
      clear H
      obtain ⟨wo, hwo⟩ : ∃ wo, wo = wr := ⟨_, rfl⟩
      subst hwo
      obtain ⟨c0, c1, c2, c3, cf⟩ := A.out.c
      by_cases hlt : i < n
      · have hil : ((i : Int) < (n : Int)) := by omega
        obtain ⟨q, hqd⟩ : ∃ q, q = Q i := ⟨_, rfl⟩
        have hql := HQ.out i hlt
        rw [← hqd] at hql
        obtain ⟨f0, f1⟩ := A.out.qfit hlt
        unfold maxLen at f1
        rw [outN_at, ← hqd] at f0
        clear cf c1 c2
        go_wp2_with fail
        go_loopg [5, 6] q.length (fun gg v5 v6 wx => OutJ wo q id gg v5 v6 wx)
        case atStart => exact ⟨0, 0, none, 0, Nat.zero_le _, Nat.le_refl _, rfl, rfl, rfl, World.ownsRow_nil _ _ _ _, Fr.refl _ _⟩
        case round =>
          as_aux_lemma =>
            obtain ⟨j, m, ao, c, hj, hmj, rfl, rfl, rfl, O, G⟩ := hrel
            have A2 := hid (A.out.kept G.out (fun _ _ _ h => h))
            clear c0 c3
            obtain ⟨c0, c1, c2, c3, cf⟩ := A2.out.c
            obtain ⟨k0, kf⟩ := A2.out.q hlt
            rw [outN_at, ← hqd] at k0
            clear cf c1 c2
            by_cases hjl : j < q.length
            · have hj1 : ((j : Int) < (q.length : Int)) := by omega
              obtain ⟨y, hy⟩ : ∃ y, q[j]? = some y := ⟨_, List.getElem?_eq_getElem hjl⟩
              obtain ⟨g, hg, ky⟩ := A2.out.qe hlt (j := j) (y := y) (by rw [outN_at, ← hqd]; exact hy)
              rw [hg] at k0
              by_cases hyi : y = id
              · have O2 : Hid (wr.ownsRow wo.heap.size 3 1 (.slice ao m c) m (ints (strike (q.take (j + 1)) id))) := hid (by rw [strike_take hy, if_pos hyi]; exact O.out)
                have e1 : (y == id) = true := by simpa using hyi
                clear hy hyi hqd hg
                go_wp2_with fail
                go_roundg (q.length - (j + 1))
                case measure => omega
                case rel => exact ⟨j + 1, m, ao, c, by omega, by omega, rfl, by go_num, rfl, O2, G⟩
              · have e1 : (y == id) = false := by simpa using hyi
                have hpast := hid (owns_blk O.out)
                have hrow : Hid (∀ wb : World, wb.heap = (wr.alloc (.cells #[.int .i64 y] 3)).heap → wb.ownsRow wo.heap.size 3 1 (.slice ao m c) m (ints (strike (q.take j) id)) ∧ ∀ ad, some (⟨wr.heap.size, 0, none⟩ : Addr) = some ad → ∀ j u, [Value.int .i64 y][j]? = some u → wb.cell? (ad.add j) = some u) := hid (by
                  intro wb hw
                  refine ⟨owns_of_heap O.out (fun g hg => by rw [hw]; exact Below.heap_alloc _ _ _ (owns_lt O.out g (by rw [ownBlock_slice] at hg; exact hg))), fun ad had => ?_⟩
                  cases had
                  exact World.news_of_block (cs := #[Value.int .i64 y]) (t := 3) (fr := (0, 0)) (by rw [hw]; exact heap_alloc_new wr _))
                have hst : Hid (ints (strike (q.take j) id) ++ [Value.int .i64 y] = ints (strike (q.take (j + 1)) id)) := hid (by rw [strike_take hy, if_neg hyi]; simp [ints])
                have hsz := G.out.size
                clear hy hyi hqd hg
                go_wp2_with (first
                  | (at_builtin; refine wpList_append_gen rfl (.tmp 39) (.tmp 50) 49 rfl 3 i0 (.int .i64 0) 1 8 Try.underlying49 hi0 hz0 hz1 hz2 rfl (by decide) wo.heap.size ao m c _ (by simp [Act.eval]) (hrow.out _ (by rfl)).1 (some ⟨wr.heap.size, 0, none⟩) 1 1 [.int .i64 y] (by simp [Act.eval]) rfl (fun e => by cases e) (hrow.out _ (by rfl)).2 (by simp [Value.oneCell']) (by unfold maxLen; omega) (by omega) (by rw [World.size_alloc]; omega) ?_; intro ao2 c2 w2 hown hgr hat; rw [hst.out] at hown; have O2 := hid hown; have G2 := hid (((G.out.alloc _).grown hgr (fun k e hk => Nat.not_le_of_lt hk (hpast.out k e).1))); clear hown hgr hat)
                  | fail)
                go_roundg (q.length - (j + 1))
                case measure => omega
                case rel => exact ⟨j + 1, m + 1, ao2, c2, by omega, by omega, rfl, by go_num, by go_num, O2, G2⟩
            · have hjn : ¬ ((j : Int) < (q.length : Int)) := by omega
              have hm2 : Hid (ints (strike (q.take j) id) = ints (strike q id)) := hid (by rw [List.take_of_length_le (by omega)])
              rw [hm2.out] at O
              have hl := O.out.1
              rw [ints_length, Nat.mul_one] at hl
              have hfin := hid (A.out.setQ hlt wr ⟨G.out.os, G.out.tape, G.out.output, G.out.size, fun k hk _ => G.out.block k hk (fun h => h)⟩ ao c (strike q id) (by rw [hl]; exact owns_base O.out (Nat.zero_le _)) (fun g hg => .inr (owns_blk O.out g hg).1) (fun k hk => HS.out k (Nat.le_trans F.out.size hk)))
              rw [hl, hqd, outN_step] at hfin
              have hfr := hid ((F.out.then (T := fun _ => False) G.out (fun _ _ h => h.elim)).setCell (p := ⟨l1.qb, i, none⟩) (fun _ => A.out.mine.2.1) (.slice ao m c))
              clear hm2 hl hqd
              go_wp2_with fail
              go_roundg (n - (i + 1))
              case measure => omega
              case rel => exact ⟨i + 1, _, by omega, rfl, by go_num, hfin, hfr⟩
      · have hjn : ¬ ((i : Int) < (n : Int)) := by omega
        have hfin : Hid (∃ l', RAt S wo rb l' per n L (fun i => strike (Q i) id) r) := hid ⟨l1, A.out.congr (fun k hk => by unfold outN; rw [if_pos (by omega)])⟩
        clear A HQ HS
        go_wp2_with fail
        exact ⟨rfl, .tuple #[], by kernel_rfl, rfl, hfin, F⟩
end Go.Proofs.Ytehjekcfhmmggaa

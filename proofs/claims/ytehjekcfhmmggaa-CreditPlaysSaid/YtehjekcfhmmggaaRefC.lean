/-
  The reference's Pick. No conditions.
-/
import Derived.Test.YtehjekcfhmmggaaRefB
namespace Go.Proofs.Ytehjekcfhmmggaa
open Go.RowKit

/-- The order as it stands, in a row of the call's own. -/
def PL (w : World) (O : List Int) (B : Nat) (v : Value) (wx : World) : Prop :=
  ∃ (m : Nat) (ao : Option Addr) (c : Nat), m ≤ B ∧ v = .slice ao m c ∧ Hid (wx.ownsRow w.heap.size 3 1 (.slice ao m c) m (ints O)) ∧ Hid (Fr (fun _ => False) w wx)

theorem owns_head {w : World} {B m c : Nat} {ao : Option Addr} {y : Int} {T : List Int} (h : w.ownsRow B 3 1 (.slice ao m c) m (ints (y :: T))) : ∃ g, ao = some ⟨g, 0, none⟩ ∧ w.cell? ⟨g, 0, none⟩ = some (.int .i64 y) ∧ B ≤ g ∧ m = T.length + 1 := by
  have hl := h.1
  have hm : m = T.length + 1 := by simp [ints] at hl; omega
  have hs := Seg.of_owns h
  rcases h.2 with ⟨hv, h0⟩ | ⟨g, cap, cur, hv, hB, hg, _⟩
  · omega
  · simp only [Value.slice.injEq] at hv
    have := hs.cell hv.1 0 (.int .i64 y) rfl
    rw [Nat.zero_add] at this
    exact ⟨g, hv.1, this, hB, hm⟩

theorem RanR.zero {per n : Nat} {c r : Nat → Int} (h : RanR per n c r) (hp : 1 ≤ per) (k : Nat) : RanR per n (updN c k 0) (updN r k 0) := by
  intro i hi
  by_cases e : i = k
  · subst e
    rw [updN_same, updN_same]
    exact ⟨by omega, by omega, .inl ⟨by omega, rfl⟩⟩
  · rw [updN_ne _ _ e, updN_ne _ _ e]
    exact h i hi

theorem rpick_fin {S : Nat → Prop} {w : World} {rb per n : Nat} {s : CS} {l : RLay} {r : Nat → Int} (ok : OKs per n s) (hr : RanR per n s.ran r) {j : Nat} {x : One} (hx : s.L[j]? = some x) (hxm : x ∈ s.L) {core : Nat}
    (A : RAt S w rb l per n (s.L.set j { x with state := 2, core := core }) (fun i => strike (s.Q i) x.id) (updN r core 0)) : RR S w rb per n (pickS s x core) := by
  have e := set_setO ok.apart hx (fun y => { y with state := 2, core := core })
  rw [e] at A
  exact ⟨l, _, A.congr (fun i hi => strike_all ok hxm i hi), hr.zero ok.p1 core⟩

section
variable (S : Nat → Prop) (w : World) (rb per n : Nat) (s : CS) (h : RR S w rb per n s) (ok : OKs per n s)
include h ok

set_option maxHeartbeats 8000000 in
set_option maxRecDepth 100000 in
theorem rpick_in (hS : ∀ k, w.heap.size ≤ k → S k) (core : Nat) (hk : core < n) (hb : s.bs core = false) :
    Calls Try.prog 41 #[.pointer (some ⟨rb, 0, none⟩), .int .i64 core] w fun e w' => e = .returned (.tuple #[.int .i64 (pickV n s core).1, .bool (pickV n s core).2.1, .int .i64 (pickV n s core).2.2]) ∧ Hid (RR S w' rb per n (pickN n s core)) ∧ Hid (Fr S w w') := by
  obtain ⟨l, r, h, hr⟩ := h
  have HH := hid (rhas_c S w rb l per n s.L s.Q r h core)
  have HN := hid (rruns_c S w rb l per n s.L s.Q r h core)
  rw [inR_of hk] at HH
  rw [runP_no ok hb] at HN
  have H := hid h
  have HO := hid ok
  have HR := hid hr
  have HS := hid hS
  have HB := hid hb
  have hn8 := ok.n8
  have hneg : ¬ ((-1 : Int) ≥ 0) := by decide
  clear h ok hr hS hb
  go_enter Try.func41, Try.ntmps41
  go_wp2_with (first
    | (go_at_call 45; refine HH.out.mono ?_; rintro e w' ⟨rfl, rfl⟩)
    | (go_at_call 46; refine HN.out.mono ?_; rintro e w' ⟨rfl, rfl⟩)
    | fail)
  obtain ⟨i0, hi0, hz0, hz1, hz2⟩ := info_int
  have P0 : PL w (ordR s n core 0) 0 (.slice (some ⟨w.heap.size, 0, none⟩) 0 0) (w.alloc (.cells #[] 3)) := ⟨0, _, _, Nat.le_refl _, rfl, World.ownsRow_made w #[] 0 (Nat.le_refl _) (Nat.zero_le _) rfl, (Fr.refl _ w).alloc _⟩
  generalize w.alloc (.cells #[] 3) = wa at *
  clear HH HN
  go_loopg [7, 8, 9, 10, 11] 2 (fun gg v7 v8 _ _ _ wx => ∃ q : Nat, q ≤ 2 ∧ gg = 2 - q ∧ v8 = .int .i64 q ∧ PL w (ordR s n core q) (q * 512) v7 wx)
  case atStart => exact ⟨0, Nat.zero_le _, rfl, rfl, P0⟩
  case round =>
    obtain ⟨q, hq, rfl, rfl, hP⟩ := hrel
    clear P0
    by_cases hq2 : q < 2
    · as_aux_lemma =>
        have hqi : ((q : Int) < 2) := by omega
        rw [← ordR_in hq2] at hP
        go_wp2_with fail
        go_loopg [7, 9, 10, 11] n (fun gg v7 v9 _ _ wx => ∃ i : Nat, i ≤ n ∧ gg = n - i ∧ v9 = .int .i64 i ∧ PL w (ordO s n core q i 0) (q * 512 + i * 64) v7 wx)
        case atStart => exact ⟨0, Nat.zero_le _, rfl, rfl, hP⟩
        case round =>
          clear hP
          obtain ⟨i, hi, rfl, rfl, m, ao, c, hm, rfl, hO, hF⟩ := hrel
          have A := hid (H.out.kept hF.out (fun _ _ _ h => h))
          obtain ⟨c0, c1, c2, c3, _⟩ := A.out.c
          by_cases hin : i < n
          · as_aux_lemma =>
              have hil : ((i : Int) < (n : Int)) := by omega
              obtain ⟨t, ht⟩ : ∃ t, t = (core + i) % n := ⟨_, rfl⟩
              have htn : t < n := by rw [ht]; exact Nat.mod_lt _ (by omega)
              obtain ⟨k0, _⟩ := A.out.q htn
              obtain ⟨qv, hqv⟩ : ∃ qv, qv = l.qa t := ⟨_, rfl⟩
              rw [← hqv] at k0
              have hqV := hid hqv
              clear hqv
              have hw1 : IntKind.i64.wrap ((core : Int) + (i : Int)) = (core : Int) + (i : Int) := IntWalk.i64_in _ (by omega)
              have hw2 : ((core : Int) + (i : Int)).tmod (n : Int) = (t : Int) := by rw [Int.tmod_eq_emod_of_nonneg (by omega), ht, Int.natCast_emod, Int.natCast_add]
              have hw4 : ((core : Int) + (i : Int)) % (n : Int) = (t : Int) := by rw [ht, Int.natCast_emod, Int.natCast_add]
              have hw3 : IntKind.i64.wrap (t : Int) = (t : Int) := IntWalk.i64_in _ (by omega)
              have hn00 : ¬ n = 0 := by omega
              have hn01 : ¬ (n : Int) = 0 := by omega
              have htl : ((t : Int) < (n : Int)) := by omega
              have htv := hid ht
              clear ht
              go_wp2_with fail
              go_quiet (fail)
              go_wp2_with fail
              have P3 : PL w (ordO s n core q i 0) (q * 512 + i * 64) (.slice ao m c) (wr.drewN nq) := ⟨m, ao, c, hm, rfl, owns_of_heap hO.out (fun _ _ => rfl), hF.out.drewM nq⟩
              clear A c0 c1 c2 c3 k0 hO hF hw1 hw2 hw3 hw4 hn00 hn01
              have hql := hid (HO.out.qlen htn)
              go_loopg [7, 11] (s.Q t).length (fun gg v7 v11 wx => ∃ d : Nat, d ≤ (s.Q t).length ∧ gg = (s.Q t).length - d ∧ v11 = .int .i64 d ∧ PL w (ordO s n core q i d) (q * 512 + i * 64 + d) v7 wx)
              case atStart => exact ⟨0, Nat.zero_le _, rfl, rfl, P3⟩
              case round =>
                as_aux_lemma =>
                  clear P3
                  obtain ⟨d, hd, rfl, rfl, m, ao, c, hm, rfl, hO, hF⟩ := hrel
                  have A := hid (H.out.kept hF.out (fun _ _ _ h => h))
                  obtain ⟨c0, c1, c2, c3, _⟩ := A.out.c
                  have hq64 := hql.out
                  by_cases hdl : d < (s.Q t).length
                  · obtain ⟨y, hy⟩ : ∃ y, (s.Q t)[d]? = some y := ⟨_, List.getElem?_eq_getElem hdl⟩
                    obtain ⟨gq, hgq, ky⟩ := A.out.qe htn hy
                    have hgv := hid hgq
                    obtain rfl : qv = some ⟨gq, 0, none⟩ := by rw [hqV.out, hgq]
                    clear hgq
                    have hyv := hid hy
                    have hdi : ((d : Int) < ((s.Q t).length : Int)) := by omega
                    have hstep := hid (ordO_step (s := s) (n := n) (k := core) (r := q) (i := i) (t := d) (y := y) (by rw [← htv.out]; exact hy))
                    obtain ⟨z, hz, hzid, _, _⟩ := HO.out.qin t htn y (List.mem_of_getElem? hy)
                    have hfo : findO s.L y = some z := by rw [← hzid]; exact HO.out.find hz
                    obtain ⟨j, hj, hzq⟩ := findP_some HO.out.apart hfo
                    have hjl := (List.getElem?_eq_some_iff.1 hzq).1
                    have HF := hid (fun m => rfind_c S (wr.drewN m) rb l per n s.L s.Q r (A.out.of_heap (fun _ _ _ => rfl)) y)
                    rw [hj] at HF
                    obtain ⟨g2, hg2, z0, z1, z2, z3, z4, _⟩ := A.out.x hzq
                    rw [hg2] at c2
                    have hji : ((j : Int) < (s.L.length : Int)) := by omega
                    have hu : Hid (underP s y = decide (0 ≤ z.credit)) := hid (by unfold underP; rw [hfo])
                    clear hy hz hzid hfo hj hzq hg2 hjl
                    have hq01 : q = 0 ∨ q = 1 := by omega
                    rcases hq01 with rfl | rfl
                    · by_cases hzc : z.credit ≥ 0
                      · have hst : Hid (ints (ordO s n core 0 i d) ++ [Value.int .i64 y] = ints (ordO s n core 0 i (d + 1))) := hid (by
                          rw [hstep.out, if_pos (.inr (by rw [hu.out]; exact decide_eq_true hzc))]; simp [ints])
                        clear hstep hu
                        go_wp2_with fail
                        go_quiet ((go_at_call 25; exact Calls.quiet_of_same ((HF.out _).mono fun _ _ h => ⟨h.1, h.2.symm⟩)))
                        clear HF z0 z1 z2 z3 z4 hzc
                        obtain ⟨w5, hw5⟩ : ∃ w5, w5 = wr.drewN nq := ⟨_, rfl⟩
                        rw [← hw5]
                        have O5 := hid (owns_of_heap hO.out (w' := w5) (fun _ _ => by rw [hw5]; rfl))
                        have F5 : Hid (Fr (fun _ => False) w w5) := hid (by rw [hw5]; exact hF.out.drewM nq)
                        have A5 := hid (A.out.of_heap (w' := w5) (fun _ _ _ => by rw [hw5]; rfl))
                        clear hw5 c0 c1 c2 c3 ky hO hF
                        obtain ⟨gq2, hgq2, ky⟩ := A5.out.qe htn hyv.out
                        obtain rfl : gq2 = gq := by have := hgq2.symm.trans hgv.out; cases this; rfl
                        have hpast := hid (owns_blk O5.out)
                        have hsz := F5.out.size
                        have hrow : Hid (∀ wb : World, wb.heap = (w5.alloc (.cells #[.int .i64 y] 3)).heap → wb.ownsRow w.heap.size 3 1 (.slice ao m c) m (ints (ordO s n core 0 i d)) ∧ ∀ ad, some (⟨w5.heap.size, 0, none⟩ : Addr) = some ad → ∀ j u, [Value.int .i64 y][j]? = some u → wb.cell? (ad.add j) = some u) := hid (by
                          intro wb hw
                          refine ⟨owns_of_heap O5.out (fun g hg => by rw [hw]; exact Below.heap_alloc _ _ _ (owns_lt O5.out g (by rw [ownBlock_slice] at hg; exact hg))), fun ad had => ?_⟩
                          cases had
                          exact World.news_of_block (cs := #[Value.int .i64 y]) (t := 3) (fr := (0, 0)) (by rw [hw]; exact heap_alloc_new w5 _))
                        clear hgq2
                        go_wp2_with (first
                          | (at_builtin; refine wpList_append_gen rfl (.tmp 72) (.tmp 77) 49 rfl 3 i0 (.int .i64 0) 1 8 Try.underlying49 hi0 hz0 hz1 hz2 rfl (by decide) w.heap.size ao m c _ (by simp [Act.eval]) (hrow.out _ (by rfl)).1 (some ⟨w5.heap.size, 0, none⟩) 1 1 [.int .i64 y] (by simp [Act.eval]) rfl (fun e => by cases e) (hrow.out _ (by rfl)).2 (by simp [Value.oneCell']) (by unfold maxLen; omega) (by omega) (by rw [World.size_alloc]; omega) ?_; intro ao2 c2 w6 hown hgr hat; rw [hst.out] at hown; have O2 := hid hown; have G2 := hid ((F5.out.alloc _).grown hgr (fun k e hk => Nat.not_le_of_lt hk (hpast.out k e).1)); clear hown hgr hat)
                          | fail)
                        go_roundg ((s.Q t).length - (d + 1))
                        case measure => omega
                        case rel => exact ⟨d + 1, by omega, rfl, by go_num, m + 1, ao2, c2, by omega, by go_num, O2, G2⟩
                      · have hO2 : Hid (wr.ownsRow w.heap.size 3 1 (.slice ao m c) m (ints (ordO s n core 0 i (d + 1)))) := hid (by
                          rw [hstep.out, if_neg (by rw [hu.out, decide_eq_false hzc]; simp)]; exact hO.out)
                        clear hstep hu
                        go_wp2_with fail
                        go_quiet ((go_at_call 25; exact Calls.quiet_of_same ((HF.out _).mono fun _ _ h => ⟨h.1, h.2.symm⟩)))
                        go_wp2_with fail
                        go_roundg ((s.Q t).length - (d + 1))
                        case measure => omega
                        case rel => exact ⟨d + 1, by omega, rfl, by go_num, m, ao, c, by omega, rfl, owns_of_heap hO2.out (fun _ _ => rfl), hF.out.drewM _⟩
                    · have hst : Hid (ints (ordO s n core 1 i d) ++ [Value.int .i64 y] = ints (ordO s n core 1 i (d + 1))) := hid (by
                        rw [hstep.out, if_pos (.inl (by decide))]; simp [ints])
                      clear hstep hu HF z0 z1 z2 z3 z4 hji
                      go_wp2_with fail
                      go_quiet (fail)
                      obtain ⟨w5, hw5⟩ : ∃ w5, w5 = wr.drewN nq := ⟨_, rfl⟩
                      rw [← hw5]
                      have O5 := hid (owns_of_heap hO.out (w' := w5) (fun _ _ => by rw [hw5]; rfl))
                      have F5 : Hid (Fr (fun _ => False) w w5) := hid (by rw [hw5]; exact hF.out.drewM nq)
                      have A5 := hid (A.out.of_heap (w' := w5) (fun _ _ _ => by rw [hw5]; rfl))
                      clear hw5 c0 c1 c2 c3 ky hO hF
                      obtain ⟨gq2, hgq2, ky⟩ := A5.out.qe htn hyv.out
                      obtain rfl : gq2 = gq := by have := hgq2.symm.trans hgv.out; cases this; rfl
                      have hpast := hid (owns_blk O5.out)
                      have hsz := F5.out.size
                      have hrow : Hid (∀ wb : World, wb.heap = (w5.alloc (.cells #[.int .i64 y] 3)).heap → wb.ownsRow w.heap.size 3 1 (.slice ao m c) m (ints (ordO s n core 1 i d)) ∧ ∀ ad, some (⟨w5.heap.size, 0, none⟩ : Addr) = some ad → ∀ j u, [Value.int .i64 y][j]? = some u → wb.cell? (ad.add j) = some u) := hid (by
                        intro wb hw
                        refine ⟨owns_of_heap O5.out (fun g hg => by rw [hw]; exact Below.heap_alloc _ _ _ (owns_lt O5.out g (by rw [ownBlock_slice] at hg; exact hg))), fun ad had => ?_⟩
                        cases had
                        exact World.news_of_block (cs := #[Value.int .i64 y]) (t := 3) (fr := (0, 0)) (by rw [hw]; exact heap_alloc_new w5 _))
                      clear hgq2
                      go_wp2_with (first
                        | (at_builtin; refine wpList_append_gen rfl (.tmp 72) (.tmp 77) 49 rfl 3 i0 (.int .i64 0) 1 8 Try.underlying49 hi0 hz0 hz1 hz2 rfl (by decide) w.heap.size ao m c _ (by simp [Act.eval]) (hrow.out _ (by rfl)).1 (some ⟨w5.heap.size, 0, none⟩) 1 1 [.int .i64 y] (by simp [Act.eval]) rfl (fun e => by cases e) (hrow.out _ (by rfl)).2 (by simp [Value.oneCell']) (by unfold maxLen; omega) (by omega) (by rw [World.size_alloc]; omega) ?_; intro ao2 c2 w6 hown hgr hat; rw [hst.out] at hown; have O2 := hid hown; have G2 := hid ((F5.out.alloc _).grown hgr (fun k e hk => Nat.not_le_of_lt hk (hpast.out k e).1)); clear hown hgr hat)
                        | fail)
                      go_roundg ((s.Q t).length - (d + 1))
                      case measure => omega
                      case rel => exact ⟨d + 1, by omega, rfl, by go_num, m + 1, ao2, c2, by omega, by go_num, O2, G2⟩
                  · have hdn : ¬ ((d : Int) < ((s.Q t).length : Int)) := by omega
                    have hO2 : Hid (wr.ownsRow w.heap.size 3 1 (.slice ao m c) m (ints (ordO s n core q (i + 1) 0))) := hid (by
                      rw [← ordO_queue s n core q i d (by rw [← htv.out]; omega)]; exact hO.out)
                    go_wp2_with fail
                    go_roundg (n - (i + 1))
                    case measure => omega
                    case rel => exact ⟨i + 1, by omega, rfl, by go_num, m, ao, c, by omega, rfl, hO2, hF⟩
          · as_aux_lemma =>
              have hie : i = n := by omega
              have hin2 : ¬ ((i : Int) < (n : Int)) := by omega
              have hO2 : Hid (wr.ownsRow w.heap.size 3 1 (.slice ao m c) m (ints (ordR s n core (q + 1)))) := hid (by
                have e := hO.out
                rw [hie, ordR_out hq2] at e
                exact e)
              clear c1 c2 c3
              go_wp2_with fail
              go_roundg (2 - (q + 1))
              case measure => omega
              case rel => exact ⟨q + 1, by omega, rfl, by go_num, m, ao, c, by omega, rfl, hO2, hF⟩
    · as_aux_lemma =>
        have hq22 : q = 2 := by omega
        have hqi : ¬ ((q : Int) < 2) := by omega
        obtain ⟨m, ao, c, hm, rfl, hO, hF⟩ := hP
        rw [hq22, ordR_two] at hO
        have hhead := head_cat s n core
        have hmO := hO.out.1
        have hcap := (owns_len hO.out).2.1
        cases hOd : ((catQ s n core n).filter (underP s) ++ catQ s n core n) with
        | nil =>
          rw [hOd] at hhead hmO
          obtain rfl : m = 0 := by simp [ints] at hmO; omega
          have e1 : Hid (pickV n s (core : Int) = (0, false, 0)) := hid (by unfold pickV; rw [if_neg (by rw [inR_of hk]; decide), if_neg (by rw [show (core : Int).toNat = core from rfl, HB.out]; decide), show (core : Int).toNat = core from rfl, ← hhead]; rfl)
          have e2 : Hid (pickN n s (core : Int) = s) := hid (by unfold pickN; rw [if_neg (by rw [inR_of hk]; decide), if_neg (by rw [show (core : Int).toNat = core from rfl, HB.out]; decide), show (core : Int).toNat = core from rfl, ← hhead]; rfl)
          clear hhead hmO hOd hO hq22 hm
          go_wp2_with fail
          refine bodyPost_ret (v := .tuple #[.int .i64 0, .bool false, .int .i64 0]) (by simp [results, Try.results41, go_sem]) rfl ?_
          exact ⟨by rw [e1.out], by rw [e2.out]; exact ⟨l, r, H.out.kept hF.out (fun _ _ _ h => h), HR.out⟩, hF.out.mono (fun _ _ h => h.elim)⟩
        | cons y T =>
          rw [hOd] at hhead hmO hO
          have hp : pickO s n core = some y := hhead.symm
          obtain ⟨x, hxm, hxid, hxst, hfo⟩ := HO.out.picked hp
          obtain ⟨j, hj, hx⟩ := findP_some HO.out.apart hfo
          have hjl := (List.getElem?_eq_some_iff.1 hx).1
          have e1 : Hid (pickV n s (core : Int) = (y, true, 0)) := hid (by unfold pickV; rw [if_neg (by rw [inR_of hk]; decide), if_neg (by rw [show (core : Int).toNat = core from rfl, HB.out]; decide), show (core : Int).toNat = core from rfl, hp])
          have e2 : Hid (pickN n s (core : Int) = pickS s x core) := hid (by unfold pickN; rw [if_neg (by rw [inR_of hk]; decide), if_neg (by rw [show (core : Int).toNat = core from rfl, HB.out]; decide), show (core : Int).toNat = core from rfl, hp]; dsimp only; rw [hfo])
          obtain ⟨g, rfl, ky, hgB, hmT⟩ := owns_head hO.out
          have hgl : g < wr.heap.size := block_lt_of_cell ky
          obtain ⟨S', hS'⟩ : ∃ S' : Nat → Prop, S' = fun k => S k ∧ (k < w.heap.size ∨ wr.heap.size ≤ k) := ⟨_, rfl⟩
          have hsub : Hid (∀ k, S' k → S k) := hid (by rw [hS']; exact fun _ a => a.1)
          have hgS : Hid (¬ S' g) := hid (by rw [hS']; rintro ⟨_, a⟩; omega)
          have B : Hid (RAt S' wr rb l per n s.L s.Q r) := hid ((H.out.mono (fun k hk a => by rw [hS']; exact ⟨a, .inl hk⟩)).kept hF.out (fun _ _ _ h => h))
          have HFi := hid (rfind_c S' wr rb l per n s.L s.Q r B.out y)
          rw [hj] at HFi
          have HOt := hid (rout_c S' wr rb l per n s.L s.Q r B.out (fun k hk => by rw [hS']; exact ⟨HS.out k (Nat.le_trans hF.out.size hk), .inr hk⟩) hn8 (fun i hi => by have := HO.out.qlen hi; omega) y)
          have hfin : Hid (∀ (w5 : World) (l2 : RLay), RAt S' w5 rb l2 per n (s.L.set j { x with state := 2, core := core }) (fun i => strike (s.Q i) y) (updN r core 0) → RR S w5 rb per n (pickS s x core)) := hid (by
            intro w5 l2 A
            rw [← hxid] at A
            exact rpick_fin HO.out HR.out hx hxm (A.mono (fun _ _ a => hsub.out _ a)))
          have hj2 : ((j : Int) < (s.L.length : Int)) := by omega
          have hk8 : (core : Int) < 8 := by omega
          have hk8n : core < 8 := by omega
          have X0 := hid hx
          have X1 : Hid ((s.L.set j { x with state := 2 })[j]? = some { x with state := 2 }) := hid (by rw [List.getElem?_set_self hjl])
          have X2 : Hid ((s.L.set j { x with state := 2, core := core })[j]? = some { x with state := 2, core := core }) := hid (by rw [List.getElem?_set_self hjl])
          have hl1 : (s.L.set j { x with state := 2 }).length = s.L.length := List.length_set
          have hl2 : (s.L.set j { x with state := 2, core := core }).length = s.L.length := List.length_set
          have hm0 : ¬ ((m : Int) = 0) := by omega
          have hm1 : (0 : Int) < (m : Int) := by omega
          have hm2 : 0 < m := by omega
          have hm3 : ¬ (m = 0) := by omega
          clear hhead hmO hOd hO hq22 hm hp hxm hxid hxst hfo hj hx hjl hmT hS' HB
          obtain ⟨c0, c1, c2, c3, _⟩ := B.out.c
          go_upto_region 23 with (first
            | (go_at_call 25; refine HFi.out.mono ?_; rintro e w' ⟨rfl, rfl⟩)
            | (go_at_call 51; refine HOt.out.mono ?_; rintro e w2 ⟨rfl, ⟨l2, A⟩, F⟩; obtain ⟨_, _, d2, _, _⟩ := A.c; obtain ⟨g2, hg2, _, _, _, _, y4, yf⟩ := A.x X0.out; rw [hg2] at d2; have yf := yf (j * 5 + 4); have A := hid A)
            | fail)
          obtain ⟨w3, hw⟩ : ∃ w3, w3 = w2.setCell ⟨g2, j * 5 + 4, none⟩ (.int .i64 2) := ⟨_, rfl⟩
          rw [← hw]
          have hSg := hid (A.out.mine.2.2.1 g2 (by rw [hg2]; rfl))
          have A3 := A.out.setOne X0.out hg2 4 (by omega) (.int .i64 2) (y := { x with state := 2 }) rfl
          have F3 := hid (F.out.setCell (p := ⟨g2, j * 5 + 4, none⟩) (fun _ => hSg.out) (.int .i64 2))
          rw [← hw] at A3 F3
          have A3 := hid A3
          have ky3 := (F3.out.cell (p := ⟨g, 0, none⟩) hgl hgS.out).trans ky
          clear hw d2 y4 yf A F c0 c1 c2 c3 ky
          obtain ⟨c0, c1, c2, c3, _⟩ := A3.out.c
          obtain ⟨g3, hg3, _, _, _, y3, _, yf⟩ := A3.out.x X1.out
          obtain rfl : g3 = g2 := by have := hg3.symm.trans hg2; cases this; rfl
          rw [hg3, hl1] at c2
          have yf := yf (j * 5 + 3)
          go_upto_region 24 with fail
          obtain ⟨w4, hw⟩ : ∃ w4, w4 = w3.setCell ⟨g3, j * 5 + 3, none⟩ (.int .i64 core) := ⟨_, rfl⟩
          rw [← hw]
          have A4 := A3.out.setOne X1.out hg3 3 (by omega) (.int .i64 core) (y := { x with state := 2, core := core }) rfl
          rw [List.set_set] at A4
          have F4 := hid (F3.out.setCell (p := ⟨g3, j * 5 + 3, none⟩) (fun _ => hSg.out) (.int .i64 core))
          rw [← hw] at A4 F4
          have A4 := hid A4
          have ky4 := (F4.out.cell (p := ⟨g, 0, none⟩) hgl hgS.out).trans (F3.out.cell (p := ⟨g, 0, none⟩) hgl hgS.out).symm |>.trans ky3
          clear hw c0 c1 c2 c3 y3 yf A3 F3 ky3 hl1 X1
          obtain ⟨c0, c1, c2, c3, cf⟩ := A4.out.c
          have kr := A4.out.rn hk8n
          have kf := cf (4 + core)
          go_upto_region 25 with fail
          obtain ⟨w5, hw⟩ : ∃ w5, w5 = w4.setCell ⟨rb, 4 + core, none⟩ (.int .i64 0) := ⟨_, rfl⟩
          rw [← hw]
          have A5 := A4.out.setRan hk8n 0
          have hSr := hid A4.out.mine.1
          have F5 := hid (F4.out.setCell (p := ⟨rb, 4 + core, none⟩) (fun _ => hSr.out) (.int .i64 0))
          rw [← hw] at A5 F5
          have A5 := hid A5
          have ky5 := (F5.out.cell (p := ⟨g, 0, none⟩) hgl hgS.out).trans (F4.out.cell (p := ⟨g, 0, none⟩) hgl hgS.out).symm |>.trans ky4
          clear hw c0 c1 c2 c3 cf kr kf A4 F4 ky4 hl2 X2
          go_wp2_with fail
          refine bodyPost_ret (v := .tuple #[.int .i64 y, .bool true, .int .i64 0]) (by simp [results, Try.results41, go_sem]) rfl ?_
          refine ⟨by rw [e1.out], by rw [e2.out]; exact hfin.out _ _ A5.out, ?_⟩
          exact (hF.out.mono (fun _ _ h => h.elim)).trans (F5.out.mono (fun k _ a => hsub.out k a))
end
end Go.Proofs.Ytehjekcfhmmggaa

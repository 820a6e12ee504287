/-
  The reference's ready, Wake, Block, Yield. No conditions.
-/
import Derived.Test.YtehjekcfhmmggaaRef3
import Derived.BigRegion
import Derived.Test.YtehjekcfhmmggaaHold
namespace Go.Proofs.Ytehjekcfhmmggaa
open Go.RowKit

set_option linter.unusedSimpArgs false in
set_option maxHeartbeats 8000000 in
set_option maxRecDepth 100000 in
theorem rready_c (S : Nat → Prop) (w : World) (rb : Nat) (l : RLay) (per n : Nat) (L : List One) (Q : Nat → List Int) (r : Nat → Int) (h : RAt S w rb l per n L Q r) (hS : ∀ k, w.heap.size ≤ k → S k) (j : Nat) (x : One) (hx : L[j]? = some x) (core : Nat) (id : Int) (hcd : core = x.core) (hidd : id = x.id) (hc : core < n) (hq : (Q core).length ≤ 4096) :
    Calls Try.prog 52 #[.pointer (some ⟨rb, 0, none⟩), .int .i64 j] w fun e w' => e = .returned (.tuple #[]) ∧ Hid (∃ l', RAt S w' rb l' per n (L.set j { x with state := 1 }) (updN Q core (Q core ++ [id])) r) ∧ Hid (Fr S w w') := by
  obtain ⟨i0, hi0, hz0, hz1, hz2⟩ := info_int
  have hjl := (List.getElem?_eq_some_iff.1 hx).1
  obtain ⟨g, hg, x0, x1, x2, x3, x4, xf⟩ := h.x hx
  have xf := xf (j * 5 + 4)
  obtain ⟨c0, c1, c2, c3, _⟩ := h.c
  rw [hg] at c2
  have A := hid (h.setOne hx hg 4 (by omega) (.int .i64 1) (y := { x with state := 1 }) rfl)
  have F : Hid (Fr S w (w.setCell ⟨g, j * 5 + 4, none⟩ (.int .i64 1))) := hid ((Fr.refl S w).setCell (fun _ => h.mine.2.2.1 g (by rw [hg]; rfl)) _)
  have hx1 : Hid ((L.set j { x with state := 1 })[j]? = some { x with state := 1 }) := hid (by rw [List.getElem?_set_self hjl])
  have hj2 : ((j : Int) < (L.length : Int)) := by omega
  have hc2 : ((core : Int) < (n : Int)) := by omega
  have HS := hid hS
  have HQ := hid hq
  clear h hx hS hq hjl
  go_enter Try.func52, Try.ntmps52
  go_upto_region 1 with fail
  generalize World.setCell w _ _ = w1 at *
  clear c0 c1 c2 c3 x0 x1 x2 x3 x4 xf
  obtain ⟨c0, c1, c2, c3, _⟩ := A.out.c
  obtain ⟨k0, kf⟩ := A.out.q hc
  obtain ⟨g2, hg2, x0, x1, x2, x3, x4, _⟩ := A.out.x hx1.out
  dsimp only at c0 c1 c2 c3 k0 kf x0 x1 x2 x3 x4 hg2
  rw [hg] at hg2 c2
  cases hg2
  rw [List.length_set] at c2
  rw [← hcd] at x3
  rw [← hidd] at x0
  have hrow : Hid (∀ wb : World, wb.heap = (w1.alloc (.cells #[.int .i64 id] 3)).heap → wb.ownsRow 0 3 1 (.slice (l.qa core) (Q core).length (l.qc core)) (Q core).length (ints (Q core)) ∧ ∀ ad, some (⟨w1.heap.size, 0, none⟩ : Addr) = some ad → ∀ j u, [Value.int .i64 id][j]? = some u → wb.cell? (ad.add j) = some u) := hid (by
    intro wb hw
    refine ⟨owns_of_heap (A.out.queue core hc) (fun g hg => by rw [hw]; exact Below.heap_alloc _ _ _ (owns_lt (A.out.queue core hc) g (by rw [ownBlock_slice] at hg; exact hg))), fun ad had => ?_⟩
    cases had
    exact World.news_of_block (cs := #[Value.int .i64 id]) (t := 3) (fr := (0, 0)) (by rw [hw]; exact heap_alloc_new w1 _))
  have HO := hid (fun wb w2 hw ao c => rputQ S w1 rb _ per n _ Q r A.out core id hc wb w2 hw (fun k hk => HS.out k (Nat.le_trans F.out.size hk)) ao c)
  obtain ⟨_, cL, hL⟩ := owns_blk A.out.list g (by rw [hg]; rfl)
  have hL := hid hL
  have hob := hid A.out.obj
  have hq := HQ.out
  have al : ∀ {p : Addr} {v : Value}, w1.cell? p = some v → (w1.alloc (.cells #[.int .i64 id] 3)).cell? p = some v := fun {p v} hp => (World.cell?_of_block (a := p) (Below.heap_alloc _ _ _ (block_lt_of_cell hp))).trans hp
  have d2 := al c2
  have d3 := al c3
  have dk := al k0
  have e0 := al x0
  have e3 := al x3
  obtain ⟨cur, hcr, _⟩ := A.out.row
  clear al A hx1 c0 c1 x1 x2 x4 hcd hidd
  refine wp_region_T (fun w' => w'.cell? ⟨rb, 2, none⟩ = some (.slice (some ⟨g, 0, none⟩) L.length l.lc) ∧ w'.cell? ⟨rb, 3, none⟩ = some (.slice (some ⟨l.qb, 0, none⟩) n n) ∧ w'.cell? ⟨g, j * 5, none⟩ = some (.int .i64 id) ∧ w'.cell? ⟨g, j * 5 + 3, none⟩ = some (.int .i64 core) ∧ w'.cell? ⟨l.qb, core, none⟩ = some (.slice (l.qa core) (Q core).length (l.qc core))) 37 (by kernel_rfl) ?_
  have hH : w1.drew.cell? ⟨rb, 2, none⟩ = some (.slice (some ⟨g, 0, none⟩) L.length l.lc) ∧ w1.drew.cell? ⟨rb, 3, none⟩ = some (.slice (some ⟨l.qb, 0, none⟩) n n) ∧ w1.drew.cell? ⟨g, j * 5, none⟩ = some (.int .i64 id) ∧ w1.drew.cell? ⟨g, j * 5 + 3, none⟩ = some (.int .i64 core) ∧ w1.drew.cell? ⟨l.qb, core, none⟩ = some (.slice (l.qa core) (Q core).length (l.qc core)) := ⟨c2, c3, x0, x3, k0⟩
  refine wpAnyT_tmp (i := 0) (v := ?vv0) rfl rfl (by kernel_rfl) (fun _ _ _ h => h) (by rfl) hH ?yy0 ?_
  case yy0 => (intro w hSw; (try dsimp only at hSw); go_simp; first | done | with_reducible rfl | rfl)
  simp only [List.setIfInBounds_toArray, List.set_cons_zero, List.set_cons_succ]
  refine wpAnyT_tmp (i := 1) (v := ?vv1) rfl rfl (by kernel_rfl) (fun _ _ _ h => h) (by rfl) hH ?yy1 ?_
  case yy1 => (intro w hSw; (try dsimp only at hSw); go_simp; first | done | with_reducible rfl | rfl)
  simp only [List.setIfInBounds_toArray, List.set_cons_zero, List.set_cons_succ]
  refine wpAnyT_tmp (i := 2) (v := ?vv2) rfl rfl (by kernel_rfl) (fun _ _ _ h => h) (by rfl) hH ?yy2 ?_
  case yy2 => (intro w hSw; (try dsimp only at hSw); go_simp; first | done | with_reducible rfl | rfl)
  simp only [List.setIfInBounds_toArray, List.set_cons_zero, List.set_cons_succ]
  refine wpAnyT_tmp (i := 3) (v := ?vv3) rfl rfl (by kernel_rfl) (fun _ _ _ h => h) (by rfl) hH ?yy3 ?_
  case yy3 => (intro w hSw; (try dsimp only at hSw); go_simp; first | done | with_reducible rfl | rfl)
  simp only [List.setIfInBounds_toArray, List.set_cons_zero, List.set_cons_succ]
  refine wpAnyT_tmp (i := 4) (v := ?vv4) rfl rfl (by kernel_rfl) (fun _ _ _ h => h) (by rfl) hH ?yy4 ?_
  case yy4 => (intro w hSw; (try dsimp only at hSw); go_simp; first | done | with_reducible rfl | rfl)
  simp only [List.setIfInBounds_toArray, List.set_cons_zero, List.set_cons_succ]
  refine wpAnyT_tmp (i := 5) (v := ?vv5) rfl rfl (by kernel_rfl) (fun _ _ _ h => h) (by rfl) hH ?yy5 ?_
  case yy5 => (intro w hSw; (try dsimp only at hSw); go_simp; first | done | with_reducible rfl | rfl)
  simp only [List.setIfInBounds_toArray, List.set_cons_zero, List.set_cons_succ]
  refine wpAnyT_tmp (i := 6) (v := ?vv6) rfl rfl (by kernel_rfl) (fun _ _ _ h => h) (by rfl) hH ?yy6 ?_
  case yy6 => (intro w hSw; (try dsimp only at hSw); go_simp; first | done | with_reducible rfl | rfl)
  simp only [List.setIfInBounds_toArray, List.set_cons_zero, List.set_cons_succ]
  refine wpAnyT_tmp (i := 7) (v := ?vv7) rfl rfl (by kernel_rfl) (fun _ _ _ h => h) (by rfl) hH ?yy7 ?_
  case yy7 => (intro w hSw; (try dsimp only at hSw); go_simp; first | done | with_reducible rfl | rfl)
  simp only [List.setIfInBounds_toArray, List.set_cons_zero, List.set_cons_succ]
  refine wpAnyT_tmp (i := 8) (v := ?vv8) rfl rfl (by kernel_rfl) (fun _ _ _ h => h) (by rfl) hH ?yy8 ?_
  case yy8 => (intro w hSw; (try dsimp only at hSw); go_simp; first | done | with_reducible rfl | rfl)
  simp only [List.setIfInBounds_toArray, List.set_cons_zero, List.set_cons_succ]
  refine wpAnyT_tmp (i := 9) (v := ?vv9) rfl rfl (by kernel_rfl) (fun _ _ _ h => h) (by rfl) hH ?yy9 ?_
  case yy9 => (intro w hSw; (try dsimp only at hSw); go_simp; first | done | with_reducible rfl | rfl)
  simp only [List.setIfInBounds_toArray, List.set_cons_zero, List.set_cons_succ]
  refine wpAnyT_tmp (i := 10) (v := ?vv10) rfl rfl (by kernel_rfl) (fun _ _ _ h => h) (by rfl) hH ?yy10 ?_
  case yy10 => (intro w hSw; (try dsimp only at hSw); go_simp; first | done | with_reducible rfl | rfl)
  simp only [List.setIfInBounds_toArray, List.set_cons_zero, List.set_cons_succ]
  refine wpAnyT_tmp (i := 11) (v := ?vv11) rfl rfl (by kernel_rfl) (fun _ _ _ h => h) (by rfl) hH ?yy11 ?_
  case yy11 => (intro w hSw; (try dsimp only at hSw); go_simp; first | done | with_reducible rfl | rfl)
  simp only [List.setIfInBounds_toArray, List.set_cons_zero, List.set_cons_succ]
  refine wpAnyT_tmp (i := 12) (v := ?vv12) rfl rfl (by kernel_rfl) (fun _ _ _ h => h) (by rfl) hH ?yy12 ?_
  case yy12 => (intro w hSw; (try dsimp only at hSw); go_simp; first | done | with_reducible rfl | rfl)
  simp only [List.setIfInBounds_toArray, List.set_cons_zero, List.set_cons_succ]
  refine wpAnyT_tmp (i := 13) (v := ?vv13) rfl rfl (by kernel_rfl) (fun _ _ _ h => h) (by rfl) hH ?yy13 ?_
  case yy13 => (intro w hSw; (try dsimp only at hSw); go_simp; first | done | with_reducible rfl | rfl)
  simp only [List.setIfInBounds_toArray, List.set_cons_zero, List.set_cons_succ]
  refine wpAnyT_tmp (i := 14) (v := ?vv14) rfl rfl (by kernel_rfl) (fun _ _ _ h => h) (by rfl) hH ?yy14 ?_
  case yy14 => (intro w hSw; (try dsimp only at hSw); go_simp; first | done | with_reducible rfl | rfl)
  simp only [List.setIfInBounds_toArray, List.set_cons_zero, List.set_cons_succ]
  refine wpAnyT_tmp (i := 15) (v := ?vv15) rfl rfl (by kernel_rfl) (fun _ _ _ h => h) (by rfl) hH ?yy15 ?_
  case yy15 => (intro w hSw; (try dsimp only at hSw); go_simp; first | done | with_reducible rfl | rfl)
  simp only [List.setIfInBounds_toArray, List.set_cons_zero, List.set_cons_succ]
  refine wpAnyT_tmp (i := 16) (v := ?vv16) rfl rfl (by kernel_rfl) (fun _ _ _ h => h) (by rfl) hH ?yy16 ?_
  case yy16 => (intro w hSw; (try dsimp only at hSw); go_simp; first | done | with_reducible rfl | rfl)
  simp only [List.setIfInBounds_toArray, List.set_cons_zero, List.set_cons_succ]
  refine wpAnyT_tmp (i := 17) (v := ?vv17) rfl rfl (by kernel_rfl) (fun _ _ _ h => h) (by rfl) hH ?yy17 ?_
  case yy17 => (intro w hSw; (try dsimp only at hSw); go_simp; first | done | with_reducible rfl | rfl)
  simp only [List.setIfInBounds_toArray, List.set_cons_zero, List.set_cons_succ]
  refine wpAnyT_tmp (i := 18) (v := ?vv18) rfl rfl (by kernel_rfl) (fun _ _ _ h => h) (by rfl) hH ?yy18 ?_
  case yy18 => (intro w hSw; (try dsimp only at hSw); go_simp; first | done | with_reducible rfl | rfl)
  simp only [List.setIfInBounds_toArray, List.set_cons_zero, List.set_cons_succ]
  refine wpAnyT_tmp (i := 19) (v := ?vv19) rfl rfl (by kernel_rfl) (fun _ _ _ h => h) (by rfl) hH ?yy19 ?_
  case yy19 => (intro w hSw; (try dsimp only at hSw); go_simp; first | done | with_reducible rfl | rfl)
  simp only [List.setIfInBounds_toArray, List.set_cons_zero, List.set_cons_succ]
  refine wpAnyT_tmp (i := 20) (v := ?vv20) rfl rfl (by kernel_rfl) (fun _ _ _ h => h) (by rfl) hH ?yy20 ?_
  case yy20 => (intro w hSw; (try dsimp only at hSw); go_simp; first | done | with_reducible rfl | rfl)
  simp only [List.setIfInBounds_toArray, List.set_cons_zero, List.set_cons_succ]
  refine wpAnyT_tmp (i := 21) (v := ?vv21) rfl rfl (by kernel_rfl) (fun _ _ _ h => h) (by rfl) hH ?yy21 ?_
  case yy21 => (intro w hSw; (try dsimp only at hSw); go_simp; first | done | with_reducible rfl | rfl)
  simp only [List.setIfInBounds_toArray, List.set_cons_zero, List.set_cons_succ]
  refine wpAnyT_tmp (i := 22) (v := ?vv22) rfl rfl (by kernel_rfl) (fun _ _ _ h => h) (by rfl) hH ?yy22 ?_
  case yy22 => (intro w hSw; (try dsimp only at hSw); go_simp; first | done | with_reducible rfl | rfl)
  simp only [List.setIfInBounds_toArray, List.set_cons_zero, List.set_cons_succ]
  refine wpAnyT_tmp (i := 23) (v := ?vv23) rfl rfl (by kernel_rfl) (fun _ _ _ h => h) (by rfl) hH ?yy23 ?_
  case yy23 => (intro w hSw; (try dsimp only at hSw); go_simp; first | done | with_reducible rfl | rfl)
  simp only [List.setIfInBounds_toArray, List.set_cons_zero, List.set_cons_succ]
  refine wpAnyT_tmp (i := 24) (v := ?vv24) rfl rfl (by kernel_rfl) (fun _ _ _ h => h) (by rfl) hH ?yy24 ?_
  case yy24 => (intro w hSw; (try dsimp only at hSw); go_simp; first | done | with_reducible rfl | rfl)
  simp only [List.setIfInBounds_toArray, List.set_cons_zero, List.set_cons_succ]
  refine wpAnyT_tmp (i := 25) (v := ?vv25) rfl rfl (by kernel_rfl) (fun _ _ _ h => h) (by rfl) hH ?yy25 ?_
  case yy25 => (intro w hSw; (try dsimp only at hSw); go_simp; first | done | with_reducible rfl | rfl)
  simp only [List.setIfInBounds_toArray, List.set_cons_zero, List.set_cons_succ]
  refine wpAnyT_tmp (i := 26) (v := ?vv26) rfl rfl (by kernel_rfl) (fun _ _ _ h => h) (by rfl) hH ?yy26 ?_
  case yy26 => (intro w hSw; (try dsimp only at hSw); go_simp; first | done | with_reducible rfl | rfl)
  simp only [List.setIfInBounds_toArray, List.set_cons_zero, List.set_cons_succ]
  refine wpAnyT_tmp (i := 27) (v := ?vv27) rfl rfl (by kernel_rfl) (fun _ _ _ h => h) (by rfl) hH ?yy27 ?_
  case yy27 => (intro w hSw; (try dsimp only at hSw); go_simp; first | done | with_reducible rfl | rfl)
  simp only [List.setIfInBounds_toArray, List.set_cons_zero, List.set_cons_succ]
  refine wpAnyT_tmp (i := 28) (v := ?vv28) rfl rfl (by kernel_rfl) (fun _ _ _ h => h) (by rfl) hH ?yy28 ?_
  case yy28 => (intro w hSw; (try dsimp only at hSw); go_simp; first | done | with_reducible rfl | rfl)
  simp only [List.setIfInBounds_toArray, List.set_cons_zero, List.set_cons_succ]
  refine wpAnyT_tmp (i := 29) (v := ?vv29) rfl rfl (by kernel_rfl) (fun _ _ _ h => h) (by rfl) hH ?yy29 ?_
  case yy29 => (intro w hSw; (try dsimp only at hSw); go_simp; first | done | with_reducible rfl | rfl)
  simp only [List.setIfInBounds_toArray, List.set_cons_zero, List.set_cons_succ]
  refine wpAnyT_tmp (i := 30) (v := ?vv30) rfl rfl (by kernel_rfl) (fun _ _ _ h => h) (by rfl) hH ?yy30 ?_
  case yy30 => (intro w hSw; (try dsimp only at hSw); go_simp; first | done | with_reducible rfl | rfl)
  simp only [List.setIfInBounds_toArray, List.set_cons_zero, List.set_cons_succ]
  refine wpAnyT_tmp (i := 31) (v := ?vv31) rfl rfl (by kernel_rfl) (fun _ _ _ h => h) (by rfl) hH ?yy31 ?_
  case yy31 => (intro w hSw; (try dsimp only at hSw); go_simp; first | done | with_reducible rfl | rfl)
  simp only [List.setIfInBounds_toArray, List.set_cons_zero, List.set_cons_succ]
  refine wpAnyT_tmp (i := 32) (v := ?vv32) rfl rfl (by kernel_rfl) (fun _ _ _ h => h) (by rfl) hH ?yy32 ?_
  case yy32 => (intro w hSw; (try dsimp only at hSw); go_simp; first | done | with_reducible rfl | rfl)
  simp only [List.setIfInBounds_toArray, List.set_cons_zero, List.set_cons_succ]
  refine wpAnyT_tmp (i := 33) (v := ?vv33) rfl rfl (by kernel_rfl) (fun _ _ _ h => h) (by rfl) hH ?yy33 ?_
  case yy33 => (intro w hSw; (try dsimp only at hSw); go_simp; first | done | with_reducible rfl | rfl)
  simp only [List.setIfInBounds_toArray, List.set_cons_zero, List.set_cons_succ]
  refine wpAnyT_one (i := 34) (o := ⟨_, _, _, _, _, _⟩) (by kernel_rfl) rfl (fun K hK => ?_)
  go_simp
  refine hK.out _ _ (fun _ => ⟨d2, d3, e0, e3, dk⟩) ?_
  clear hK K
  try simp only [Act.put, List.setIfInBounds_toArray, List.set_cons_zero, List.set_cons_succ]
  refine wpAnyT_one (i := 35) (o := ⟨_, _, _, _, _, _⟩) (by kernel_rfl) rfl (fun K hK => ?_)
  refine step_append_gen rfl (.tmp 36) (.tmp 45) 49 rfl 3 i0 (.int .i64 0) 1 8 Try.underlying49 hi0 hz0 hz1 hz2 rfl (by decide) 0 (l.qa core) (Q core).length (l.qc core) _ (by simp [Act.eval]) (hrow.out _ (by rfl)).1 (some ⟨w1.heap.size, 0, none⟩) 1 1 [.int .i64 id] (by simp [Act.eval]) rfl (fun e => by cases e) (hrow.out _ (by rfl)).2 (by simp [Value.oneCell']) (by unfold maxLen; omega) (by omega) (Nat.zero_le _) ?_
  intro ao c w2 hown hgr hat
  have N := HO.out _ w2 (fr_alloc (o := .cells #[.int .i64 id] 3) (by rfl) ⟨by rfl, by rfl, by rfl⟩) ao c hown hgr hat
  obtain ⟨u, n0⟩ := N.k0
  have n1 := N.f0
  have n3 := (N.old rb 3 _ _ _ hob.out (by decide)).trans c3
  have n2 := (N.old rb 2 _ _ _ hob.out (by decide)).trans c2
  have nx := (N.old g (j * 5 + 3) _ _ _ hL.out (by decide)).trans x3
  have ny := (N.old g (j * 5) _ _ _ hL.out (by decide)).trans x0
  have nk := (N.old l.qb core _ _ _ hcr (by decide)).trans k0
  have N := hid N
  clear hown hgr hat
  refine hK.out _ _ (fun _ => ⟨n2, n3, ny, nx, nk⟩) ?_
  clear hK K
  try simp only [Act.put, List.setIfInBounds_toArray, List.set_cons_zero, List.set_cons_succ]
  refine wpAnyT_one (i := 36) (o := ⟨_, _, _, _, _, _⟩) (by kernel_rfl) rfl (fun K hK => ?_)
  go_simp
  refine hK.out _ _ (fun _ => ⟨n2, n3, ny, nx, nk⟩) ?_
  clear hK K
  try simp only [Act.put, List.setIfInBounds_toArray, List.set_cons_zero, List.set_cons_succ]
  refine wpAnyT_one (i := 37) (o := ⟨_, _, _, _, _, _⟩) (by kernel_rfl) rfl (fun K hK => ?_)
  go_simp
  refine hK.out _ _ (fun h => absurd rfl h) ?_
  clear hK K
  try simp only [Act.put, List.setIfInBounds_toArray, List.set_cons_zero, List.set_cons_succ]
  refine wpAnyT_done (by kernel_rfl) ?_ _
  go_wp2_with fail
  exact ⟨rfl, .tuple #[], by kernel_rfl, rfl, ⟨_, N.out.fin⟩, F.out.trans N.out.fr⟩
end Go.Proofs.Ytehjekcfhmmggaa

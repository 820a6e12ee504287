/-
  CreditOne, walked. No conditions.
-/
import Derived.Test.YtehjekcfhmmggaaOne0
import Derived.Test.YtehjekcfhmmggaaActs
import Derived.Deep.CutBlock
import Derived.StillTailTactics
namespace Go.Proofs.Ytehjekcfhmmggaa
open Go.RowKit

def actCells (x : Act5) : Array Value := #[.int .i64 x.kind, .int .i64 x.id, .int .i64 x.weight, .int .i64 x.core, .int .i64 x.n]

def OneI (W : World) (cb n pl g : Nat) (vi : Value) (wr : World) : Prop :=
  ∃ (i : Nat) (s : CS), i ≤ pl ∧ g = pl - i ∧ vi = .int .i64 i ∧ GS W cb 100 n s wr

/-- While all are gathered: the scheduler lies ahead of B, the list behind it. -/
structure AL (W : World) (cb n : Nat) (s : CS) (B : Nat) (xs : List Int) (ao : Option Addr) (ac : Nat) (w : World) : Prop where
  cr : CR (fun j => W.heap.size ≤ j ∧ j < B) w cb 100 n s
  fr : Fr (fun j => W.heap.size ≤ j) W w
  ok : OKs 100 n s
  all : w.ownsRow B 3 1 (.slice ao xs.length ac) xs.length (ints xs)
  b1 : W.heap.size ≤ B
  b2 : B ≤ w.heap.size

section
variable {W : World} {cb n : Nat} {s : CS} {B : Nat} {xs : List Int} {ao : Option Addr} {ac : Nat} {w w' : World}

theorem AL.start (h : GS W cb 100 n s w) : AL W cb n s w.heap.size [] none 0 w :=
  ⟨h.cr.mono (fun _ hj a => ⟨a, hj⟩), h.fr, h.ok, World.ownsRow_nil _ _ _ _, h.fr.size, Nat.le_refl _⟩
theorem AL.still (h : AL W cb n s B xs ao ac w) (hf : Fr (fun _ => False) w w') : AL W cb n s B xs ao ac w' :=
  ⟨h.cr.kept hf (fun _ _ _ h => h), h.fr.then hf (fun _ _ h => h.elim), h.ok, owns_of_heap h.all (fun g hg => by rw [ownBlock_slice] at hg; exact hf.block g (owns_lt h.all g hg) (fun h => h)), h.b1, Nat.le_trans h.b2 hf.size⟩
theorem AL.back (h : AL W cb n s B xs ao ac w) : GS W cb 100 n s w := ⟨h.cr.mono (fun _ _ a => a.1), h.fr, h.ok⟩
theorem AL.blk (h : AL W cb n s B xs ao ac w) : ∀ g, blk ao = some g → B ≤ g := fun g hg => (owns_blk h.all g hg).1
theorem AL.grow (h : AL W cb n s B xs ao ac w) {ys : List Int} {ao' : Option Addr} {l' c' : Nat} (hl : l' = (xs ++ ys).length) (ho : w'.ownsRow B 3 1 (.slice ao' l' c') l' (ints xs ++ ints ys)) (hg : w.grownBy w' (Go.Proofs.Ytehjekcfhmmggaa.blk ao)) : AL W cb n s B (xs ++ ys) ao' c' w' := by
  have hF : Fr (fun k => Go.Proofs.Ytehjekcfhmmggaa.blk ao = some k) w w' := ⟨hg.os, hg.tape, hg.output, hg.size, fun k hk hn => hg.block k hk (fun e => hn e.symm)⟩
  have e : ints xs ++ ints ys = ints (xs ++ ys) := by simp [ints]
  rw [e, hl] at ho
  refine ⟨h.cr.kept hF (fun k _ a b => ?_), h.fr.then hF (fun k _ e => ?_), h.ok, ho, h.b1, Nat.le_trans h.b2 hg.size⟩
  · have := h.blk k b; have := a.2; omega
  · have := h.blk k e; have := h.b1; omega

/-- What the calls say of the scheduler meanwhile. -/
theorem AL.queue (h : AL W cb n s B xs ao ac w) {k : Nat} (hk : k < n) : Calls Try.prog 20 #[.pointer (some ⟨cb, 0, none⟩), .int .i64 (k : Int)] w fun e w' => ∃ ro cap, e = .returned (.slice ro (s.Q k).length cap) ∧ Hid (w'.ownsRow w.heap.size 3 1 (.slice ro (s.Q k).length cap) (s.Q k).length (ints (s.Q k))) ∧ Hid (Fr (fun _ => False) w w') := by
  have := queue_c _ w cb 100 n s h.cr h.ok (k : Int)
  rw [show queueL n s (k : Int) = s.Q k by unfold queueL; rw [if_pos (inR_of hk)]; rfl] at this
  exact this
theorem AL.lookQ (h : AL W cb n s B xs ao ac w) {k : Nat} (hk : k < n) {y : Int} (hy : y ∈ s.Q k) : ∃ wt cr : Int, Calls Try.prog 11 #[.pointer (some ⟨cb, 0, none⟩), .int .i64 y] w fun e w' => e = .returned (.tuple #[.agg #[.int .i64 1, .int .i64 (k : Int), .int .i64 wt, .int .i64 cr], .bool true]) ∧ Hid (Fr (fun _ => False) w w') := by
  obtain ⟨x, hx, rfl, e2, rfl⟩ := h.ok.qin k hk y hy
  have := look_c _ w cb 100 n s h.cr h.ok x.id (h.ok.one x hx).1
  rw [show lookV s x.id = .tuple #[.agg #[.int .i64 1, .int .i64 (x.core : Int), .int .i64 (x.weight : Int), .int .i64 x.credit], .bool true] by unfold lookV; rw [h.ok.find hx, ← e2]; rfl] at this
  exact ⟨x.weight, x.credit, this⟩
theorem AL.lookX (h : AL W cb n s B xs ao ac w) {k : Nat} {x : One} (hx : x ∈ s.L) (e1 : x.id = s.rv k) (e2 : x.state = 2) (e3 : x.core = k) : Calls Try.prog 11 #[.pointer (some ⟨cb, 0, none⟩), .int .i64 (s.rv k)] w fun e w' => e = .returned (.tuple #[.agg #[.int .i64 2, .int .i64 (k : Int), .int .i64 (x.weight : Int), .int .i64 x.credit], .bool true]) ∧ Hid (Fr (fun _ => False) w w') := by
  have := look_c _ w cb 100 n s h.cr h.ok x.id (h.ok.one x hx).1
  rw [show lookV s x.id = .tuple #[.agg #[.int .i64 2, .int .i64 (x.core : Int), .int .i64 (x.weight : Int), .int .i64 x.credit], .bool true] by unfold lookV; rw [h.ok.find hx, ← e2]; rfl] at this
  rw [← e1, ← e3]
  exact this
theorem AL.second (h : AL W cb n s B xs ao ac w) {l : Nat} (hl : l = xs.length) (v : Int) (wb : World) (hw : wb.heap = (w.alloc (.cells #[.int .i64 v] 3)).heap) : wb.ownsRow B 3 1 (.slice ao l ac) l (ints xs) ∧ ∀ ad, some (⟨w.heap.size, 0, none⟩ : Addr) = some ad → ∀ j u, (ints [v])[j]? = some u → wb.cell? (ad.add j) = some u := by
  subst hl
  refine ⟨owns_of_heap h.all (fun g hg => by rw [hw]; exact Below.heap_alloc _ _ _ (owns_lt h.all g (by rw [ownBlock_slice] at hg; exact hg))), fun ad had => ?_⟩
  cases had
  exact World.news_of_block (cs := #[Value.int .i64 v]) (t := 3) (fr := (0, 0)) (by rw [hw]; exact heap_alloc_new w _)
theorem AL.runs (h : AL W cb n s B xs ao ac w) {k : Nat} (hk : k < n) {v : Int} (hv : v = if s.bs k = true then s.rv k else 0) : Calls Try.prog 14 #[.pointer (some ⟨cb, 0, none⟩), .int .i64 (k : Int)] w fun e w' => e = .returned (.tuple #[.int .i64 v, .bool (s.bs k)]) ∧ Hid (Fr (fun _ => False) w w') := by
  have := runs_c _ w cb 100 n s h.cr h.ok (k : Int)
  rw [show runsV n s (k : Int) = v by rw [hv]; unfold runsV; simp [inR_of hk], show runsB n s (k : Int) = s.bs k by unfold runsB; simp [inR_of hk]] at this
  exact this.mono fun _ _ ⟨a, m, b⟩ => ⟨a, by rw [b]; exact (Fr.refl _ _).drewM m⟩
end

set_option maxHeartbeats 4000000 in
set_option maxRecDepth 100000 in
theorem one_walk (x : Int) (po : Option Addr) (pl pc : Nat) (ac : Nat → Act5) (W : World) (hA : Acts W po pl pc ac) :
    Calls Try.prog 7 #[.int .i64 x, .slice po pl pc] W fun e w' => e = .returned (.bool true) ∧ Below W.heap.size W w' := by
  have HA := hid hA
  have p1 := hA.1
  have p2 := hA.2.1
  clear hA
  obtain ⟨n0, hn, hn2, hn3⟩ := and_mask64_nat x 3 7 (by omega) (by omega)
  rw [show ((7 : Nat) : Int) = 7 from rfl] at hn
  replace hn3 : x % 8 = (n0 : Int) := by rw [hn3]; rfl
  obtain ⟨n, hn1⟩ : ∃ n, n = 1 + n0 := ⟨_, rfl⟩
  have hsn : (1 : Int) + (n0 : Int) = (n : Int) := by omega
  have hwn : IntKind.i64.wrap ((n : Nat) : Int) = n := IntWalk.i64_in _ (by omega)
  have N1 : 1 ≤ n := by omega
  have N2 : n ≤ 8 := by omega
  clear hn1 hn2
  have HN := g_new W n 100 N1 N2 (by omega) (by omega)
  rw [show ((100 : Nat) : Int) = 100 from rfl] at HN
  have HN := hid HN
  generalize W.heap.size + 1 + 1 = cb at *
  go_enter Try.func7, Try.ntmps7
  go_wp2_with (first
    | (go_at_call 8; refine HN.out.mono ?_; rintro e w1 ⟨rfl, G1⟩)
    | fail)
  clear HN hn hn3 hsn hwn
  go_loopg [7] pl (fun g vi wr => OneI W cb n pl g vi wr)
  case atStart => exact ⟨0, emptyC, Nat.zero_le _, rfl, rfl, G1.out⟩
  case round =>
    as_aux_lemma =>
      obtain ⟨i, s0, hi, rfl, rfl, hG⟩ := hrel
      by_cases hlt : i < pl
      · obtain ⟨b, off, hpo, k0, k1, k2, k3, k4, y1⟩ := HA.out.2.2 i hlt
        subst hpo
        obtain ⟨a, ha⟩ : ∃ a, a = ac i := ⟨_, rfl⟩
        rw [← ha] at k0 k1 k2 k3 k4 y1
        have Y1 := hid y1
        clear ha y1
        have old : ∀ {p : Addr} {u : Value}, W.cell? p = some u → wr.cell? p = some u := fun {p u} hc => (hG.fr.cell (block_lt_of_cell hc) (Nat.not_le_of_lt (block_lt_of_cell hc))).trans hc
        replace k0 := old k0
        replace k1 := old k1
        replace k2 := old k2
        replace k3 := old k3
        replace k4 := old k4
        have T0 := gs_still (hid hG) ((Fr.refl _ wr).alloc (.cells #[.int .i64 a.kind, .int .i64 a.id, .int .i64 a.weight, .int .i64 a.core, .int .i64 a.n] 34))
        have hloc := heap_alloc_new wr (.cells #[.int .i64 a.kind, .int .i64 a.id, .int .i64 a.weight, .int .i64 a.core, .int .i64 a.n] 34)
        clear hG G1 HA old
        go_upto_block 2 with fail
        generalize (wr.alloc (.cells #[.int .i64 a.kind, .int .i64 a.id, .int .i64 a.weight, .int .i64 a.core, .int .i64 a.n] 34)) = wa at T0 hloc ⊢
        generalize wr.heap.size = lb at *
        go_cut [] from 45 to 190 (fun wx => ∃ s, GS W cb 100 n s wx)
        case first =>
          as_aux_lemma =>
            have l0 : wa.cell? ⟨lb, 0, none⟩ = some (.int .i64 a.kind) := (cell_at hloc).trans rfl
            have l1 : wa.cell? ⟨lb, 1, none⟩ = some (.int .i64 a.id) := (cell_at hloc).trans rfl
            have l2 : wa.cell? ⟨lb, 2, none⟩ = some (.int .i64 a.weight) := (cell_at hloc).trans rfl
            have l3 : wa.cell? ⟨lb, 3, none⟩ = some (.int .i64 a.core) := (cell_at hloc).trans rfl
            have T0d := gs_still T0 (Fr.drew (Fr.refl (fun _ => False) wa))
            obtain ⟨w0, hw, hw2, hw3⟩ := and_mask64_nat a.weight 3 7 (by omega) (by omega)
            obtain ⟨c0, hc, hc2, hc3⟩ := and_mask64_nat a.core 3 7 (by omega) (by omega)
            rw [show ((7 : Nat) : Int) = 7 from rfl] at hw hc
            replace hw3 : a.weight % 8 = (w0 : Int) := by rw [hw3]; rfl
            replace hc3 : a.core % 8 = (c0 : Int) := by rw [hc3]; rfl
            have hww : IntKind.i64.wrap ((1 : Int) + (w0 : Int)) = (1 : Int) + (w0 : Int) := IntWalk.i64_in _ (by omega)
            obtain ⟨c, hcd⟩ : ∃ c, c = c0 % n := ⟨_, rfl⟩
            have r1 : ((c0 : Int)).tmod (n : Int) = (c : Int) := by rw [Int.tmod_eq_emod_of_nonneg (by omega), hcd, Int.natCast_emod]
            have r2 : ((c0 : Int)) % (n : Int) = (c : Int) := by rw [hcd, Int.natCast_emod]
            have hn00 : ¬ n = 0 := by omega
            have hn01 : ¬ (n : Int) = 0 := by omega
            clear hcd hloc hw2 hc2
            go_wp2_with (first
              | (go_at_call 15; refine (g_remove T0 a.id Y1.out).mono ?_; rintro e w2 ⟨rfl, T2⟩)
              | (go_at_call 16; refine (g_wake T0 a.id Y1.out).mono ?_; rintro e w2 ⟨rfl, T2⟩)
              | (go_at_call 17; refine (g_block T0 a.id Y1.out).mono ?_; rintro e w2 ⟨rfl, T2⟩)
              | (go_at_call 12; refine (g_pick T0 (c : Int)).mono ?_; rintro e w2 ⟨rfl, T2⟩)
              | (go_at_call 13; refine (g_yield T0 (c : Int)).mono ?_; rintro e w2 ⟨rfl, T2⟩)
              | (go_at_call 10; refine (g_refill T0).mono ?_; rintro e w2 ⟨rfl, T2⟩)
              | fail)
            rotate_left
            · go_meet
              exact ⟨_, T2.out⟩
            · go_meet
              exact ⟨_, T2.out⟩
            · go_meet
              exact ⟨_, T2.out⟩
            · go_meet
              exact ⟨_, T2.out⟩
            · go_meet
              exact ⟨_, T2.out⟩
            · go_meet
              exact ⟨_, T2.out⟩
            · go_meet
              exact ⟨_, T0.out⟩
            · refine wp_region_still_tail 12 (by kernel_rfl) (by kernel_rfl) ?_
              simp only [List.take_succ_cons, List.take_zero, List.drop_succ_cons, List.drop_zero]
              change wpStill _ _ (World.drew wa) (fun a' => wpList _ _ _ _ a' (World.drew wa)) _ _
              repeat still_step
              refine wpStill_nil ?_
              go_wp2_with (first
                | (go_at_call 9; refine (g_add T0d a.id _ _ Y1.out).mono ?_; rintro e w2 ⟨rfl, T2⟩)
                | fail)
              go_meet
              exact ⟨_, T2.out⟩
        case rest =>
          as_aux_lemma =>
            obtain ⟨s, hT⟩ := hcut
            have A0 := hid (AL.start hT)
            clear hT T0 hloc
            have hBlt : W.heap.size ≤ wc.heap.size := A0.out.b1
            have hBs : Hid (wc.heap.size ≤ wc.heap.size) := hid (Nat.le_refl _)
            obtain ⟨B, hB⟩ : ∃ B, B = wc.heap.size := ⟨_, rfl⟩
            rw [← hB] at A0
            clear hB hBlt hBs
            go_wp2_with fail
            go_loopg [9, 10] n (fun gg v9 v10 wr => ∃ k ao ac, k ≤ n ∧ gg = n - k ∧ v10 = .int .i64 (k : Int) ∧ v9 = .slice ao (allL s k).length ac ∧ Hid (AL W cb n s B (allL s k) ao ac wr))
            case atStart => exact ⟨0, none, 0, Nat.zero_le _, rfl, rfl, rfl, A0⟩
            case round =>
              as_aux_lemma =>
                obtain ⟨k, ao, ac, hk, rfl, rfl, rfl, A⟩ := hrel
                clear A0
                by_cases hkn : k < n
                · as_aux_lemma =>
                    have hkl : ((k : Int) < (n : Int)) := by omega
                    have HQ := hid (A.out.queue hkn)
                    go_wp2_with (first
                      | (go_at_call 20; refine HQ.out.mono ?_; rintro e w2 ⟨ro, cap, rfl, O2, F2⟩)
                      | fail)
                    have A2 := hid (A.out.still F2.out)
                    clear A HQ F2
                    have hq64 := A2.out.ok.qlen hkn
                    have ha64 := allL_few A2.out.ok hk
                    have hol := owns_len O2.out
                    have hcapl := hol.2.1
                    have hcapm := hol.2.2.1
                    unfold maxLen at hcapm
                    clear hol
                    go_loopg [12] (s.Q k).length (fun gg v12 wr => ∃ j : Nat, j ≤ (s.Q k).length ∧ gg = (s.Q k).length - j ∧ v12 = .int .i64 (j : Int) ∧ Hid (Fr (fun _ => False) w2 wr))
                    case atStart => exact ⟨0, Nat.zero_le _, rfl, rfl, Fr.refl _ _⟩
                    case round =>
                      as_aux_lemma =>
                        obtain ⟨j, hj, rfl, rfl, F3⟩ := hrel
                        have A3 := hid (A2.out.still F3.out)
                        have O3 := hid (owns_of_heap O2.out (w' := wr) (fun g hg => by rw [ownBlock_slice] at hg; exact F3.out.block g (owns_lt O2.out g hg) (fun h => h)))
                        by_cases hjq : j < (s.Q k).length
                        · obtain ⟨y, hy⟩ : ∃ y, (s.Q k)[j]? = some y := ⟨(s.Q k)[j], List.getElem?_eq_getElem hjq⟩
                          obtain ⟨b', off', hb', hcell⟩ := RdI.of_owns O3.out j y hy
                          obtain ⟨wt, cr, HL⟩ := A3.out.lookQ hkn (List.mem_of_getElem? hy)
                          have HL := hid HL
                          have hjl : ((j : Int) < ((s.Q k).length : Int)) := by omega
                          subst hb'
                          clear hy
                          go_wp2_with (first
                            | (go_at_call 11; refine HL.out.mono ?_; rintro e w4 ⟨rfl, F4⟩)
                            | fail)
                          go_roundg ((s.Q k).length - (j + 1))
                          case measure => omega
                          case rel => exact ⟨j + 1, by omega, rfl, by go_num, (F3.out.trans F4.out).alloc _⟩
                        · as_aux_lemma =>
                            have hjq2 : ¬ ((j : Int) < ((s.Q k).length : Int)) := by omega
                            obtain ⟨i0, hi0, hz0, hz1, hz2⟩ := info_int
                            have hqi : Hid ((ints (s.Q k)).length = (s.Q k).length * 1) := hid (by rw [ints_length, Nat.mul_one])
                            have hcell : Hid (∀ ad, ro = some ad → ∀ j u, (ints (s.Q k))[j]? = some u → wr.cell? (ad.add j) = some u) := hid (fun ad had j u hu => by
                              unfold ints at hu
                              rw [List.getElem?_map] at hu
                              cases hx : (s.Q k)[j]? with
                              | none => rw [hx] at hu; cases hu
                              | some y =>
                                rw [hx] at hu
                                obtain rfl : Value.int .i64 y = u := by simpa using hu
                                obtain ⟨b', off', hb', hc⟩ := RdI.of_owns O3.out j y hx
                                obtain rfl : ad = ⟨b', off', none⟩ := by rw [hb'] at had; exact (Option.some.inj had).symm
                                rw [Addr.add_lit]
                                exact hc)
                            have hnil : Hid (ro = none → (s.Q k).length = 0) := hid (fun e => by
                              rcases O3.out.2 with ⟨_, h0⟩ | ⟨g, _, _, hv, _⟩
                              · exact h0
                              · rw [e] at hv; cases hv)
                            have hone := hid (ints_one (s.Q k))
                            have hB2 := A3.out.b2
                            have hall := hid A3.out.all
                            cases hbs : s.bs k with
                            | true =>
                              have HR := hid (fun w ys ao' ac' (A : AL W cb n s B ys ao' ac' w) => A.runs hkn (v := s.rv k) (by rw [hbs]; rfl))
                              simp only [hbs] at HR
                              have htl : Hid (allL s (k + 1) = (allL s k ++ s.Q k) ++ [s.rv k]) := hid (by show (allL s k ++ s.Q k) ++ tailL s k = _; unfold tailL; rw [if_pos hbs])
                              obtain ⟨y, hy, e1, e2, e3, _⟩ := A3.out.ok.runner hkn hbs
                              have HL := hid (fun w ys ao' ac' (A : AL W cb n s B ys ao' ac' w) => A.lookX hy e1 e2 e3)
                              have hrv := hid (rfl : (ints [s.rv k]).length = 1 * 1)
                              clear hbs O2 A2 F3 hy e1 e2 e3
                              generalize y.weight = wt at *
                              generalize y.credit = cr at *
                              go_wp2_with (first
                                | (at_builtin; refine wpList_append_gen rfl (.tmp 138) (.tmp 139) 49 rfl 3 i0 (.int .i64 0) 1 8 Try.underlying49 hi0 hz0 hz1 hz2 rfl (by decide) B ao (allL s k).length ac _ (by simp [Act.eval]) hall.out ro (s.Q k).length cap (ints (s.Q k)) (by simp [Act.eval]) hqi.out hnil.out hcell.out hone.out (by unfold maxLen; omega) (by omega) hB2 ?_; intro ao2 ac2 w5 hown hgr hat; have A5 := hid (A3.out.grow (by rw [List.length_append]) hown hgr); clear hown hgr hat)
                                | (go_at_call 14; refine (HR.out _ _ _ _ A5.out).mono ?_; rintro e w6 ⟨rfl, F6⟩; have A6 := hid (A5.out.still F6.out))
                                | (go_at_call 11; refine (HL.out _ _ _ _ A6.out).mono ?_; rintro e w7 ⟨rfl, F7⟩; have A8 := hid ((A6.out.still F7.out).still ((Fr.refl (fun _ => False) w7).alloc (.cells #[.int .i64 2, .int .i64 (k : Int), .int .i64 wt, .int .i64 cr] 29))); have A9 := hid (A8.out.still ((Fr.refl (fun _ => False) (w7.alloc (.cells #[.int .i64 2, .int .i64 (k : Int), .int .i64 wt, .int .i64 cr] 29))).alloc (.cells #[.int .i64 (s.rv k)] 3))); have H2 := hid (A8.out.second (l := (allL s k).length + (s.Q k).length) (by rw [List.length_append]) (s.rv k)); have hB8 := A9.out.b2)
                                | (at_builtin; refine wpList_append_gen rfl (.tmp 167) (.tmp 169) 49 rfl 3 i0 (.int .i64 0) 1 8 Try.underlying49 hi0 hz0 hz1 hz2 rfl (by decide) B ao2 ((allL s k).length + (s.Q k).length) ac2 _ (by simp [Act.eval]) (H2.out _ (by rfl)).1 (some ⟨w7.heap.size + 1, 0, none⟩) 1 1 (ints [s.rv k]) (by simp [Act.eval]) rfl (fun e => by cases e) (by have := (H2.out _ (by rfl)).2; rw [World.size_alloc] at this; exact this) (ints_one _) (by unfold maxLen; omega) (by omega) hB8 ?_; intro ao3 ac3 w9 hown hgr hat; have A10 := hid (A9.out.grow (by rw [List.length_append, List.length_append]; rfl) hown hgr); clear hown hgr hat)
                                | fail)
                              go_roundg (n - (k + 1))
                              case measure => omega
                              case rel => exact ⟨k + 1, ao3, ac3, by omega, rfl, by go_num, by rw [htl.out, List.length_append, List.length_append]; rfl, by rw [htl.out]; exact A10.out⟩
                            | false =>
                              have HR := hid (fun w ys ao' ac' (A : AL W cb n s B ys ao' ac' w) => A.runs hkn (v := 0) (by rw [hbs]; rfl))
                              simp only [hbs] at HR
                              have htl : Hid (allL s (k + 1) = allL s k ++ s.Q k) := hid (by show (allL s k ++ s.Q k) ++ tailL s k = _; unfold tailL; rw [if_neg (by rw [hbs]; decide), List.append_nil])
                              clear hbs O2 A2 F3
                              go_wp2_with (first
                                | (at_builtin; refine wpList_append_gen rfl (.tmp 138) (.tmp 139) 49 rfl 3 i0 (.int .i64 0) 1 8 Try.underlying49 hi0 hz0 hz1 hz2 rfl (by decide) B ao (allL s k).length ac _ (by simp [Act.eval]) hall.out ro (s.Q k).length cap (ints (s.Q k)) (by simp [Act.eval]) hqi.out hnil.out hcell.out hone.out (by unfold maxLen; omega) (by omega) hB2 ?_; intro ao2 ac2 w5 hown hgr hat; have A5 := hid (A3.out.grow (by rw [List.length_append]) hown hgr); clear hown hgr hat)
                                | (go_at_call 14; refine (HR.out _ _ _ _ A5.out).mono ?_; rintro e w6 ⟨rfl, F6⟩)
                                | fail)
                              go_roundg (n - (k + 1))
                              case measure => omega
                              case rel => exact ⟨k + 1, ao2, ac2, by omega, rfl, by go_num, by rw [htl.out, List.length_append], by rw [htl.out]; exact A5.out.still F6.out⟩
                · as_aux_lemma =>
                    have hkn' : k = n := by omega
                    subst hkn'
                    have hnn : ¬ ((k : Int) < (k : Int)) := by omega
                    have hne := hid (fun (i j : Nat) (x y : Int) hi hj h => allL_ne A.out.ok (i := i) (j := j) (x := x) (y := y) hi hj h)
                    have hfew := allL_few A.out.ok (Nat.le_refl k)
                    have hall := hid A.out.all
                    have hGS := hid A.out.back
                    have hget := hid (fun (j : Nat) (hj : j < (allL s k).length) => (⟨(allL s k)[j], List.getElem?_eq_getElem hj⟩ : ∃ y, (allL s k)[j]? = some y))
                    have hcl := (owns_len A.out.all).2.1
                    have hcm := (owns_len A.out.all).2.2.1
                    unfold maxLen at hcm
                    clear A
                    obtain ⟨wo, hwo⟩ : ∃ wo, wo = wr := ⟨_, rfl⟩
                    subst hwo
                    go_wp2_with fail
                    go_loopg [19] (allL s k).length (fun gg v19 w4 => ∃ i2 : Nat, i2 ≤ (allL s k).length ∧ gg = (allL s k).length - i2 ∧ v19 = .int .i64 (i2 : Int) ∧ Hid (Fr (fun _ => False) wo w4))
                    case atStart => exact ⟨0, Nat.zero_le _, rfl, rfl, Fr.refl _ _⟩
                    case round =>
                      obtain ⟨i2, hi2, rfl, rfl, F4⟩ := hrel
                      by_cases hil : i2 < (allL s k).length
                      · have hil2 : ((i2 : Int) < ((allL s k).length : Int)) := by omega
                        go_wp2_with fail
                        go_loopg [20] i2 (fun gg v20 w5 => ∃ j2 : Nat, j2 ≤ i2 ∧ gg = i2 - j2 ∧ v20 = .int .i64 (j2 : Int) ∧ Hid (Fr (fun _ => False) wo w5))
                        case atStart => exact ⟨0, Nat.zero_le _, rfl, rfl, F4⟩
                        case round =>
                          obtain ⟨j2, hj2, rfl, rfl, F5⟩ := hrel
                          by_cases hjl : j2 < i2
                          · obtain ⟨x1, hx1⟩ := hget.out i2 hil
                            obtain ⟨y1, hy1⟩ := hget.out j2 (by omega)
                            have hO := owns_of_heap hall.out (w' := wr) (fun g hg => by rw [ownBlock_slice] at hg; exact F5.out.block g (owns_lt hall.out g hg) (fun h => h))
                            obtain ⟨b1, o1, hb1, q1⟩ := RdI.of_owns hO i2 x1 hx1
                            obtain ⟨b2, o2, hb2, q2⟩ := RdI.of_owns hO j2 y1 hy1
                            subst hb1
                            obtain ⟨rfl, rfl⟩ : b1 = b2 ∧ o1 = o2 := by simpa using hb2
                            have hxy := hne.out i2 j2 x1 y1 hx1 hy1 hjl
                            have hb : (y1 == x1) = false := by simpa using hxy
                            have hj3 : ((j2 : Int) < (i2 : Int)) := by omega
                            have hj4 : ((j2 : Int) < ((allL s k).length : Int)) := by omega
                            clear hx1 hy1 hxy hO hb2
                            go_wp2_with fail
                            go_quiet (fail)
                            go_wp2_with fail
                            go_roundg (i2 - (j2 + 1))
                            case measure => omega
                            case rel => exact ⟨j2 + 1, by omega, rfl, by go_num, F5.out.drewM _⟩
                          · have hjn : ¬ ((j2 : Int) < (i2 : Int)) := by omega
                            go_wp2_with fail
                            go_roundg ((allL s k).length - (i2 + 1))
                            case measure => omega
                            case rel => exact ⟨i2 + 1, by omega, rfl, by go_num, F5⟩
                      · have hin : ¬ ((i2 : Int) < ((allL s k).length : Int)) := by omega
                        go_wp2_with fail
                        go_roundg (pl - (i + 1))
                        case measure => omega
                        case rel => exact ⟨i + 1, s, by omega, rfl, by go_num, (gs_still hGS F4.out).out⟩
      · have hb := hid (hG.fr.below (Nat.le_refl _) (fun k hk h => Nat.not_le_of_lt hk h))
        clear hG HA G1
        go_wp2
        go_ret
        exact ⟨rfl, hb.out⟩
end Go.Proofs.Ytehjekcfhmmggaa

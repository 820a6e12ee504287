/-
  A slice of places: its cells, and the library's Index, Delete and Clone over it. No conditions.
-/
import Derived.Test.YtelbbfogeimekaaRows
import Derived.Test.YtelbbfogeimekaaCac0
import Derived.Test.YtelbbfogeimekaaMap
import Derived.Deep.LoopGhost
namespace Go.Proofs.Ytelbbfogeimekaa
open Go.RowKit

section
variable {V : Type}
/-- The places of entries, as cells. -/
def kvsS : List (Ent ByteArray V) → List Value
  | [] => []
  | e :: L => .int .i64 e.g :: .string e.k :: kvsS L

theorem kvsS_len : ∀ L : List (Ent ByteArray V), (kvsS L).length = L.length * 2
  | [] => rfl
  | e :: L => by simp [kvsS, kvsS_len L]; omega
theorem kvsS_append : ∀ L M : List (Ent ByteArray V), kvsS (L ++ M) = kvsS L ++ kvsS M
  | [], M => rfl
  | e :: L, M => by simp [kvsS, kvsS_append L M]
theorem kvsS_at : ∀ {L : List (Ent ByteArray V)} {j : Nat} {e : Ent ByteArray V}, L[j]? = some e → (kvsS L)[j * 2]? = some (.int .i64 e.g) ∧ (kvsS L)[j * 2 + 1]? = some (.string e.k)
  | [], j, e, h => by cases h
  | x :: L, 0, e, h => by simp at h; subst h; exact ⟨rfl, rfl⟩
  | x :: L, j + 1, e, h => by
    have := kvsS_at (L := L) (j := j) (by simpa using h)
    rw [show (j + 1) * 2 = j * 2 + 1 + 1 from by omega]
    simpa [kvsS] using this
theorem kvsS_erase : ∀ (L : List (Ent ByteArray V)) (i : Nat), i < L.length → (kvsS L).take (i * 2) ++ (kvsS L).drop ((i + 1) * 2) = kvsS (L.eraseIdx i)
  | e :: L, 0, _ => by simp [kvsS]
  | e :: L, i + 1, h => by
    have ih := kvsS_erase L i (by simpa using h)
    rw [show (i + 1) * 2 = i * 2 + 1 + 1 from by omega, show (i + 1 + 1) * 2 = (i + 1) * 2 + 1 + 1 from by omega, List.eraseIdx_cons_succ]
    simp only [kvsS, List.take_succ_cons, List.drop_succ_cons, List.cons_append]
    rw [ih]
theorem kvsS_one (L : List (Ent ByteArray V)) : ∀ u ∈ kvsS L, u.oneCell' = true := by
  induction L with
  | nil => intro u hu; cases hu
  | cons e L ih =>
    intro u hu
    simp only [kvsS, List.mem_cons] at hu
    rcases hu with rfl | rfl | hu
    · rfl
    · rfl
    · exact ih u hu

theorem kvsS_cells {w : World} {so : Option Addr} {l cap : Nat} {L : List (Ent ByteArray V)} {base : Nat} (h : w.ownsRow base 80 2 (.slice so l cap) l (kvsS L)) {j : Nat} {e : Ent ByteArray V} (he : L[j]? = some e) :
    ∃ b, so = some ⟨b, 0, none⟩ ∧ w.cell? ⟨b, j * 2, none⟩ = some (.int .i64 e.g) ∧ w.cell? ⟨b, j * 2 + 1, none⟩ = some (.string e.k) := by
  have hj : j < L.length := (List.getElem?_eq_some_iff.1 he).1
  have hlen := h.1
  rw [kvsS_len] at hlen
  obtain ⟨b, c, hv, _, _⟩ := h.form (by omega)
  simp only [Value.slice.injEq] at hv
  obtain ⟨rfl, _, _⟩ := hv
  obtain ⟨h1, h2⟩ := kvsS_at he
  have c1 := h.cells (g := b) rfl _ _ h1
  have c2 := h.cells (g := b) rfl _ _ h2
  simp only [Addr.add_lit, Nat.zero_add] at c1 c2
  exact ⟨b, rfl, c1, c2⟩
end

theorem Try.info80 : (Try.prog.info? 80).map (fun i => (i.zero, i.size, i.bytes)) = some (some (.agg #[.int .i64 0, .string ⟨#[]⟩]), 2, 24) := by kernel_rfl
theorem Try.zero80 (w : World) : (zeroValue 80).run Try.prog w = .ok (.agg #[.int .i64 0, .string ⟨#[]⟩]) w := by kernel_rfl

theorem eq80 (g g' : Int) (k k' : ByteArray) (w : World) : (binOp .eql 80 (.agg #[.int .i64 g, .string k]) (.agg #[.int .i64 g', .string k'])).run Try.prog w = .ok (.bool (decide (g = g' ∧ k = k'))) w := by
  have u3 := Try.underlying3
  have uk := Try.underlying9
  have a3 := Try.isAgg3
  have z3 := Try.sizeOf3
  have ak := Try.isAgg9
  have zk := Try.sizeOf9
  have hS : Try.prog.underlying 80 = some (.struct (Try.prog.fieldsOf 80)) := by kernel_rfl
  have hp : Try.prog.stoodInHeld 80 = false := by kernel_rfl
  rw [run_eql_struct, show (10000 : Nat) = 9999 + 1 from rfl, run_equalIn_agg w 9999 80 _ _ hS hp]
  simp only [Program.fieldsOf, Try.underlying80]
  go_simp
  by_cases h1 : g = g' <;> by_cases h2 : k = k' <;> simp [h1, h2]
  intro h
  rw [ByteArray.toList_eq, ByteArray.toList_eq] at h
  refine h2 ?_
  cases k; cases k'
  simp at h ⊢
  exact h

set_option maxHeartbeats 800000 in
set_option maxRecDepth 100000 in
theorem indexS {V : Type} (w : World) (so : Option Addr) (l cap : Nat) (L : List (Ent ByteArray V)) (h : w.ownsRow 0 80 2 (.slice so l cap) l (kvsS L)) (g : Int) (k : ByteArray) (hh : hasE L g k = true) :
    Calls Try.prog 39 #[.slice so l cap, .agg #[.int .i64 g, .string k]] w fun e w' => e = .returned (.int .i64 (idxE L g k)) ∧ Hid (Fr (fun _ => False) w w') := by
  have hll : L.length = l := by have := h.1; rw [kvsS_len] at this; omega
  have hidx := idxE_lt hh
  have hcap := (owns_len h).2.1
  have hmx := (owns_len h).2.2.1
  unfold maxLen at hmx
  have H := hid h
  have Hh := hid hh
  clear h hh
  go_enter Try.func39, Try.ntmps39
  go_wp2_with fail
  go_loopg [8] l (fun gg vi wr => ∃ j m : Nat, j ≤ idxE L g k ∧ gg = l - j ∧ vi = .int .i64 j ∧ wr = (w.alloc (.cells #[.int .i64 g, .string k] 80)).drewN m)
  case atStart => exact ⟨0, 0, Nat.zero_le _, rfl, rfl, rfl⟩
  case round =>
    as_aux_lemma =>
      obtain ⟨j, m, hj, rfl, rfl, rfl⟩ := hrel
      obtain ⟨e, he⟩ : ∃ e, L[j]? = some e := ⟨L[j]'(by omega), List.getElem?_eq_getElem (by omega)⟩
      obtain ⟨b, hb, k1, k2⟩ := kvsS_cells H.out he
      subst hb
      have hbl := block_lt_of_cell k1
      have hjl : ((j : Int) < (l : Int)) := by omega
      by_cases hji : j < idxE L g k
      · have hne := idxE_before j e hji he
        have hd : ¬(e.g = g ∧ e.k = k) := by intro h; rw [isE_iff.2 h] at hne; cases hne
        have heq : ∀ w' : World, (binOp .eql 80 (.agg #[.int .i64 g, .string k]) (.agg #[.int .i64 e.g, .string e.k])).run Try.prog w' = .ok (.bool false) w' := fun w' => by
          rw [eq80, decide_eq_false (fun h => hd ⟨h.1.symm, h.2.symm⟩)]
        clear hd hne
        go_wp2_with fail
        go_quiet (fail)
        go_wp2_with fail
        go_roundg (l - (j + 1))
        case measure => omega
        case rel => exact ⟨j + 1, m + nq, by omega, rfl, by go_num, rfl⟩
      · have hje : Hid (j = idxE L g k) := by unfold Hid; omega
        obtain ⟨e', he', hee, _⟩ := idxE_at Hh.out
        obtain rfl : e = e' := by rw [← hje.out, he] at he'; exact Option.some.inj he'
        obtain ⟨h1, h2⟩ := isE_iff.1 hee
        have heq : ∀ w' : World, (binOp .eql 80 (.agg #[.int .i64 g, .string k]) (.agg #[.int .i64 e.g, .string e.k])).run Try.prog w' = .ok (.bool true) w' := fun w' => by
          rw [eq80, decide_eq_true ⟨h1.symm, h2.symm⟩]
        clear h1 h2 hee he' Hh H hji hj hidx
        go_wp2_with fail
        go_quiet (fail)
        go_wp2_with fail
        go_ret
        exact ⟨by rw [← hje.out]; rfl, ((Fr.refl _ w).alloc _).then (T := fun _ => False) ⟨rfl, rfl, rfl, Nat.le_refl _, fun _ _ _ => rfl⟩ (fun _ _ h => h)⟩

set_option maxHeartbeats 400000 in
theorem cloneS (w : World) (ao : Option Addr) (l c : Nat) (xs : List Value) (base : Nat) (h : w.ownsRow base 80 2 (.slice ao l c) l xs) (h1 : ∀ u ∈ xs, u.oneCell' = true) (hc : l ≤ 4096) :
    Calls Try.prog 36 #[.slice ao l c] w fun e w' => ∃ ro cap, e = .returned (.slice ro l cap) ∧ Hid (w'.ownsRow w.heap.size 80 2 (.slice ro l cap) l xs) ∧ Hid (Fr (fun _ => False) w w') := by
  obtain ⟨i0, hi, hz0, hz1, hz2⟩ := info_parts Try.info80
  have hlen := h.1
  cases ao with
  | none =>
    have hcap := (owns_len h).2.2.2 rfl
    have hll := (owns_len h).2.1
    obtain rfl : l = 0 := by omega
    obtain rfl : c = 0 := by omega
    obtain rfl : xs = [] := List.eq_nil_of_length_eq_zero (by omega)
    have he := fun (w : World) => Lib.run_eql_slice_nil (P := Try.prog) w 76 80 none 0 0 0 0 Try.underlying76
    go_enter Try.func36, Try.ntmps36
    go_wp2
    go_ret
    exact ⟨none, 0, rfl, World.ownsRow_nil _ _ _ _, Fr.refl _ _⟩
  | some ad =>
    have he := fun (w : World) => Lib.run_eql_slice_nil (P := Try.prog) w 76 80 (some ad) l c 0 0 Try.underlying76
    have hrow : Hid ((w.alloc (.cells #[] 80)).ownsRow w.heap.size 80 2 (.slice (some ⟨w.heap.size, 0, none⟩) 0 0) 0 []) := World.ownsRow_made w #[] 0 (Nat.le_refl _) (Nat.zero_le _) rfl
    have hsrc : Hid (∀ a, some ad = some a → ∀ j u, xs[j]? = some u → (w.alloc (.cells #[] 80)).cell? (a.add j) = some u) := by
      intro a ha j u hu
      cases ha
      have had : ad = ⟨ad.block, 0, none⟩ := by
        rcases h.2 with ⟨hv, _⟩ | ⟨g, cap, cur, hv, _⟩
        · cases hv
        · simp only [Value.slice.injEq, Option.some.injEq] at hv
          rw [hv.1]
      have hc := h.cells (g := ad.block) (by rw [ownBlock_slice]; rfl) j u hu
      rw [← had] at hc
      rw [World.cell?_of_block (Below.heap_alloc _ _ _ (block_lt_of_cell hc))]
      exact hc
    have hlen' := hid hlen
    clear h hlen
    go_enter Try.func36, Try.ntmps36
    go_wp2_with (at_builtin; refine wpList_append_gen rfl (.tmp 5) (.tmp 6) 76 rfl 80 i0 (.agg #[.int .i64 0, .string ⟨#[]⟩]) 2 24 Try.underlying76 hi hz0 hz1 hz2 rfl (by decide) w.heap.size _ 0 0 [] (by simp [Act.eval]) hrow.out (some ad) l c xs (by simp [Act.eval]) hlen'.out (fun e => by cases e) hsrc.out h1 (by unfold maxLen; omega) (by omega) (by simp) ?_; intro ro cap w' hown hgr hat; have Hown := hid hown; have Hgr := hid hgr; clear hown hgr hat)
    go_ret
    refine ⟨ro, cap, by simp, by unfold Hid; simpa using Hown.out, ?_⟩
    exact ((Fr.refl _ w).alloc _).grown Hgr.out (fun k e hk => by simp at e; omega)

set_option maxHeartbeats 800000 in
set_option maxRecDepth 100000 in
theorem deleteS (w : World) (ao : Option Addr) (l cap i : Nat) (xs : List Value) (h : w.ownsRow 0 80 2 (.slice ao l cap) l xs) (h1 : ∀ u ∈ xs, u.oneCell' = true) (hk : i < l) :
    Calls Try.prog 40 #[.slice ao l cap, .int .i64 i, .int .i64 ((i : Int) + 1)] w fun e w' => e = .returned (.slice ao (l - 1) cap) ∧
      Hid (w'.ownsRow 0 80 2 (.slice ao (l - 1) cap) (l - 1) (xs.take (i * 2) ++ xs.drop ((i + 1) * 2))) ∧ Hid (w.grownBy w' (blk ao)) := by
  obtain ⟨i0, hi, hz0, hz1, hz2⟩ := info_parts Try.info80
  have hlc := (owns_len h).2.1
  have hm := (owns_len h).2.2.1
  unfold maxLen at hm
  obtain ⟨hlen, hx⟩ := h
  rcases hx with ⟨hv, h0⟩ | ⟨g, cap', cur, hv, _, hg, hnc, hcm, hcs, htake⟩
  · omega
  obtain ⟨rfl, _, rfl⟩ : ao = some ⟨g, 0, none⟩ ∧ l = l ∧ cap = cap' := by simpa using hv
  clear hv
  have hsz : cur.toList.length = cur.size := Array.length_toList
  obtain ⟨news, hnews⟩ : ∃ news, news = xs.drop ((i + 1) * 2) := ⟨_, rfl⟩
  obtain ⟨ad, had, hcell⟩ : ∃ ad : Addr, (if cap = i + 1 then some (⟨g, 0, none⟩ : Addr) else some ⟨g, (i + 1) * 2, none⟩) = some ad ∧ Hid (∀ j u, news[j]? = some u → w.drew.cell? (ad.add j) = some u) := by
    by_cases hc : cap = i + 1
    · refine ⟨⟨g, 0, none⟩, by simp [hc], fun j u hu => ?_⟩
      have : news = [] := by rw [hnews]; apply List.drop_eq_nil_of_le; omega
      rw [this] at hu
      simp at hu
    · refine ⟨⟨g, (i + 1) * 2, none⟩, by simp [hc], fun j u hu => ?_⟩
      rw [Addr.add_lit]
      show w.cell? _ = _
      rw [cell_at hg]
      rw [hnews, List.getElem?_drop, ← htake, List.getElem?_take] at hu
      split at hu
      · simpa using hu
      · cases hu
  have s1 : Hid (news.length = (l - (i + 1)) * 2) := by rw [hnews, List.length_drop]; unfold Hid; omega
  have s2 : Hid (∀ u ∈ news, u.oneCell' = true) := fun u hu => h1 u (by rw [hnews] at hu; exact List.mem_of_mem_drop hu)
  have hgd : Hid (w.drew.heap[g]? = some (.cells cur 80 (0, 0))) := hg
  have hfit : Hid (i * 2 + news.length ≤ cur.size) := by rw [hnews, List.length_drop]; unfold Hid; omega
  obtain ⟨A1, hA1⟩ : ∃ A1, A1 = (cur.toList.take (i * 2) ++ news ++ cur.toList.drop (i * 2 + news.length)).toArray := ⟨_, rfl⟩
  have R := deleted_row cur.toList xs cap l i (i + 1) 2 (Builtin.zeroCells (Value.agg #[.int .i64 0, .string ⟨#[]⟩]).cells 1).toList (by rw [hsz]; exact hcs) htake hnc (by omega) (by omega) (by rw [Array.length_toList, size_zeroCells]; simp [Value.cells]) news hnews
  rw [show i + 1 - i = 1 from by omega] at R
  have hA1s : A1.size = cap * 2 := by rw [hA1, List.size_toArray]; exact R.1
  have hG1 : Hid (∀ w1, w1 = w.drew.setRow g A1 → w1.heap[g]? = some (.cells A1 80 (0, 0)) ∧ w.grownBy w1 (some g)) := by
    intro w1 e1
    rw [e1]
    exact ⟨setRow_heap w.drew g cur _ 80 _ hg, grown_drew (grown_setRow w.drew g _)⟩
  have hG2 : Hid (∀ w1 w2 : World, w1.heap[g]? = some (.cells A1 80 (0, 0)) → w.grownBy w1 (some g) →
      w2 = w1.setRow g (A1.toList.take ((l - 1) * 2) ++ (Builtin.zeroCells (Value.agg #[.int .i64 0, .string ⟨#[]⟩]).cells 1).toList ++ A1.toList.drop ((l - 1) * 2 + 1 * (Value.agg #[.int .i64 0, .string ⟨#[]⟩]).cells.size)).toArray →
      w2.ownsRow 0 80 2 (.slice (some ⟨g, 0, none⟩) (l - 1) cap) (l - 1) (xs.take (i * 2) ++ xs.drop ((i + 1) * 2)) ∧ w.grownBy w2 (some g)) := by
    intro w1 w2 g1 G1 e2
    obtain ⟨_, R2, R3⟩ := R
    have ez : (Value.agg #[.int .i64 0, .string ⟨#[]⟩]).cells.size = 2 := rfl
    rw [ez] at e2
    have eA : A1.toList = cur.toList.take (i * 2) ++ news ++ cur.toList.drop (i * 2 + news.length) := by rw [hA1]
    rw [← eA] at R2 R3
    have g2 := setRow_heap w1 g _ ((A1.toList.take ((l - 1) * 2) ++ (Builtin.zeroCells (Value.agg #[.int .i64 0, .string ⟨#[]⟩]).cells 1).toList ++ A1.toList.drop ((l - 1) * 2 + 1 * 2)).toArray) 80 _ g1
    rw [← e2] at g2
    refine ⟨⟨?_, .inr ⟨g, cap, _, rfl, Nat.zero_le _, g2, by omega, hcm, by rw [List.size_toArray]; exact R2, by rw [List.toList_toArray]; exact R3⟩⟩, ?_⟩
    · rw [List.length_append, List.length_take, List.length_drop, hlen]; omega
    · have G2 : w1.grownBy w2 (some g) := by rw [e2]; exact grown_setRow _ _ _
      exact G1.trans G2
  have hfit2 : Hid ((l - 1) * 2 + 1 * (Value.agg #[.int .i64 0, .string ⟨#[]⟩]).cells.size ≤ A1.size) := by
    unfold Hid
    rw [hA1s, show (Value.agg #[.int .i64 0, .string ⟨#[]⟩]).cells.size = 2 from rfl]
    omega
  have hA1' := hid hA1
  have hne : ¬ cap = l - 1 := by omega
  have e3 : l - (l - 1) = 1 := by omega
  clear hg htake hcs hlen h1 hA1 hA1s hnews hsz R
  have e4 : ((i : Int) + 1).toNat = i + 1 := by omega
  have e5 : IntKind.i64.wrap ((i : Int) + 1) = (i : Int) + 1 := IntWalk.i64_in _ (by omega)
  have e6 : i + (l - (i + 1)) = l - 1 := by omega
  have q1 : i ≤ cap := by omega
  have q2 : i + 1 ≤ cap := by omega
  have q3 : i + 1 ≤ l := by omega
  have q4 : i < cap := by omega
  have q5 : (0 : Int) ≤ (i : Int) + 1 := by omega
  have q6 : (i : Int) + 1 ≤ (l : Int) := by omega
  go_enter Try.func40, Try.ntmps40
  go_wp2
  go_region_law (refine step_append_row rfl (.tmp 22) (.tmp 25) 76 rfl 80 i0 2 Try.underlying76 hi hz1 g i cap cur (by simp [Act.eval, Act.put]) hgd.out ad (l - (i + 1)) (cap - (i + 1)) news (by simp [Act.eval, Act.put]) s1.out hcell.out s2.out (by omega) hfit.out ?_; intro w1 e1; rw [← hA1'.out] at e1; have E1 := hid (hG1.out w1 e1); clear e1)
  go_wp2_with (refine wpList_clear_row rfl (.tmp 31) 76 rfl 80 (.agg #[.int .i64 0, .string ⟨#[]⟩]) Try.underlying76 Try.zero80 (by decide) (by simp [Value.cells, Value.oneCell']) g ((l - 1) * 2) 1 (cap - (l - 1)) A1 80 (by simp [Act.eval]) (by omega) E1.out.1 hfit2.out ?_; intro w2 e2; have E2 := hid (hG2.out w1 w2 E1.out.1 E1.out.2 e2); clear e2)
  go_ret
  exact ⟨by simp, E2.out⟩
end Go.Proofs.Ytelbbfogeimekaa

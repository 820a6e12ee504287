/-
  WirePlays, walked: sizes in range. No conditions.
-/
import Derived.Test.YtjoamafcmknglaaPlay1
import Derived.Deep.CutBlock
import Derived.Deep.LoopGhost
import Derived.Deep.RegionHeld3
import Derived.Deep.RegionWith
namespace Go.Proofs.Ytjoamafcmknglaa
open Go.RowKit Go.Conc

/-- n numbers that may be written, at the head of a row. -/
def RowI (w : World) (io : Option Addr) (m : Nat) : Prop :=
  ∀ j, j < m → ∃ g x, io = some ⟨g, 0, none⟩ ∧ w.cell? ⟨g, j, none⟩ = some (.int .i64 x) ∧ w.frozen? ⟨g, j, none⟩ = false

theorem RowI.turn {w : World} {io : Option Addr} {m : Nat} (h : RowI w io m) (g j : Nat) (x : Int) : RowI (w.setCell ⟨g, j, none⟩ (.int .i64 x)) io m := by
  intro j' hj'
  obtain ⟨g', x', e', hc, hz⟩ := h j' hj'
  by_cases hgg : g = g'
  · subst hgg
    by_cases hjj : j = j'
    · subst hjj
      exact ⟨g, x, e', World.cell?_setCell_same' w _ _ (by rw [hc]; rfl), by rw [World.frozen?_setCell]; exact hz⟩
    · exact ⟨g, x', e', by rw [World.cell?_setCell_other w ⟨g, j, none⟩ ⟨g, j', none⟩ _ (fun h => hjj (Addr.mk.inj h).2.1)]; exact hc, by rw [World.frozen?_setCell]; exact hz⟩
  · exact ⟨g', x', e', by rw [World.cell?_setCell_other w ⟨g, j, none⟩ ⟨g', j', none⟩ _ (fun h => hgg (Addr.mk.inj h).1)]; exact hc, by rw [World.frozen?_setCell]; exact hz⟩

theorem RowI.kept {w w' : World} {io : Option Addr} {m : Nat} {T : Nat → Prop} (h : RowI w io m) (hf : Fr T w w') (hT : ∀ g, blk io = some g → ¬ T g) : RowI w' io m := by
  intro j hj
  obtain ⟨g, x, e, hc, hz⟩ := h j hj
  have hb := hf.block g (block_lt_of_cell hc) (hT g (by rw [e]; rfl))
  exact ⟨g, x, e, (World.cell?_of_block (a := ⟨g, j, none⟩) hb).trans hc, by unfold World.frozen? at hz ⊢; rw [hb]; exact hz⟩

theorem rowI_of_owns {w : World} {base l cap : Nat} {ro : Option Addr} {zs : Nat → Int} (hown : w.ownsRow base 3 1 (.slice ro l cap) l (zv zs l)) : RowI w ro l := by
  intro j hj
  rcases hown.2 with ⟨hv, h0⟩ | ⟨g, cap', cur, hv, _, hc, _, _, h3, h4⟩
  · omega
  · simp only [Value.slice.injEq] at hv
    obtain ⟨hv1, _, _⟩ := hv
    have hz := thawed (o := j) hc
    have hcell := hown.cells (g := g) (by rw [ownBlock_slice, hv1]; rfl) j (.int .i64 (zs j)) (by simp [zv, hj])
    simp only [Addr.add_lit, Nat.zero_add] at hcell
    exact ⟨g, _, hv1, hcell, hz⟩

set_option maxHeartbeats 400000 in
theorem names_ok (w : World) : Calls Try.prog 14 #[] w fun e w' => e = .returned (.bool true) ∧ w = w' := by
  go_enter Try.func14, Try.ntmps14
  go_wp2
  go_ret
  exact ⟨rfl, rfl⟩

/-- The copy of the groups is laid. -/
theorem copied {W w1 : World} {io : Option Addr} {n ic : Nat} {zs : Nat → Int} (hown : w1.ownsRow W.heap.size 3 1 (.slice io (0 + n) ic) (0 + n) ([] ++ zv zs n)) (hgr : (W.alloc (.cells #[] 3)).grownBy w1 (some W.heap.size)) :
    Fr (fun _ => False) W w1 ∧ RowI w1 io n ∧ Grp w1 io n ic zs ∧ (∀ g, blk io = some g → W.heap.size ≤ g ∧ g < w1.heap.size) ∧ n ≤ ic ∧ ic ≤ 9223372036854775807 := by
  rw [Nat.zero_add, List.nil_append] at hown
  have hl := owns_len hown
  unfold maxLen at hl
  refine ⟨((Fr.refl _ W).alloc _).grown hgr (fun k e hk => by simp at e; omega), rowI_of_owns hown, ⟨fun e => ?_, fun ad e j u hu => ?_⟩, fun g hg => ⟨(owns_ge hown g hg).1, owns_lt hown g hg⟩, hl.2.1, by omega⟩
  · have := hl.2.2.2 e
    exact ⟨by omega, this⟩
  · have hc := hown.cells (g := ad.block) (by rw [ownBlock_slice, e]; rfl) j u hu
    have had' : ad = ⟨ad.block, 0, none⟩ := by
      rcases hown.2 with ⟨hv, _⟩ | ⟨g, cap, cur, hv, _⟩
      · simp only [Value.slice.injEq] at hv; rw [e] at hv; cases hv.1
      · simp only [Value.slice.injEq] at hv
        rw [e] at hv
        rw [Option.some.inj hv.1]
    rw [had']
    exact hc

/-- At the head of an act. -/
def PlayI (W : World) (lw rb n pl g : Nat) (vi : Value) (wr : World) : Prop :=
  ∃ (i : Nat) (G : Nat → Int) (Q : QS), i ≤ pl ∧ g = pl - i ∧ vi = .int .i64 i ∧ DUO W wr lw rb n G Q G Q (fun _ => False)

/-- In the loop over the groups that were handed over. -/
def GrpI (W : World) (lw rb n : Nat) (G : Nat → Int) (io : Option Addr) (g : Nat) (vj : Value) (wr : World) : Prop :=
  ∃ j : Nat, j ≤ n ∧ g = n - j ∧ vj = .int .i64 j ∧ DUO W wr lw rb n G (fun _ => []) G (fun _ => []) (fun k => blk io = some k) ∧ RowI wr io n ∧ ∀ g, blk io = some g → W.heap.size ≤ g

set_option maxHeartbeats 4000000 in
set_option maxRecDepth 100000 in
theorem play_good (go : Option Addr) (n gc : Nat) (zs : Nat → Int) (po : Option Addr) (pl pc : Nat) (ac : Nat → ActM) (W : World) (hG : Grp W go n gc zs) (hn1 : 1 ≤ n) (hn : n ≤ 32) (hA : Acts W po pl pc ac) :
    Calls Try.prog 6 #[.slice go n gc, .slice po pl pc] W fun e w' => e = .returned (.bool true) ∧ Below W.heap.size W w' := by
  obtain ⟨i3, hi3, hz30, hz31, hz32⟩ := info_parts Try.info3
  obtain ⟨i0, hi0, hz0, hz1, hz2⟩ := info_parts Try.info5
  have HA := hid hA
  have HG := hid hG
  have p1 := hA.1
  have p2 := hA.2.1
  have hrow : Hid ((W.alloc (.cells #[] 3)).ownsRow W.heap.size 3 1 (.slice (some ⟨W.heap.size, 0, none⟩) 0 0) 0 []) := World.ownsRow_made W #[] 0 (Nat.le_refl _) (Nat.zero_le _) rfl
  have hsrc : Hid (∀ ad, go = some ad → ∀ j u, (zv zs n)[j]? = some u → (W.alloc (.cells #[] 3)).cell? (ad.add j) = some u) := by
    intro ad e j u hu
    have hc := hG.cells ad e j u hu
    rw [World.cell?_of_block (Below.heap_alloc _ _ _ (block_lt_of_cell hc))]
    exact hc
  have hlen : Hid ((zv zs n).length = n * 1) := by unfold Hid; simp [zv]
  have hnil : Hid (go = none → n = 0) := fun e => (hG.nil e).1
  have hone : Hid (∀ u ∈ zv zs n, u.oneCell' = true) := by
    intro u hu
    obtain ⟨x, _, rfl⟩ := List.mem_map.1 hu
    rfl
  clear hA hG
  go_enter Try.func6, Try.ntmps6
  go_wp2_with (first
    | (at_builtin; refine wpList_append_gen rfl (.tmp 25) (.tmp 26) 23 rfl 3 i3 (.int .i64 0) 1 8 Try.underlying23 hi3 hz30 hz31 hz32 rfl (by decide) W.heap.size _ 0 0 [] (by simp [Act.eval]) hrow.out go n gc (zv zs n) (by simp [Act.eval]) hlen.out hnil.out hsrc.out hone.out (by unfold maxLen; omega) (by omega) (by simp) ?_; intro io ic w1 hown hgr hat; have HC := hid (copied hown hgr); clear hown hgr hat)
    | (go_at_call 7; refine (new_any w1 io n ic zs HC.out.2.2.1 hn1 hn).mono ?_; rintro e w2 ⟨lw, rfl, W2, F2⟩)
    | (go_at_call 13; refine (v_new (fun k => w2.heap.size ≤ k) w2 (fun _ h => h) go n gc zs (show Grp w2 go n gc zs from ⟨HG.out.nil, fun ad e j u hu => (((HC.out.1.then F2.out (fun _ _ h => h.elim)).cell (p := ad.add j) (block_lt_of_cell (HG.out.cells ad e j u hu)) (fun h => h)).trans (HG.out.cells ad e j u hu))⟩) hn1 hn).mono ?_; rintro e w3 ⟨rb, rfl, V3, F3⟩)
    | (go_at_call 14; refine (names_ok _).mono ?_; rintro e w' ⟨rfl, rfl⟩)
    | fail)
  have hst : Hid (GrpI W lw rb n zs io n (.int .i64 0) w3) := by
    obtain ⟨c1, c2, c3, c4, _⟩ := HC.out
    have s1 := c1.size
    have s2 := F2.out.size
    refine ⟨0, Nat.zero_le _, rfl, rfl, ⟨fun k => w1.heap.size ≤ k ∧ k < w2.heap.size, fun k => w2.heap.size ≤ k, (W2.out.mono (fun k hk a => ⟨a, hk⟩)).kept F3.out (fun _ _ h => h), V3.out, fun k a b => by omega, fun k a => by omega, fun k a => by omega, ((c1.mono (fun _ _ h => h.elim)).then F2.out (fun _ _ h => h.elim)).then F3.out (fun _ _ h => h.elim), fun k hk => ?_⟩, (c2.kept F2.out (fun _ _ h => h)).kept F3.out (fun _ _ h => h), fun g e => (c4 g e).1⟩
    have h4 := (c4 k hk).2
    have s3 := F3.out.size
    exact ⟨by omega, fun a => by omega, fun b => by omega⟩
  have icb := HC.out.2.2.2.2
  clear HC W2 F2 V3 F3 hrow hsrc hlen hnil hone HG
  go_loopg [10] n (fun g vj wr => GrpI W lw rb n zs io g vj wr)
  case atStart => exact hst.out
  case round =>
    as_aux_lemma =>
      obtain ⟨j, hj, rfl, rfl, hD, hR, hg⟩ := hrel
      clear hst
      by_cases hjn : j < n
      · obtain ⟨g, z, e, hc, hz⟩ := hR j hjn
        have HD := hid hD
        have HR := hid hR
        have Hg := hid hg
        clear hD hR hg
        subst e
        go_wp2_with fail
        go_roundg (n - (j + 1))
        case measure => omega
        case rel => exact ⟨j + 1, by omega, rfl, by go_num, HD.out.turn g rfl (Hg.out g rfl) j _, HR.out.turn g j _, Hg.out⟩
      · obtain rfl : j = n := by omega
        have hst : Hid (PlayI W lw rb j pl pl (.int .i64 0) wr) := ⟨0, zs, fun _ => [], Nat.zero_le _, rfl, rfl, hD.less (fun _ h => h.elim)⟩
        clear hD hR hg
        go_wp2_with fail
        go_loopg [11] pl (fun g vi wr => PlayI W lw rb j pl g vi wr)
        case atStart => exact hst.out
        case round =>
          as_aux_lemma =>
            obtain ⟨i, G, Q, hi, rfl, rfl, hD⟩ := hrel
            clear hst
            have HD := hid hD
            clear hD
            by_cases hlt : i < pl
            · obtain ⟨b, off, hpo, k0, k1, k2, k3, hb⟩ := HA.out.2.2 i hlt
              subst hpo
              obtain ⟨x, hx⟩ : ∃ x, x = ac i := ⟨_, rfl⟩
              rw [← hx] at k0 k1 k2 k3 hb
              clear hx HA
              have kb := block_lt_of_cell k0
              have kT : ∀ o, wr.cell? ⟨b, o, none⟩ = W.cell? ⟨b, o, none⟩ := fun o => HD.out.fr.cell (p := ⟨b, o, none⟩) kb (Nat.not_le_of_lt kb)
              rw [← kT] at k0 k1 k2 k3
              clear kT
              have Hb := hid hb
              clear hb
              have hrow : Hid (((wr.alloc (.cells #[.int .i64 x.kind, .int .i64 x.src, .int .i64 x.dst, .slice x.bo x.bl x.bc] 30)).alloc (.cells #[] 5)).ownsRow (wr.heap.size + 1) 5 1 (.slice (some ⟨wr.heap.size + 1, 0, none⟩) 0 0) 0 []) := by
                have := World.ownsRow_made (wr.alloc (.cells #[.int .i64 x.kind, .int .i64 x.src, .int .i64 x.dst, .slice x.bo x.bl x.bc] 30)) #[] (e := 5) (size := 1) 0 (Nat.le_refl _) (Nat.zero_le _) rfl
                rw [World.size_alloc] at this
                exact this
              have hsrc : Hid (Src ((wr.alloc (.cells #[.int .i64 x.kind, .int .i64 x.src, .int .i64 x.dst, .slice x.bo x.bl x.bc] 30)).alloc (.cells #[] 5)) x.bo x.b) := Hb.out.1.2.2.1.old ((HD.out.fr.alloc _).alloc _)
              have hlen : Hid ((bv x.b).length = x.bl * 1) := by unfold Hid bv; rw [List.length_map, Hb.out.1.2.2.2.1, Nat.mul_one]
              have hnil : Hid (x.bo = none → x.bl = 0) := fun e => by rw [← Hb.out.1.2.2.2.1, Hb.out.1.2.2.1.nil e]; rfl
              have b1 := Hb.out.1.1
              have b2 := Hb.out.2
              go_upto_block 4 with (first
                | (at_builtin; refine wpList_append_gen rfl (.tmp 80) (.tmp 82) 28 rfl 5 i0 (.int .u8 0) 1 1 Try.underlying28 hi0 hz0 hz1 hz2 rfl (by decide) (wr.heap.size + 1) _ 0 0 [] (by simp [Act.eval]) hrow.out x.bo x.bl x.bc (bv x.b) (by simp [Act.eval]) hlen.out hnil.out hsrc.out.cells (bv_one _) (by unfold maxLen; omega) (by omega) (by simp) ?_; intro io2 ic2 w1 hown hgr hat; obtain ⟨T1', S1', q1, c1, c2⟩ := ActS.start HD.out hown hgr; obtain ⟨m0, m1, m2, m3⟩ := T1'.locs; have T1 := hid T1'; have S1 := hid (And.intro S1' q1); clear hown hgr hat T1' S1' q1)
                | fail)
              have hlb := block_lt_of_cell m0
              clear hrow hsrc hlen hnil k0 k1 k2 k3 kb HD
              generalize wr.heap.size = lb at *
              obtain ⟨X, Y, hxy⟩ : ∃ X Y, (X, Y) = (sendR j G Q x.src x.dst x.b).1 := ⟨_, _, rfl⟩
              obtain ⟨I, hI⟩ : ∃ I, I = (injR j Q x.dst x.b).1 := ⟨_, rfl⟩
              obtain ⟨J, hJ⟩ : ∃ J, J = jX j x.dst := ⟨_, rfl⟩
              obtain ⟨src, hsrc⟩ : ∃ z, z = rF j Q x.dst := ⟨_, rfl⟩
              obtain ⟨xs, hxs⟩ : ∃ z, z = rB j Q x.dst := ⟨_, rfl⟩
              obtain ⟨ok, hok⟩ : ∃ z, z = rO j Q x.dst := ⟨_, rfl⟩
              obtain ⟨d, hd⟩ : ∃ d : ByteArray, d = ⟨xs.toArray⟩ := ⟨_, rfl⟩
              have Hxy := hid hxy
              have HI := hid hI
              have HJ := hid hJ
              have A1 := hid hsrc
              have A2 := hid hxs
              have A3 := hid hok
              have Hd := hid hd
              clear hxy hI hJ hsrc hxs hok hd
              go_cut [] from 86 to 196 (fun wx => ∃ G Q, ActS W lw rb lb j x io2 wx G Q G Q)
              case first =>
                as_aux_lemma =>
                  go_wp2_with (first
                    | (go_at_call 8; refine (a_send W lw rb lb j x io2 _ G Q G Q T1 hn Hb ic2 S1 X Y Hxy).mono ?_; rintro e w2 ⟨rfl, T2⟩; obtain ⟨n0, n1, n2, n3⟩ := T2.out.locs)
                    | (go_at_call 15; refine (b_send W lw rb lb j x io2 _ _ _ _ _ T2 hn Hb X Y Hxy).mono ?_; rintro e w3 ⟨rfl, T3⟩)
                    | (go_at_call 9; refine (a_recv W lw rb lb j x io2 _ G Q G Q T1 src xs ok A1 A2 A3).mono ?_; rintro e w2 ⟨r, cap, rfl, R2⟩; obtain ⟨n0, n1, n2, n3⟩ := R2.out.act.locs; have nlb := block_lt_of_cell n0)
                    | (go_at_call 17; refine (b_recv W lw rb lb j x io2 G _ G Q _ r xs cap R2 src ok A1 A2 A3 d Hd).mono ?_; rintro e w3 ⟨rfl, B3, S3, x0⟩; have x0 := x0.out; have x1 := B3.out.x1; have hxb := block_lt_of_cell x0; have cv := fun o => run_conv (w3.alloc o) r xs (S3.out.alloc o) xs.length cap rfl; rw [← Hd.out] at cv)
                    | fail)
                  · go_meet
                    exact ⟨_, _, T3.out⟩
                  · as_aux_lemma =>
                      have T1d : Hid (ActS W lw rb lb j x io2 w1.drew G Q G Q) := T1.out.still (Fr.drew (Fr.refl _ _))
                      have S1d : Hid (Src w1.drew io2 x.b ∧ (io2 = none → ic2 = 0)) := ⟨S1.out.1.kept (Fr.drew (Fr.refl (fun _ => False) w1)) (fun _ _ h => h), S1.out.2⟩
                      go_region_held3 (fun w' => w'.cell? ⟨lb, 2, none⟩ = some (.int .i64 x.dst) ∧ w'.cell? ⟨lb, 3, none⟩ = some (.slice x.bo x.bl x.bc)) (first | exact ⟨n2, n3⟩ | exact ⟨m2, m3⟩) (first
                        | (go_at_call 11; refine (a_inject W lw rb lb j x io2 _ G Q G Q T1d Hb ic2 S1d I HI).mono ?_; rintro e w2 ⟨rfl, T2⟩; obtain ⟨n0, n1, n2, n3⟩ := T2.out.locs)
                        | (go_at_call 16; refine (b_inject W lw rb lb j x io2 _ _ _ _ _ T2 Hb I HI).mono ?_; rintro e w3 ⟨rfl, T3⟩; obtain ⟨n0, n1, n2, n3⟩ := T3.out.locs))
                      all_goals go_wp2_with fail
                      all_goals go_meet
                      all_goals exact ⟨_, _, T3.out⟩
                  · as_aux_lemma =>
                      have hm := R2.out.len
                      have HB : Hid (∃ Q2, Boxed W lw rb lb j x io2 G Q2 G Q2 w2.heap.size r xs.length cap (w3.alloc (.cells #[.int .i64 src, .string d] 55))) := ⟨_, B3.out.still ((Fr.refl _ _).alloc _)⟩
                      clear B3 S3 x0 x1 hxb cv R2 n0 n1 n2 n3 nlb T1 S1 m0 m1 m2 m3 hlb Hxy HI HJ A1 A2 A3
                      generalize w2.heap.size = xb at *
                      generalize xs.length = m at *
                      go_loopg [22] m (fun g vk wx => ∃ k Q2, k ≤ m ∧ g = m - k ∧ vk = .int .i64 k ∧ Boxed W lw rb lb j x io2 G Q2 G Q2 xb r m cap wx)
                      case atStart =>
                        obtain ⟨Q2, h⟩ := HB.out
                        exact ⟨0, Q2, Nat.zero_le _, rfl, rfl, h⟩
                      case round =>
                        as_aux_lemma =>
                          obtain ⟨k, Q2, hk, rfl, rfl, hB⟩ := hrel
                          clear HB
                          have x1 := hB.x1
                          have HB := hid hB
                          clear hB
                          by_cases hkm : k < m
                          · obtain ⟨g, z, e, hc, hz⟩ := HB.out.row k hkm
                            subst e
                            have hxb := block_lt_of_cell x1
                            have hgb := block_lt_of_cell hc
                            go_wp2_with fail
                            go_region
                            all_goals go_wp2_with fail
                            all_goals go_roundg (m - (k + 1))
                            all_goals
                              first
                                | (case measure => omega)
                                | (case rel => exact ⟨k + 1, Q2, by omega, rfl, by go_num, (HB.out.turn g k _ rfl).still (Fr.drew (Fr.refl _ _))⟩)
                          · go_wp2_with fail
                            go_meet
                            exact ⟨_, _, HB.out.act⟩
                  · as_aux_lemma =>
                      have T1d : Hid (ActS W lw rb lb j x io2 w1.drew G Q G Q) := T1.out.still (Fr.drew (Fr.refl _ _))
                      go_region_held3 (fun w' => w'.cell? ⟨lb, 1, none⟩ = some (.int .i64 x.src) ∧ w'.cell? ⟨lb, 2, none⟩ = some (.int .i64 x.dst)) (first | exact ⟨n1, n2⟩ | exact ⟨m1, m2⟩) (first
                        | (go_at_call 12; refine (a_join W lw rb lb j x io2 _ G Q G Q T1d J HJ).mono ?_; rintro e w2 ⟨rfl, T2⟩; obtain ⟨n0, n1, n2, n3⟩ := T2.out.locs)
                        | (go_at_call 18; refine (b_join W lw rb lb j x io2 _ _ _ _ _ T2 J HJ).mono ?_; rintro e w3 ⟨rfl, T3⟩; obtain ⟨n0, n1, n2, n3⟩ := T3.out.locs))
                      all_goals go_wp2_with fail
                      all_goals go_meet
                      all_goals exact ⟨_, _, T3.out⟩
                  · go_meet
                    exact ⟨_, _, T1.out⟩
              case rest =>
                as_aux_lemma =>
                  obtain ⟨G2, Q2, hT⟩ := hcut
                  have T := hid hT
                  clear hT T1 S1 m0 m1 m2 m3 hlb Hxy HI HJ A1 A2 A3 Hd
                  go_wp2_with fail
                  go_loopg [23] x.bl (fun g vk wx => ∃ k, k ≤ x.bl ∧ g = x.bl - k ∧ vk = .int .i64 k ∧ ActS W lw rb lb j x io2 wx G2 Q2 G2 Q2)
                  case atStart => exact ⟨0, Nat.zero_le _, rfl, rfl, T.out⟩
                  case round =>
                    as_aux_lemma =>
                      obtain ⟨k, hk, rfl, rfl, hT⟩ := hrel
                      clear T
                      have T := hid hT
                      clear hT
                      by_cases hkl : k < x.bl
                      · obtain ⟨g, z, e, hc, hz⟩ := T.out.inn k hkl
                        subst e
                        go_wp2_with fail
                        go_roundg (x.bl - (k + 1))
                        case measure => omega
                        case rel => exact ⟨k + 1, by omega, rfl, by go_num, T.out.turn g k _ rfl⟩
                      · obtain ⟨l0, l1, l2, l3⟩ := T.out.locs
                        have HH := u_has W wr lw rb j G2 Q2 G2 Q2 _ (hid T.out.duo) x.dst
                        obtain ⟨L, hL⟩ : ∃ L, L = rL j Q2 x.dst := ⟨_, rfl⟩
                        have HW := fun m => d_wait W (wr.drewN m) lw rb j G2 Q2 G2 Q2 _ (hid (T.out.duo.still (Fr.drewN' _ m)).1) x.dst L hL
                        have HW0 := d_wait W wr lw rb j G2 Q2 G2 Q2 _ (hid T.out.duo) x.dst L hL
                        replace HW := hid HW
                        cases hr : inR j x.dst with
                        | false =>
                          as_aux_lemma =>
                            rw [hr] at HH
                            obtain rfl : L = 0 := by rw [hL]; simp [rL, hr]
                            clear hL hr HW
                            rw [show ((0 : Nat) : Int) = 0 from rfl] at HW0
                            go_wp2_with (first
                              | (go_at_call 19; refine HH.out.mono ?_; rintro e w' ⟨rfl, rfl⟩)
                              | (go_at_call 10; refine HW0.out.mono ?_; rintro e w' ⟨rfl, rfl⟩)
                              | fail)
                            go_roundg (pl - (i + 1))
                            case measure => omega
                            case rel => exact ⟨i + 1, G2, Q2, by omega, rfl, by go_num, T.out.duo.less (fun _ h => h.elim)⟩
                        | true =>
                          as_aux_lemma =>
                            rw [hr] at HH
                            obtain ⟨q, hq, hqj⟩ := inR_nat hr
                            obtain ⟨A, B, _, ⟨gb, gc2, ab, wa, wcap, hV⟩, _⟩ := T.out.duo
                            obtain ⟨_, v1, _, v3, _, _⟩ := hV.cellsP
                            replace v3 := v3 q hqj
                            have eL : L = (Q2 q).length := by rw [hL]; unfold rL; rw [if_pos hr, hq]; rfl
                            rw [← eL] at v3
                            have e1 : ((q : Int) < (j : Int)) := by omega
                            clear hL hr HW0 eL hV
                            rw [hq] at l2 HH HW
                            clear hq
                            go_wp2_with (first
                              | (go_at_call 19; refine HH.out.mono ?_; rintro e w' ⟨rfl, rfl⟩)
                              | fail)
                            go_quiet (fail)
                            go_wp2_with (first
                              | (go_at_call 10; refine (HW.out nq).out.mono ?_; rintro e w' ⟨rfl, rfl⟩)
                              | fail)
                            go_roundg (pl - (i + 1))
                            case measure => omega
                            case rel => exact ⟨i + 1, G2, Q2, by omega, rfl, by go_num, (T.out.duo.still (Fr.drewN' _ nq)).1.less (fun _ h => h.elim)⟩
            · have hb := hid (HD.out.fr.below (Nat.le_refl _) (fun k hk h => Nat.not_le_of_lt hk h))
              clear HA HD
              go_wp2_with fail
              go_ret
              exact ⟨rfl, hb.out⟩
end Go.Proofs.Ytjoamafcmknglaa

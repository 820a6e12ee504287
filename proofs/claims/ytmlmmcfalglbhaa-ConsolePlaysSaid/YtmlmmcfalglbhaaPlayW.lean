/-
  ConsolePlays, walked. No conditions.
-/
import Derived.Test.YtmlmmcfalglbhaaPlay0
import Derived.Deep.CutBlock
import Derived.Deep.LoopGhost
import Derived.Deep.RegionHeld3
import Derived.Deep.RegionWith
namespace Go.Proofs.Ytmlmmcfalglbhaa
open Go.RowKit

def actCells (x : ActC) : Array Value := #[.int .i64 x.kind, .int .i64 x.n, .int .i64 x.times, .slice x.bo x.bl x.bc]

/-- At the head of an act. -/
def PlayI (W : World) (rb pl g : Nat) (vi : Value) (wr : World) : Prop :=
  ∃ (i : Nat) (s : Con), i ≤ pl ∧ g = pl - i ∧ vi = .int .i64 i ∧ CON wr W.heap.size (fun k => W.heap.size ≤ k ∧ k ≠ rb) s ∧ RefAt wr rb s ∧ Fr (fun k => W.heap.size ≤ k) W wr ∧ s.written = s.out.length ∧ W.heap.size ≤ rb

/-- At the head of a time. -/
def TimeI (W : World) (rb lb : Nat) (x : ActC) (n g : Nat) (vk : Value) (wr : World) : Prop :=
  ∃ (k : Nat) (s : Con), k ≤ n + 1 ∧ g = n + 1 - k ∧ vk = .int .i64 k ∧ Tri W W.heap.size rb lb (actCells x) x.bo x.b none 0 wr s s

/-- In the loop over the bytes that were handed over. -/
def ByteI (W : World) (rb lb : Nat) (x : ActC) (io : Option Addr) (m g : Nat) (vj : Value) (wr : World) : Prop :=
  ∃ (j : Nat) (s : Con), j ≤ m ∧ g = m - j ∧ vj = .int .i64 j ∧ Tri W W.heap.size rb lb (actCells x) x.bo x.b io m wr s s

theorem Tri.start {W : World} {rb : Nat} {wr : World} {s : Con} {x : ActC} (hC : CON wr W.heap.size (fun k => W.heap.size ≤ k ∧ k ≠ rb) s) (hR : RefAt wr rb s) (hF : Fr (fun k => W.heap.size ≤ k) W wr) (hs : s.written = s.out.length) (hrb : W.heap.size ≤ rb)
    (hx : Src W x.bo x.b) : Tri W W.heap.size rb wr.heap.size (actCells x) x.bo x.b none 0 (wr.alloc (.cells (actCells x) 37)) s s := by
  have hf : Fr (fun _ => False) wr (wr.alloc (.cells (actCells x) 37)) := (Fr.refl _ wr).alloc _
  have hlt := hR.lt
  refine ⟨(hC.to (T := Own W rb wr.heap.size none) (fun k hk a => ⟨a.1, a.2, by omega, fun e => (by cases e)⟩)).kept hf (fun _ _ _ h => h), hR.kept hf (fun h => h), heap_alloc_new wr _, hx, fun j hj => absurd hj (Nat.not_lt_zero j), hF.alloc _, hrb, hF.size, by omega, fun g e => (by cases e), hs, hs⟩

theorem Tri.round {W : World} {cb rb lb : Nat} {cs : Array Value} {bo io : Option Addr} {X : List UInt8} {m : Nat} {w : World} {s : Con} (h : Tri W cb rb lb cs bo X io m w s s) :
    CON w cb (fun k => W.heap.size ≤ k ∧ k ≠ rb) s ∧ RefAt w rb s ∧ Fr (fun k => W.heap.size ≤ k) W w ∧ s.written = s.out.length ∧ W.heap.size ≤ rb :=
  ⟨h.con.to (fun _ _ a => ⟨a.1, a.2.1⟩), h.ref, h.fr, h.sOk, h.rbW⟩

set_option maxHeartbeats 4000000 in
set_option maxRecDepth 100000 in
theorem play_walk (po : Option Addr) (pl pc : Nat) (ac : Nat → ActC) (W : World) (hA : Acts W po pl pc ac) :
    Calls Try.prog 6 #[.slice po pl pc] W fun e w' => e = .returned (.bool true) ∧ Below W.heap.size W w' := by
  obtain ⟨i0, hi0, hz0, hz1, hz2⟩ := info_parts Try.info5
  have HA := hid hA
  have p1 := hA.1
  have p2 := hA.2.1
  clear hA
  have C0 := hid (CON_new W (fun k => W.heap.size ≤ k) (fun k hk => hk))
  go_enter Try.func6, Try.ntmps6
  go_wp2_with (first
    | (go_at_call 7; refine (new_any _).mono ?_; rintro e w' ⟨rfl, rfl⟩)
    | fail)
  have hst : Hid (PlayI W (W.heap.size + 1) pl pl (.int .i64 0) ((W.alloc (.cells #[.bool true, .slice none 0 0, .slice none 0 0, .int .i64 0, .int .i64 0, .int .i64 0, .int .i64 0] 39)).alloc (.cells #[.string ⟨#[]⟩, .string ⟨#[]⟩, .int .i64 0, .int .i64 0, .int .i64 0] 46))) := by
    refine ⟨0, con0, Nat.zero_le _, rfl, rfl, ?_, ⟨⟨#[]⟩, ⟨#[]⟩, rfl, rfl, ?_⟩, ((Fr.refl _ W).alloc _).alloc _, rfl, by omega⟩
    · refine (C0.out.to (T := fun k => W.heap.size ≤ k ∧ k ≠ W.heap.size + 1) (fun k hk a => ⟨a, ?_⟩)).kept (T := fun _ => False) ((Fr.refl _ _).alloc _) (fun _ _ _ h => h)
      rw [World.size_alloc] at hk; omega
    · exact (heap2 W _ _).2
  clear C0
  go_loopg [5] pl (fun g vi wr => PlayI W (W.heap.size + 1) pl g vi wr)
  case atStart => exact hst.out
  case round =>
    as_aux_lemma =>
      obtain ⟨i, st, hi, rfl, rfl, hC, hR, hF, hok, hrb⟩ := hrel
      clear hst
      by_cases hlt : i < pl
      · obtain ⟨b, off, hpo, k0, k1, k2, k3, hb⟩ := HA.out.2.2 i hlt
        subst hpo
        obtain ⟨x, hx⟩ : ∃ x, x = ac i := ⟨_, rfl⟩
        rw [← hx] at k0 k1 k2 k3 hb
        clear hx HA
        have kb := block_lt_of_cell k0
        have kT : ∀ o, wr.cell? ⟨b, o, none⟩ = W.cell? ⟨b, o, none⟩ := fun o => hF.cell (p := ⟨b, o, none⟩) kb (Nat.not_le_of_lt kb)
        rw [← kT] at k0 k1 k2 k3
        clear kT
        have hsz := hF.size
        have T0 : Hid (Tri W W.heap.size (W.heap.size + 1) wr.heap.size (actCells x) x.bo x.b none 0 (wr.alloc (.cells #[.int .i64 x.kind, .int .i64 x.n, .int .i64 x.times, .slice x.bo x.bl x.bc] 37)) st st) := Tri.start hC hR hF hok hrb hb.2.2.1
        have Hb := hid hb
        obtain ⟨b1, b2, _, b4⟩ := hb
        clear hC hR hF hok hrb
        go_wp2_with fail
        generalize (wr.alloc (.cells #[.int .i64 x.kind, .int .i64 x.n, .int .i64 x.times, .slice x.bo x.bl x.bc] 37)) = wa at T0 ⊢
        generalize wr.heap.size = lb at *
        clear k0 k1 k2 k3 kb hsz
        obtain ⟨N, hNb, hN1, hN⟩ := and_mask64_nat x.times 10 1023 (by omega) (by decide)
        rw [show ((1023 : Nat) : Int) = 1023 from rfl] at hNb
        rw [show ((1023 + 1 : Nat) : Int) = 1024 from rfl] at hN
        replace hN := hN.symm
        have hmlen : Hid (x.b.length = x.bl) := b4
        clear b4
        go_loopg [7] (N + 1) (fun g vk wx => TimeI W (W.heap.size + 1) lb x N g vk wx)
        case atStart => exact ⟨0, st, by omega, by omega, rfl, T0.out⟩
        case round =>
          as_aux_lemma =>
            obtain ⟨k, s, hk, rfl, rfl, hT⟩ := hrel
            have T := hid hT
            obtain ⟨l0, l1, l2, l3⟩ := hT.locs
            clear hT T0
            have hlb := block_lt_of_cell l3
            by_cases hkn : k ≤ N
            · have hrow : Hid ((wr.alloc (.cells #[] 5)).ownsRow wr.heap.size 5 1 (.slice (some ⟨wr.heap.size, 0, none⟩) 0 0) 0 []) := World.ownsRow_made wr #[] 0 (Nat.le_refl _) (Nat.zero_le _) rfl
              have hsrc : Hid (Src (wr.alloc (.cells #[] 5)) x.bo x.b) := T.out.src.old (T.out.fr.alloc _)
              have hlen : Hid ((bv x.b).length = x.bl * 1) := by unfold Hid bv; rw [List.length_map, hmlen.out, Nat.mul_one]
              have hnil : Hid (x.bo = none → x.bl = 0) := fun e => by rw [← hmlen.out, T.out.src.nil e]; rfl
              go_upto_block 4 with (first
                | (at_builtin; refine wpList_append_gen rfl (.tmp 42) (.tmp 44) 29 rfl 5 i0 (.int .u8 0) 1 1 Try.underlying29 hi0 hz0 hz1 hz2 rfl (by decide) wr.heap.size _ 0 0 [] (by simp [Act.eval]) hrow.out x.bo x.bl x.bc (bv x.b) (by simp [Act.eval]) hlen.out hnil.out hsrc.out.cells (bv_one _) (by unfold maxLen; omega) (by omega) (by simp) ?_; intro io ic w1 hown hgr hat; obtain ⟨T1', S1', c1, c2⟩ := T.out.lay hown hgr; obtain ⟨m0, m1, m2, m3⟩ := T1'.locs; have T1 := hid T1'; have S1 := hid S1'; clear hown hgr hat T1' S1')
                | fail)
              clear hrow hsrc hlen hnil l0 l1 l2 l3 hlb T
              obtain ⟨Tk, hTk⟩ : ∃ T, T = s.taken x.b := ⟨_, rfl⟩
              obtain ⟨Pt, hPt⟩ : ∃ T, T = s.put x.b := ⟨_, rfl⟩
              obtain ⟨d, hd⟩ : ∃ d : ByteArray, d = ⟨(s.waits.take (s.reads x.n)).toArray⟩ := ⟨_, rfl⟩
              have HTk := hid hTk
              have HPt := hid hPt
              have Hd := hid hd
              have HL1 := hid T1.out.con.len.1
              have HL2 := hid T1.out.con.len.2
              clear hTk hPt hd
              go_cut [] from 46 to 95 (fun wx => ∃ s, Tri W W.heap.size (W.heap.size + 1) lb (actCells x) x.bo x.b io x.bl wx s s)
              case first =>
                as_aux_lemma =>
                  go_wp2_with (first
                    | (go_at_call 8; refine (t_input W _ _ _ _ _ _ _ _ _ _ _ T1 ic S1 hmlen.out c1 c2 Tk HTk).mono ?_; rintro e w2 ⟨rfl, T2⟩; obtain ⟨n0, n1, n2, n3⟩ := T2.out.locs)
                    | (go_at_call 13; refine (u_input W _ _ _ _ _ _ _ _ _ _ _ T2 x.bl x.bc hmlen.out b1 (by omega) Tk HTk HL1).mono ?_; rintro e w3 ⟨rfl, T3⟩)
                    | (go_at_call 11; refine (t_write W _ _ _ _ _ _ _ _ _ _ _ T1 ic S1 hmlen.out c1 c2 Pt HPt).mono ?_; rintro e w2 ⟨rfl, T2⟩; obtain ⟨n0, n1, n2, n3⟩ := T2.out.locs)
                    | (go_at_call 15; refine (u_write W _ _ _ _ _ _ _ _ _ _ _ T2 x.bl x.bc hmlen.out b1 (by omega) Pt HPt HL2).mono ?_; rintro e w3 ⟨rfl, T3⟩)
                    | fail)
                  · go_meet
                    exact ⟨_, T3.out⟩
                  · have T1d : Hid (Tri W W.heap.size (W.heap.size + 1) lb (actCells x) x.bo x.b io x.bl w1.drew s s) := T1.out.still (Fr.drew (Fr.refl _ _))
                    go_region_with (first
                      | (go_at_call 9; refine (t_read W _ _ _ _ _ _ _ _ _ _ _ T1d x.n d Hd).mono ?_; rintro e w2 ⟨ro, l, cap, rfl, P2, T2⟩; obtain ⟨n0, n1, n2, n3⟩ := T2.out.locs; have cv := P2.out.conv)
                      | (go_at_call 14; refine (u_take W _ _ _ _ _ _ _ _ _ _ _ T2 x.n d Hd).mono ?_; rintro e w3 ⟨rfl, T3, F3⟩; obtain ⟨n0, n1, n2, n3⟩ := T3.out.locs; have cw := (P2.out.kept F3.out).conv))
                    all_goals go_wp2_with fail
                    all_goals go_meet
                    all_goals exact ⟨_, T3.out⟩
                  · go_meet
                    exact ⟨_, T3.out⟩
                  · go_meet
                    exact ⟨_, T1.out⟩
              case rest =>
                as_aux_lemma =>
                  obtain ⟨s', hT⟩ := hcut
                  have T := hid hT
                  clear hT T1 S1 m0 m1 m2 m3 HTk HPt Hd HL1 HL2 hN hNb
                  go_wp2_with fail
                  go_loopg [13] x.bl (fun g vj wx => ByteI W (W.heap.size + 1) lb x io x.bl g vj wx)
                  case atStart => exact ⟨0, s', Nat.zero_le _, rfl, rfl, T.out⟩
                  case round =>
                    as_aux_lemma =>
                      obtain ⟨j, s2, hj, rfl, rfl, hT⟩ := hrel
                      clear T
                      have T := hid hT
                      clear hT
                      by_cases hjl : j < x.bl
                      · obtain ⟨g, z, e, hc, hz⟩ := T.out.inn j hjl
                        subst e
                        go_wp2_with fail
                        go_roundg (x.bl - (j + 1))
                        case measure => omega
                        case rel => exact ⟨j + 1, s2, by omega, rfl, by go_num, T.out.turn g j _ rfl⟩
                      · go_wp2_with fail
                        go_roundg (N + 1 - (k + 1))
                        case measure => omega
                        case rel => exact ⟨k + 1, s2, by omega, rfl, by go_num, T.out.leave⟩
            · have hk1 : k = N + 1 := by omega
              subst hk1
              obtain ⟨bw, bt, e1, e2, hr⟩ := T.out.ref
              have hL : Hid ((bt.size : Int) = s.written) := by unfold Hid; rw [T.out.sOk, size_of_list e2]
              have r1 := cell_at (o := 1) hr
              have r2 := cell_at (o := 2) hr
              have r3 := cell_at (o := 3) hr
              have r4 := cell_at (o := 4) hr
              simp at r1 r2 r3 r4
              have hrl := heap_lt hr
              have Td : Hid (Tri W W.heap.size (W.heap.size + 1) lb (actCells x) x.bo x.b none 0 wr.drew s s) := T.out.still (Fr.drew (Fr.refl _ _))
              have hbt : bt.size ≤ 1048576 := by rw [size_of_list e2]; exact T.out.con.len.2
              clear T hr e1 e2
              go_wp2_with fail
              go_region_held3 (fun w' => w'.cell? ⟨W.heap.size + 1, 1, none⟩ = some (.string bt) ∧ w'.cell? ⟨W.heap.size + 1, 2, none⟩ = some (.int .i64 s.came) ∧ w'.cell? ⟨W.heap.size + 1, 3, none⟩ = some (.int .i64 s.dropped) ∧ w'.cell? ⟨W.heap.size + 1, 4, none⟩ = some (.int .i64 s.read)) (first | exact ⟨q1, q2, q3, q4⟩ | exact ⟨r1, r2, r3, r4⟩)
                ((go_at_call 10; refine (t_counts W _ _ _ _ _ _ _ _ _ _ _ Td bt.size hL).mono ?_; rintro e w3 ⟨rfl, T3, F3⟩; have q1 := (F3.out.cell (p := ⟨W.heap.size + 1, 1, none⟩) hrl (fun h => h)).trans r1; have q2 := (F3.out.cell (p := ⟨W.heap.size + 1, 2, none⟩) hrl (fun h => h)).trans r2; have q3 := (F3.out.cell (p := ⟨W.heap.size + 1, 3, none⟩) hrl (fun h => h)).trans r3; have q4 := (F3.out.cell (p := ⟨W.heap.size + 1, 4, none⟩) hrl (fun h => h)).trans r4))
              all_goals go_wp2_with fail
              all_goals go_roundg (pl - (i + 1))
              all_goals
                first
                  | (case measure => omega)
                  | (case rel => exact ⟨i + 1, s, by omega, rfl, by go_num, T3.out.round⟩)
      · obtain ⟨bw, bt, e1, e2, hr⟩ := hR
        have hd : Hid (bt.data.toList = st.out) := e2
        have hbt : bt.size ≤ 1048576 := by rw [size_of_list e2]; exact hC.len.2
        have T0 : Hid (Fin W (W.heap.size + 1) none 0 wr st) := ⟨hC.to (fun k _ a => ⟨a.1, a.2, fun e => by cases e⟩), ⟨bw, bt, e1, e2, hr⟩, hF, fun j hj => absurd hj (Nat.not_lt_zero j), fun g e => by cases e⟩
        clear hC hF hok hrb HA e1 e2 hr
        go_wp2_with (first
          | (go_at_call 12; refine (v_written W _ _ _ T0 bt hd).mono ?_; rintro e w2 ⟨ro, cap, rfl, P2, T2, F2⟩; clear F2 P2)
          | fail)
        go_loopg [15] bt.size (fun g vj wx => ∃ j : Nat, j ≤ bt.size ∧ g = bt.size - j ∧ vj = .int .i64 j ∧ Fin W (W.heap.size + 1) ro bt.size wx st)
        case atStart => exact ⟨0, Nat.zero_le _, rfl, rfl, T2.out⟩
        case round =>
          as_aux_lemma =>
            obtain ⟨j, hj, rfl, rfl, hT⟩ := hrel
            clear T2 T0
            have T := hid hT
            clear hT
            by_cases hjl : j < bt.size
            · obtain ⟨g, z, e, hc, hz⟩ := T.out.inn j hjl
              subst e
              go_wp2_with fail
              go_roundg (bt.size - (j + 1))
              case measure => omega
              case rel => exact ⟨j + 1, by omega, rfl, by go_num, T.out.turn g j _ rfl⟩
            · obtain ⟨bw', bt', _, e2', hr'⟩ := T.out.ref
              obtain rfl : bt' = bt := by
                have h1 := hd.out
                rw [← e2'] at h1
                cases bt; cases bt'
                simp at h1 ⊢
                exact h1.symm
              have r1 := cell_at (o := 1) hr'
              simp at r1
              have hrl := heap_lt hr'
              have Td : Hid (Fin W (W.heap.size + 1) none 0 wr.drew st) := T.out.leave.drew
              clear T hr' e2'
              go_wp2_with fail
              go_region_with (first
                | (go_at_call 12; refine (v_written W _ _ _ Td bt' hd).mono ?_; rintro e w3 ⟨ro3, cap3, rfl, P3, T3, F3⟩; have cv := P3.out.conv; have q1 := (F3.out.cell (p := ⟨W.heap.size + 1, 1, none⟩) hrl (fun h => h)).trans r1))
              all_goals go_wp2_with fail
              all_goals go_ret
              all_goals exact ⟨rfl, T3.out.fr.below (Nat.le_refl _) (fun k hk h => Nat.not_le_of_lt hk h)⟩
end Go.Proofs.Ytmlmmcfalglbhaa

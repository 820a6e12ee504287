/-
  WireAll, walked. No conditions.
-/
import Derived.Test.YtjoamafcmknglaaOpen
namespace Go.Proofs.Ytjoamafcmknglaa
open Go.RowKit Go.Conc

def want (G : Nat → Int) (f i : Nat) : Bool := decide (i ≠ f ∧ G i = G f)

/-- What a message to all leaves where nothing waited. -/
theorem allTo_empty (G : Nat → Int) (f : Nat) (b : List UInt8) : ∀ j, (∀ i, (allTo G f b (fun _ => []) j).1 i = if i < j ∧ want G f i = true then [((f : Int), b)] else [])
  | 0 => fun i => by simp [allTo]
  | j + 1 => fun i => by
    have ih := allTo_empty G f b j
    have hj := ih j
    rw [if_neg (by omega)] at hj
    unfold allTo allStep
    by_cases hw : j ≠ f ∧ G j = G f
    · rw [if_pos hw]
      dsimp only
      rw [putQ, if_pos (by rw [hj]; simp), hj]
      unfold updA
      by_cases e : i = j
      · subst e
        have : want G f i = true := by simp [want, hw]
        simp [this]
      · rw [if_neg e, ih i]
        by_cases h : i < j ∧ want G f i = true
        · rw [if_pos h, if_pos ⟨by omega, h.2⟩]
        · rw [if_neg h, if_neg (fun h' => h ⟨by omega, h'.2⟩)]
    · rw [if_neg hw, ih i]
      have : want G f j = false := by simp only [want]; exact decide_eq_false hw
      by_cases h : i < j ∧ want G f i = true
      · rw [if_pos h, if_pos ⟨by omega, h.2⟩]
      · rw [if_neg h, if_neg (fun h' => by
          by_cases e : i = j
          · subst e; rw [this] at h'; exact absurd h'.2 (by simp)
          · exact h ⟨by omega, h'.2⟩)]

theorem allTo_count (G : Nat → Int) (f : Nat) (b : List UInt8) (j : Nat) : (allTo G f b (fun _ => []) (j + 1)).2 = (allTo G f b (fun _ => []) j).2 + if want G f j = true then 1 else 0 := by
  have hj := allTo_empty G f b j j
  rw [if_neg (by omega)] at hj
  rw [allTo, allStep]
  by_cases hw : j ≠ f ∧ G j = G f
  · rw [if_pos hw]
    have : want G f j = true := by simp [want, hw]
    dsimp only
    rw [hj, this]
    simp
  · rw [if_neg hw]
    have : want G f j = false := by simp only [want]; exact decide_eq_false hw
    rw [this]
    simp

theorem Bts.inp {W : World} {bo : Option Addr} {bl bc : Nat} {b : List UInt8} (h : Bts W bo bl bc b) (m : Nat) (hm : m ≤ bl) : Inp (fun k => W.heap.size ≤ k) W bo m bc (b.take m) := by
  obtain ⟨h1, h2, h3, h4, h5⟩ := h
  have hs : Src W bo (b.take m) := ⟨fun e => by rw [h3.nil e]; simp, fun ad had j u hu => by
    refine h3.cells ad had j u ?_
    unfold bv at hu ⊢
    rw [List.map_take, List.getElem?_take] at hu
    split at hu
    · exact hu
    · cases hu⟩
  refine ⟨hs, by rw [List.length_take]; omega, h5, fun ad had hb => ?_⟩
  obtain ⟨x, xs, hx⟩ := List.exists_cons_of_ne_nil hb
  have hc := hs.cells ad had 0 (.int .u8 x.toNat) (by rw [hx]; rfl)
  have hl := block_lt_of_cell hc
  have hblk : (ad.add 0).block = ad.block := by unfold Addr.add; split <;> rfl
  rw [hblk] at hl
  omega

theorem src_of_owns {w : World} {ro : Option Addr} {cap : Nat} {b : List UInt8} (h : w.ownsRow 0 5 1 (.slice ro b.length cap) b.length (bv b)) : Src w ro b := by
  refine ⟨fun e => ?_, fun ad had j u hu => ?_⟩
  · rcases h.2 with ⟨hv, h0⟩ | ⟨g', cp, cur, hv, _⟩
    · exact List.eq_nil_of_length_eq_zero h0
    · simp only [Value.slice.injEq] at hv; rw [hv.1] at e; cases e
  · rcases h.2 with ⟨hv, h0⟩ | ⟨g', cp, cur, hv, _⟩
    · simp only [Value.slice.injEq] at hv; rw [hv.1] at had; cases had
    · simp only [Value.slice.injEq] at hv
      rw [hv.1] at had
      cases had
      have := h.cells (g := g') (by rw [hv.1]; rfl) j u hu
      exact this

theorem src_alloc {w : World} {bo : Option Addr} {b : List UInt8} (h : Src w bo b) (o : Obj) : Src (w.alloc o) bo b :=
  ⟨h.nil, fun ad had j u hu => by
    have hc := h.cells ad had j u hu
    rw [World.cell?_of_block (Below.heap_alloc _ _ _ (block_lt_of_cell hc))]
    exact hc⟩

theorem from_ok (frm : Int) (n : Nat) (h1 : 1 ≤ n) (h32 : n ≤ 32) : ∃ f : Nat, f < n ∧ (wrap64 (frm.tmod n + n)).tmod n = (f : Int) := by
  have h0 := Int.tmod_lt_of_pos frm (show (0 : Int) < n by omega)
  have h2 : -(n : Int) < frm.tmod n := by
    have := Int.lt_tmod_of_pos frm (show (0 : Int) < n by omega)
    omega
  rw [show wrap64 (frm.tmod n + n) = frm.tmod n + n from by unfold wrap64; omega]
  refine ⟨((frm.tmod n + n).tmod n).toNat, ?_, ?_⟩
  · have := Int.tmod_lt_of_pos (frm.tmod n + n) (show (0 : Int) < n by omega)
    have := Int.tmod_nonneg (n : Int) (show 0 ≤ frm.tmod n + n by omega)
    omega
  · have := Int.tmod_nonneg (n : Int) (show 0 ≤ frm.tmod n + n by omega)
    omega

def AllL (W : World) (lb n : Nat) (zs : Nat → Int) (f : Nat) (b : List UInt8) (g : Nat) (vk vi : Value) (wr : World) : Prop :=
  ∃ i, i ≤ n ∧ g = n - i ∧ vi = .int .i64 i ∧ vk = .int .i64 (allTo zs f b (fun _ => []) i).2 ∧ (∃ Q : QS, WIRE (fun k => W.heap.size ≤ k) wr lb n zs Q ∧ ∀ j, j < n → Q j = if i ≤ j ∧ want zs f j = true then [((f : Int), b)] else []) ∧ Fr (fun k => W.heap.size ≤ k) W wr

set_option maxHeartbeats 4000000 in
set_option maxRecDepth 100000 in
theorem all_walk (go : Option Addr) (n gc : Nat) (zs : Nat → Int) (frm : Int) (bo : Option Addr) (bl bc : Nat) (b : List UInt8) (W : World) (hG : Grp W go n gc zs) (hg2 : n ≤ gc)
    (hg4 : ∀ i, i < n → ∃ b off, go = some ⟨b, off, none⟩ ∧ W.cell? ⟨b, off + i, none⟩ = some (.int .i64 (zs i))) (hB : Bts W bo bl bc b) :
    Calls Try.prog 4 #[.slice go n gc, .int .i64 frm, .slice bo bl bc] W fun e w' => e = .returned (.bool true) ∧ Below W.heap.size W w' := by
  have HB := hid hB
  have b1 := hB.1
  have b2 := hB.2.1
  have HG := hid hG
  have HG4 := hid hg4
  clear hG hB hg4
  by_cases hn : n < 1 ∨ 32 < n
  · have HN := hid (new_bad W go n gc hn)
    by_cases h48 : (2048 : Int) < bl
    · rcases hn with hn | hn
      · go_enter Try.func4, Try.ntmps4
        go_wp2_with (go_at_call 7; refine HN.out.mono ?_; rintro e w' ⟨rfl, rfl⟩)
        all_goals go_ret
        all_goals exact ⟨rfl, Below.refl _ _⟩
      · go_enter Try.func4, Try.ntmps4
        go_wp2_with (go_at_call 7; refine HN.out.mono ?_; rintro e w' ⟨rfl, rfl⟩)
        all_goals go_ret
        all_goals exact ⟨rfl, Below.refl _ _⟩
    · rcases hn with hn | hn
      · go_enter Try.func4, Try.ntmps4
        go_wp2_with (go_at_call 7; refine HN.out.mono ?_; rintro e w' ⟨rfl, rfl⟩)
        all_goals go_ret
        all_goals exact ⟨rfl, Below.refl _ _⟩
      · go_enter Try.func4, Try.ntmps4
        go_wp2_with (go_at_call 7; refine HN.out.mono ?_; rintro e w' ⟨rfl, rfl⟩)
        all_goals go_ret
        all_goals exact ⟨rfl, Below.refl _ _⟩
  · have h1 : 1 ≤ n := by omega
    have h32 : n ≤ 32 := by omega
    have HN := hid (new_any W go n gc zs HG.out h1 h32)
    clear hn
    by_cases h48 : (2048 : Int) < bl
    · obtain ⟨f, hf, ef⟩ := from_ok frm n h1 h32
      obtain ⟨b', hb'⟩ : ∃ b', b' = b.take 2048 := ⟨_, rfl⟩
      have HI : Hid (Inp (fun k => W.heap.size ≤ k) W bo 2048 bc b') := by rw [hb']; exact HB.out.inp 2048 (by omega)
      have hl48 : b'.length ≤ 2048 := by rw [HI.out.len]; omega
      have Ef := hid ef
      clear hb' ef
      go_enter Try.func4, Try.ntmps4
      go_wp2_with (first
        | (go_at_call 7; refine HN.out.mono ?_; rintro e w1 ⟨lb, rfl, HW, HF⟩)
        | fail)
      rw [Ef.out]
      have HSd := hid (send_any (fun k => W.heap.size ≤ k) w1 lb n zs _ HW.out (fun k hk => Nat.le_trans HF.out.size hk) bo 2048 bc b' (HI.out.kept HF.out (fun _ h => h.elim)) h32 f (-1))
      obtain ⟨gb, goff, hgo, kf⟩ := HG4.out f hf
      subst hgo
      have hfn : ((f : Int) < (n : Int)) := by omega
      by_cases hz : 0 ≤ zs f
      · have hz' : ¬ zs f < 0 := by omega
        have e1 : sendR n zs (fun _ => []) f (-1) b' = (((((allTo zs f b' (fun _ => []) n).2 : Nat) : Int), 0), (allTo zs f b' (fun _ => []) n).1) := by
          have hr : inR n f = true := by simp [inR, hf]
          have ht : (-1 : Int) < n := by omega
          simp only [sendR, hr, ↓reduceIte, hl48, ht, hz, Int.toNat_natCast]
          rfl
        rw [e1] at HSd
        unfold tup at HSd
        dsimp only at HSd
        clear e1
        refine HSd.out.mono ?_
        rintro e w2 ⟨rfl, HW2, HF2⟩
        have hF02 : Fr (fun k => W.heap.size ≤ k) W w2 := (HF.out.mono (fun _ _ h => h.elim)).trans HF2.out
        have k2 := (hF02.cell (p := ⟨gb, goff + f, none⟩) (block_lt_of_cell kf) (Nat.not_le_of_lt (block_lt_of_cell kf))).trans kf
        have hst : Hid (AllL W lb n zs f b' n (.int .i64 0) (.int .i64 0) w2) := ⟨0, Nat.zero_le _, rfl, rfl, rfl, ⟨_, HW2.out, fun j hj => by rw [allTo_empty]; by_cases h : want zs f j = true <;> simp [h, hj]⟩, hF02⟩
        have HA := hid (show (allTo zs f b' (fun _ => []) n).2 = (allTo zs f b' (fun _ => []) n).2 from rfl)
        clear hF02 HW2 HF2 HW HF HN
        go_wp2_with fail
        go_loopg [12, 13] n (fun g vk vi wr => AllL W lb n zs f b' g vk vi wr)
        case atStart => exact hst.out
        case round =>
          obtain ⟨i, hi, rfl, rfl, rfl, ⟨Q, hW, hQ⟩, hF⟩ := hrel
          by_cases hin : i < n
          · obtain ⟨gb', goff', hgo', ki⟩ := HG4.out i hin
            cases hgo'
            have j1 := (hF.cell (p := ⟨gb, goff + i, none⟩) (block_lt_of_cell ki) (Nat.not_le_of_lt (block_lt_of_cell ki))).trans ki
            have j2 := (hF.cell (p := ⟨gb, goff + f, none⟩) (block_lt_of_cell kf) (Nat.not_le_of_lt (block_lt_of_cell kf))).trans kf
            have HWr := hid hW
            have HQ := hid hQ
            have HFr := hid hF
            clear hW hQ hF k2 hst ki
            have hin' : ((i : Int) < (n : Int)) := by omega
            by_cases hif : i = f
            · have hwt : want zs f i = false := by simp [want, hif]
              have hqi : Q i = [] := by rw [HQ.out i hin, hwt]; simp
              have hne : (((i : Nat) : Int) != (f : Int)) = false := by simp [hif]
              clear hif
              have HR : Hid (∀ m : Nat, Calls Try.prog 9 #[.pointer (some ⟨lb, 0, none⟩), .int .i64 i] (wr.drewN m) fun e w' => e = .returned (.tuple #[.agg #[.int .i64 0, .slice none 0 0], .bool false]) ∧ Hid (WIRE (fun k => W.heap.size ≤ k) w' lb n zs Q ∧ Fr (fun k => W.heap.size ≤ k) W w')) := by
                intro m
                have hWm := HWr.out.kept (T := fun _ => False) (Fr.drewN' wr m) (fun _ _ h => h)
                refine (receive_none _ (wr.drewN m) lb n zs Q hWm i hin hqi).mono ?_
                rintro e w' ⟨he, h1⟩
                refine ⟨he, ?_, (HFr.out.trans (Fr.drewN' wr m)).trans (h1.out.mono (fun k _ h => Nat.le_trans HFr.out.size h))⟩
                have hWs := hWm.mono (T := fun k => W.heap.size ≤ k ∧ k < wr.heap.size) (fun k hk h => ⟨h, hk⟩)
                exact (hWs.kept h1.out (fun k a b => Nat.not_le_of_lt a.2 b)).mono (fun _ _ h => h.1)
              clear HWr HFr
              go_wp2_with fail
              go_quiet (fail)
              go_wp2_with (first
                | (go_at_call 9; refine (HR.out nq).mono ?_; rintro e w3 ⟨rfl, H3⟩; have HWt := hid (waiting_in (fun k => W.heap.size ≤ k) (w3.alloc (.cells #[.int .i64 0, .slice none 0 0] 34)) lb n zs Q (H3.out.1.kept (T := fun _ => False) ((Fr.refl _ _).alloc _) (fun _ _ h => h)) i hin); rw [hqi] at HWt)
                | (go_at_call 10; refine HWt.out.mono ?_; rintro e w' ⟨rfl, rfl⟩)
                | fail)
              go_roundg (n - (i + 1))
              case measure => omega
              case rel => exact ⟨i + 1, by omega, rfl, by go_num, by rw [allTo_count, hwt]; simp, ⟨Q, H3.out.1.kept (T := fun _ => False) ((Fr.refl _ _).alloc _) (fun _ _ h => h), fun j hj => by
                rw [HQ.out j hj]
                by_cases e : i = j
                · subst e; simp [hwt]
                · by_cases e2 : i ≤ j ∧ want zs f j = true
                  · rw [if_pos e2, if_pos ⟨by omega, e2.2⟩]
                  · rw [if_neg e2, if_neg (fun h => e2 ⟨by omega, h.2⟩)]⟩, H3.out.2.alloc _⟩
            · by_cases hgg : zs i = zs f
              · have hwt : want zs f i = true := by simp [want, hif, hgg]
                have hqi : Q i = [((f : Int), b')] := by rw [HQ.out i hin, hwt]; simp
                have hne : (((i : Nat) : Int) != (f : Int)) = true := by simp; omega
                rw [hgg] at j1
                clear hgg hif
                have hSm : ∀ k, wr.heap.size ≤ k → W.heap.size ≤ k := fun k hk => Nat.le_trans HFr.out.size hk
                have HR : Hid (∀ m : Nat, Calls Try.prog 9 #[.pointer (some ⟨lb, 0, none⟩), .int .i64 i] (wr.drewN m) fun e w' => ∃ ro cap, e = .returned (.tuple #[.agg #[.int .i64 f, .slice ro b'.length cap], .bool true]) ∧ Hid (Src w' ro b' ∧ WIRE (fun k => W.heap.size ≤ k) w' lb n zs (updA Q i []) ∧ Fr (fun k => W.heap.size ≤ k) W w')) := by
                  intro m
                  have hWm := HWr.out.kept (T := fun _ => False) (Fr.drewN' wr m) (fun _ _ h => h)
                  refine (receive_some _ (wr.drewN m) lb n zs Q hWm hSm i hin f b' [] hqi).mono ?_
                  rintro e w' ⟨ro, cap, he, q1, q2, q3, q4, q5⟩
                  exact ⟨ro, cap, he, src_of_owns q1.out, q4.out.mono (fun _ _ h => h.1), (HFr.out.trans (Fr.drewN' wr m)).trans q5.out⟩
                clear HWr HFr hSm
                go_wp2_with fail
                go_quiet (fail)
                have hbl := HI.out.len
                go_wp2_with (first
                  | (go_at_call 9; refine (HR.out nq).mono ?_; rintro e w3 ⟨ro, cap, rfl, H3⟩; have hcv1 := run_conv (w3.alloc (.cells #[.int .i64 f, .slice ro b'.length cap] 34)) ro b' (src_alloc H3.out.1 _) b'.length cap rfl; have hcv2 := run_conv (w3.alloc (.cells #[.int .i64 f, .slice ro b'.length cap] 34)) bo b' (src_alloc (HI.out.kept H3.out.2.2 (fun _ h => h)).src _) 2048 bc hbl; rw [hbl] at hcv1 hcv2; have HWt := hid (waiting_in (fun k => W.heap.size ≤ k) (w3.alloc (.cells #[.int .i64 f, .slice ro 2048 cap] 34)) lb n zs _ (H3.out.2.1.kept (T := fun _ => False) ((Fr.refl _ _).alloc _) (fun _ _ h => h)) i hin); rw [show updA Q i [] i = [] from if_pos rfl] at HWt)
                  | (go_at_call 10; refine HWt.out.mono ?_; rintro e w' ⟨rfl, rfl⟩)
                  | fail)
                go_roundg (n - (i + 1))
                case measure => omega
                case rel => exact ⟨i + 1, by omega, rfl, by go_num, by rw [allTo_count, hwt]; have hle := allTo_le zs f b' (fun _ => []) i; simp; unfold wrap64; omega, ⟨_, H3.out.2.1.kept (T := fun _ => False) ((Fr.refl _ _).alloc _) (fun _ _ h => h), fun j hj => by
                  by_cases e : i = j
                  · subst e; simp [updA]; intro h; omega
                  · rw [updA, if_neg (Ne.symm e), HQ.out j hj]
                    by_cases e2 : i ≤ j ∧ want zs f j = true
                    · rw [if_pos e2, if_pos ⟨by omega, e2.2⟩]
                    · rw [if_neg e2, if_neg (fun h => e2 ⟨by omega, h.2⟩)]⟩, H3.out.2.2.alloc _⟩
              · have hwt : want zs f i = false := by simp [want, hgg]
                have hqi : Q i = [] := by rw [HQ.out i hin, hwt]; simp
                have hne : (((i : Nat) : Int) != (f : Int)) = true := by simp; omega
                have hgb : (zs i == zs f) = false := by simp [hgg]
                clear hgg hif
                have HR : Hid (∀ m : Nat, Calls Try.prog 9 #[.pointer (some ⟨lb, 0, none⟩), .int .i64 i] (wr.drewN m) fun e w' => e = .returned (.tuple #[.agg #[.int .i64 0, .slice none 0 0], .bool false]) ∧ Hid (WIRE (fun k => W.heap.size ≤ k) w' lb n zs Q ∧ Fr (fun k => W.heap.size ≤ k) W w')) := by
                  intro m
                  have hWm := HWr.out.kept (T := fun _ => False) (Fr.drewN' wr m) (fun _ _ h => h)
                  refine (receive_none _ (wr.drewN m) lb n zs Q hWm i hin hqi).mono ?_
                  rintro e w' ⟨he, h1⟩
                  refine ⟨he, ?_, (HFr.out.trans (Fr.drewN' wr m)).trans (h1.out.mono (fun k _ h => Nat.le_trans HFr.out.size h))⟩
                  have hWs := hWm.mono (T := fun k => W.heap.size ≤ k ∧ k < wr.heap.size) (fun k hk h => ⟨h, hk⟩)
                  exact (hWs.kept h1.out (fun k a b => Nat.not_le_of_lt a.2 b)).mono (fun _ _ h => h.1)
                clear HWr HFr
                go_wp2_with fail
                go_quiet (fail)
                go_wp2_with (first
                  | (go_at_call 9; refine (HR.out nq).mono ?_; rintro e w3 ⟨rfl, H3⟩; have HWt := hid (waiting_in (fun k => W.heap.size ≤ k) (w3.alloc (.cells #[.int .i64 0, .slice none 0 0] 34)) lb n zs Q (H3.out.1.kept (T := fun _ => False) ((Fr.refl _ _).alloc _) (fun _ _ h => h)) i hin); rw [hqi] at HWt)
                  | (go_at_call 10; refine HWt.out.mono ?_; rintro e w' ⟨rfl, rfl⟩)
                  | fail)
                go_roundg (n - (i + 1))
                case measure => omega
                case rel => exact ⟨i + 1, by omega, rfl, by go_num, by rw [allTo_count, hwt]; simp, ⟨Q, H3.out.1.kept (T := fun _ => False) ((Fr.refl _ _).alloc _) (fun _ _ h => h), fun j hj => by
                  rw [HQ.out j hj]
                  by_cases e : i = j
                  · subst e; simp [hwt]
                  · by_cases e2 : i ≤ j ∧ want zs f j = true
                    · rw [if_pos e2, if_pos ⟨by omega, e2.2⟩]
                    · rw [if_neg e2, if_neg (fun h => e2 ⟨by omega, h.2⟩)]⟩, H3.out.2.alloc _⟩
          · obtain rfl : i = n := by omega
            have hb := hid (hF.below (Nat.le_refl _) (fun _ hk h => Nat.not_le_of_lt hk h))
            clear hW hQ hF hst
            go_wp2
            go_ret
            exact ⟨rfl, hb.out⟩
      · have hz' : zs f < 0 := by omega
        have e1 : sendR n zs (fun _ => []) f (-1) b' = ((0, 14), fun _ => []) := by
          have hr : inR n f = true := by simp [inR, hf]
          have ht : (-1 : Int) < n := by omega
          simp only [sendR, hr, ↓reduceIte, hl48, ht, hz, Int.toNat_natCast]
        rw [e1] at HSd
        unfold tup at HSd
        dsimp only at HSd
        clear e1
        refine HSd.out.mono ?_
        rintro e w2 ⟨rfl, HW2, HF2⟩
        have hF02 : Fr (fun k => W.heap.size ≤ k) W w2 := (HF.out.mono (fun _ _ h => h.elim)).trans HF2.out
        have k2 := (hF02.cell (p := ⟨gb, goff + f, none⟩) (block_lt_of_cell kf) (Nat.not_le_of_lt (block_lt_of_cell kf))).trans kf
        have hb := hid (hF02.below (Nat.le_refl _) (fun _ hk h => Nat.not_le_of_lt hk h))
        clear hF02 HW2 HF2 HW HF HN
        go_wp2
        go_ret
        exact ⟨rfl, hb.out⟩
    · obtain ⟨f, hf, ef⟩ := from_ok frm n h1 h32
      obtain ⟨b', hb'⟩ : ∃ b', b' = b.take bl := ⟨_, rfl⟩
      have HI : Hid (Inp (fun k => W.heap.size ≤ k) W bo bl bc b') := by rw [hb']; exact HB.out.inp bl (by omega)
      have hl48 : b'.length ≤ 2048 := by rw [HI.out.len]; omega
      have Ef := hid ef
      clear hb' ef
      go_enter Try.func4, Try.ntmps4
      go_wp2_with (first
        | (go_at_call 7; refine HN.out.mono ?_; rintro e w1 ⟨lb, rfl, HW, HF⟩)
        | fail)
      rw [Ef.out]
      have HSd := hid (send_any (fun k => W.heap.size ≤ k) w1 lb n zs _ HW.out (fun k hk => Nat.le_trans HF.out.size hk) bo bl bc b' (HI.out.kept HF.out (fun _ h => h.elim)) h32 f (-1))
      obtain ⟨gb, goff, hgo, kf⟩ := HG4.out f hf
      subst hgo
      have hfn : ((f : Int) < (n : Int)) := by omega
      by_cases hz : 0 ≤ zs f
      · have hz' : ¬ zs f < 0 := by omega
        have e1 : sendR n zs (fun _ => []) f (-1) b' = (((((allTo zs f b' (fun _ => []) n).2 : Nat) : Int), 0), (allTo zs f b' (fun _ => []) n).1) := by
          have hr : inR n f = true := by simp [inR, hf]
          have ht : (-1 : Int) < n := by omega
          simp only [sendR, hr, ↓reduceIte, hl48, ht, hz, Int.toNat_natCast]
          rfl
        rw [e1] at HSd
        unfold tup at HSd
        dsimp only at HSd
        clear e1
        refine HSd.out.mono ?_
        rintro e w2 ⟨rfl, HW2, HF2⟩
        have hF02 : Fr (fun k => W.heap.size ≤ k) W w2 := (HF.out.mono (fun _ _ h => h.elim)).trans HF2.out
        have k2 := (hF02.cell (p := ⟨gb, goff + f, none⟩) (block_lt_of_cell kf) (Nat.not_le_of_lt (block_lt_of_cell kf))).trans kf
        have hst : Hid (AllL W lb n zs f b' n (.int .i64 0) (.int .i64 0) w2) := ⟨0, Nat.zero_le _, rfl, rfl, rfl, ⟨_, HW2.out, fun j hj => by rw [allTo_empty]; by_cases h : want zs f j = true <;> simp [h, hj]⟩, hF02⟩
        have HA := hid (show (allTo zs f b' (fun _ => []) n).2 = (allTo zs f b' (fun _ => []) n).2 from rfl)
        clear hF02 HW2 HF2 HW HF HN
        go_wp2_with fail
        go_loopg [12, 13] n (fun g vk vi wr => AllL W lb n zs f b' g vk vi wr)
        case atStart => exact hst.out
        case round =>
          obtain ⟨i, hi, rfl, rfl, rfl, ⟨Q, hW, hQ⟩, hF⟩ := hrel
          by_cases hin : i < n
          · obtain ⟨gb', goff', hgo', ki⟩ := HG4.out i hin
            cases hgo'
            have j1 := (hF.cell (p := ⟨gb, goff + i, none⟩) (block_lt_of_cell ki) (Nat.not_le_of_lt (block_lt_of_cell ki))).trans ki
            have j2 := (hF.cell (p := ⟨gb, goff + f, none⟩) (block_lt_of_cell kf) (Nat.not_le_of_lt (block_lt_of_cell kf))).trans kf
            have HWr := hid hW
            have HQ := hid hQ
            have HFr := hid hF
            clear hW hQ hF k2 hst ki
            have hin' : ((i : Int) < (n : Int)) := by omega
            by_cases hif : i = f
            · have hwt : want zs f i = false := by simp [want, hif]
              have hqi : Q i = [] := by rw [HQ.out i hin, hwt]; simp
              have hne : (((i : Nat) : Int) != (f : Int)) = false := by simp [hif]
              clear hif
              have HR : Hid (∀ m : Nat, Calls Try.prog 9 #[.pointer (some ⟨lb, 0, none⟩), .int .i64 i] (wr.drewN m) fun e w' => e = .returned (.tuple #[.agg #[.int .i64 0, .slice none 0 0], .bool false]) ∧ Hid (WIRE (fun k => W.heap.size ≤ k) w' lb n zs Q ∧ Fr (fun k => W.heap.size ≤ k) W w')) := by
                intro m
                have hWm := HWr.out.kept (T := fun _ => False) (Fr.drewN' wr m) (fun _ _ h => h)
                refine (receive_none _ (wr.drewN m) lb n zs Q hWm i hin hqi).mono ?_
                rintro e w' ⟨he, h1⟩
                refine ⟨he, ?_, (HFr.out.trans (Fr.drewN' wr m)).trans (h1.out.mono (fun k _ h => Nat.le_trans HFr.out.size h))⟩
                have hWs := hWm.mono (T := fun k => W.heap.size ≤ k ∧ k < wr.heap.size) (fun k hk h => ⟨h, hk⟩)
                exact (hWs.kept h1.out (fun k a b => Nat.not_le_of_lt a.2 b)).mono (fun _ _ h => h.1)
              clear HWr HFr
              go_wp2_with fail
              go_quiet (fail)
              go_wp2_with (first
                | (go_at_call 9; refine (HR.out nq).mono ?_; rintro e w3 ⟨rfl, H3⟩; have HWt := hid (waiting_in (fun k => W.heap.size ≤ k) (w3.alloc (.cells #[.int .i64 0, .slice none 0 0] 34)) lb n zs Q (H3.out.1.kept (T := fun _ => False) ((Fr.refl _ _).alloc _) (fun _ _ h => h)) i hin); rw [hqi] at HWt)
                | (go_at_call 10; refine HWt.out.mono ?_; rintro e w' ⟨rfl, rfl⟩)
                | fail)
              go_roundg (n - (i + 1))
              case measure => omega
              case rel => exact ⟨i + 1, by omega, rfl, by go_num, by rw [allTo_count, hwt]; simp, ⟨Q, H3.out.1.kept (T := fun _ => False) ((Fr.refl _ _).alloc _) (fun _ _ h => h), fun j hj => by
                rw [HQ.out j hj]
                by_cases e : i = j
                · subst e; simp [hwt]
                · by_cases e2 : i ≤ j ∧ want zs f j = true
                  · rw [if_pos e2, if_pos ⟨by omega, e2.2⟩]
                  · rw [if_neg e2, if_neg (fun h => e2 ⟨by omega, h.2⟩)]⟩, H3.out.2.alloc _⟩
            · by_cases hgg : zs i = zs f
              · have hwt : want zs f i = true := by simp [want, hif, hgg]
                have hqi : Q i = [((f : Int), b')] := by rw [HQ.out i hin, hwt]; simp
                have hne : (((i : Nat) : Int) != (f : Int)) = true := by simp; omega
                rw [hgg] at j1
                clear hgg hif
                have hSm : ∀ k, wr.heap.size ≤ k → W.heap.size ≤ k := fun k hk => Nat.le_trans HFr.out.size hk
                have HR : Hid (∀ m : Nat, Calls Try.prog 9 #[.pointer (some ⟨lb, 0, none⟩), .int .i64 i] (wr.drewN m) fun e w' => ∃ ro cap, e = .returned (.tuple #[.agg #[.int .i64 f, .slice ro b'.length cap], .bool true]) ∧ Hid (Src w' ro b' ∧ WIRE (fun k => W.heap.size ≤ k) w' lb n zs (updA Q i []) ∧ Fr (fun k => W.heap.size ≤ k) W w')) := by
                  intro m
                  have hWm := HWr.out.kept (T := fun _ => False) (Fr.drewN' wr m) (fun _ _ h => h)
                  refine (receive_some _ (wr.drewN m) lb n zs Q hWm hSm i hin f b' [] hqi).mono ?_
                  rintro e w' ⟨ro, cap, he, q1, q2, q3, q4, q5⟩
                  exact ⟨ro, cap, he, src_of_owns q1.out, q4.out.mono (fun _ _ h => h.1), (HFr.out.trans (Fr.drewN' wr m)).trans q5.out⟩
                clear HWr HFr hSm
                go_wp2_with fail
                go_quiet (fail)
                have hbl := HI.out.len
                go_wp2_with (first
                  | (go_at_call 9; refine (HR.out nq).mono ?_; rintro e w3 ⟨ro, cap, rfl, H3⟩; have hcv1 := run_conv (w3.alloc (.cells #[.int .i64 f, .slice ro b'.length cap] 34)) ro b' (src_alloc H3.out.1 _) b'.length cap rfl; have hcv2 := run_conv (w3.alloc (.cells #[.int .i64 f, .slice ro b'.length cap] 34)) bo b' (src_alloc (HI.out.kept H3.out.2.2 (fun _ h => h)).src _) bl bc hbl; rw [hbl] at hcv1 hcv2; have HWt := hid (waiting_in (fun k => W.heap.size ≤ k) (w3.alloc (.cells #[.int .i64 f, .slice ro bl cap] 34)) lb n zs _ (H3.out.2.1.kept (T := fun _ => False) ((Fr.refl _ _).alloc _) (fun _ _ h => h)) i hin); rw [show updA Q i [] i = [] from if_pos rfl] at HWt)
                  | (go_at_call 10; refine HWt.out.mono ?_; rintro e w' ⟨rfl, rfl⟩)
                  | fail)
                go_roundg (n - (i + 1))
                case measure => omega
                case rel => exact ⟨i + 1, by omega, rfl, by go_num, by rw [allTo_count, hwt]; have hle := allTo_le zs f b' (fun _ => []) i; simp; unfold wrap64; omega, ⟨_, H3.out.2.1.kept (T := fun _ => False) ((Fr.refl _ _).alloc _) (fun _ _ h => h), fun j hj => by
                  by_cases e : i = j
                  · subst e; simp [updA]; intro h; omega
                  · rw [updA, if_neg (Ne.symm e), HQ.out j hj]
                    by_cases e2 : i ≤ j ∧ want zs f j = true
                    · rw [if_pos e2, if_pos ⟨by omega, e2.2⟩]
                    · rw [if_neg e2, if_neg (fun h => e2 ⟨by omega, h.2⟩)]⟩, H3.out.2.2.alloc _⟩
              · have hwt : want zs f i = false := by simp [want, hgg]
                have hqi : Q i = [] := by rw [HQ.out i hin, hwt]; simp
                have hne : (((i : Nat) : Int) != (f : Int)) = true := by simp; omega
                have hgb : (zs i == zs f) = false := by simp [hgg]
                clear hgg hif
                have HR : Hid (∀ m : Nat, Calls Try.prog 9 #[.pointer (some ⟨lb, 0, none⟩), .int .i64 i] (wr.drewN m) fun e w' => e = .returned (.tuple #[.agg #[.int .i64 0, .slice none 0 0], .bool false]) ∧ Hid (WIRE (fun k => W.heap.size ≤ k) w' lb n zs Q ∧ Fr (fun k => W.heap.size ≤ k) W w')) := by
                  intro m
                  have hWm := HWr.out.kept (T := fun _ => False) (Fr.drewN' wr m) (fun _ _ h => h)
                  refine (receive_none _ (wr.drewN m) lb n zs Q hWm i hin hqi).mono ?_
                  rintro e w' ⟨he, h1⟩
                  refine ⟨he, ?_, (HFr.out.trans (Fr.drewN' wr m)).trans (h1.out.mono (fun k _ h => Nat.le_trans HFr.out.size h))⟩
                  have hWs := hWm.mono (T := fun k => W.heap.size ≤ k ∧ k < wr.heap.size) (fun k hk h => ⟨h, hk⟩)
                  exact (hWs.kept h1.out (fun k a b => Nat.not_le_of_lt a.2 b)).mono (fun _ _ h => h.1)
                clear HWr HFr
                go_wp2_with fail
                go_quiet (fail)
                go_wp2_with (first
                  | (go_at_call 9; refine (HR.out nq).mono ?_; rintro e w3 ⟨rfl, H3⟩; have HWt := hid (waiting_in (fun k => W.heap.size ≤ k) (w3.alloc (.cells #[.int .i64 0, .slice none 0 0] 34)) lb n zs Q (H3.out.1.kept (T := fun _ => False) ((Fr.refl _ _).alloc _) (fun _ _ h => h)) i hin); rw [hqi] at HWt)
                  | (go_at_call 10; refine HWt.out.mono ?_; rintro e w' ⟨rfl, rfl⟩)
                  | fail)
                go_roundg (n - (i + 1))
                case measure => omega
                case rel => exact ⟨i + 1, by omega, rfl, by go_num, by rw [allTo_count, hwt]; simp, ⟨Q, H3.out.1.kept (T := fun _ => False) ((Fr.refl _ _).alloc _) (fun _ _ h => h), fun j hj => by
                  rw [HQ.out j hj]
                  by_cases e : i = j
                  · subst e; simp [hwt]
                  · by_cases e2 : i ≤ j ∧ want zs f j = true
                    · rw [if_pos e2, if_pos ⟨by omega, e2.2⟩]
                    · rw [if_neg e2, if_neg (fun h => e2 ⟨by omega, h.2⟩)]⟩, H3.out.2.alloc _⟩
          · obtain rfl : i = n := by omega
            have hb := hid (hF.below (Nat.le_refl _) (fun _ hk h => Nat.not_le_of_lt hk h))
            clear hW hQ hF hst
            go_wp2
            go_ret
            exact ⟨rfl, hb.out⟩
      · have hz' : zs f < 0 := by omega
        have e1 : sendR n zs (fun _ => []) f (-1) b' = ((0, 14), fun _ => []) := by
          have hr : inR n f = true := by simp [inR, hf]
          have ht : (-1 : Int) < n := by omega
          simp only [sendR, hr, ↓reduceIte, hl48, ht, hz, Int.toNat_natCast]
        rw [e1] at HSd
        unfold tup at HSd
        dsimp only at HSd
        clear e1
        refine HSd.out.mono ?_
        rintro e w2 ⟨rfl, HW2, HF2⟩
        have hF02 : Fr (fun k => W.heap.size ≤ k) W w2 := (HF.out.mono (fun _ _ h => h.elim)).trans HF2.out
        have k2 := (hF02.cell (p := ⟨gb, goff + f, none⟩) (block_lt_of_cell kf) (Nat.not_le_of_lt (block_lt_of_cell kf))).trans kf
        have hb := hid (hF02.below (Nat.le_refl _) (fun _ hk h => Nat.not_le_of_lt hk h))
        clear hF02 HW2 HF2 HW HF HN
        go_wp2
        go_ret
        exact ⟨rfl, hb.out⟩
end Go.Proofs.Ytjoamafcmknglaa

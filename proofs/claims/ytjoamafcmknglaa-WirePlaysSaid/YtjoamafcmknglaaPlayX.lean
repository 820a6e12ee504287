/-
  WirePlays, walked: sizes out of range, and the whole. No conditions beyond the row's own reach.
-/
import Derived.Test.YtjoamafcmknglaaPlayW
namespace Go.Proofs.Ytjoamafcmknglaa
open Go.RowKit Go.Conc

set_option maxHeartbeats 2000000 in
set_option maxRecDepth 100000 in
theorem play_bad (go : Option Addr) (n gc : Nat) (zs : Nat → Int) (po : Option Addr) (pl pc : Nat) (W : World) (hG : Grp W go n gc zs) (hng : n ≤ gc) (hgc : gc * 8 ≤ 140737488351232) (hn : n < 1 ∨ 32 < n) :
    Calls Try.prog 6 #[.slice go n gc, .slice po pl pc] W fun e w' => e = .returned (.bool true) ∧ Below W.heap.size W w' := by
  obtain ⟨i3, hi3, hz30, hz31, hz32⟩ := info_parts Try.info3
  have hrow : Hid ((W.alloc (.cells #[] 3)).ownsRow W.heap.size 3 1 (.slice (some ⟨W.heap.size, 0, none⟩) 0 0) 0 []) := World.ownsRow_made W #[] 0 (Nat.le_refl _) (Nat.zero_le _) rfl
  have hsrc : Hid (∀ ad, go = some ad → ∀ j u, (zv zs n)[j]? = some u → (W.alloc (.cells #[] 3)).cell? (ad.add j) = some u) := by
    intro ad e j u hu
    have hc := hG.cells ad e j u hu
    rw [World.cell?_of_block (Below.heap_alloc _ _ _ (block_lt_of_cell hc))]
    exact hc
  have hlen : Hid ((zv zs n).length = n * 1) := by unfold Hid; simp [zv]
  have hnil : Hid (go = none → n = 0) := fun e => (hG.nil e).1
  have hone : Hid (∀ u ∈ zv zs n, u.oneCell' = true) := by
    intro u hu
    obtain ⟨x, _, rfl⟩ := List.mem_map.1 hu
    rfl
  have Hn := hid hn
  clear hG hn
  go_enter Try.func6, Try.ntmps6
  go_wp2_with (first
    | (at_builtin; refine wpList_append_gen rfl (.tmp 25) (.tmp 26) 23 rfl 3 i3 (.int .i64 0) 1 8 Try.underlying23 hi3 hz30 hz31 hz32 rfl (by decide) W.heap.size _ 0 0 [] (by simp [Act.eval]) hrow.out go n gc (zv zs n) (by simp [Act.eval]) hlen.out hnil.out hsrc.out hone.out (by unfold maxLen; omega) (by omega) (by simp) ?_; intro io ic w1 hown hgr hat; have HC := hid (copied hown hgr); clear hown hgr hat)
    | (go_at_call 7; refine (new_bad w1 io n ic Hn.out).mono ?_; rintro e w' ⟨rfl, rfl⟩)
    | (go_at_call 13; refine (v_new_bad w1 go n gc Hn.out).mono ?_; rintro e w' ⟨rfl, rfl⟩)
    | (go_at_call 14; refine (names_ok _).mono ?_; rintro e w' ⟨rfl, rfl⟩)
    | fail)
  have hst : Hid (RowI w1 io n ∧ Fr (fun k => W.heap.size ≤ k) W w1 ∧ ∀ g, blk io = some g → W.heap.size ≤ g) := ⟨HC.out.2.1, HC.out.1.mono (fun _ _ h => h.elim), fun g e => (HC.out.2.2.2.1 g e).1⟩
  have icb := HC.out.2.2.2.2
  clear HC hrow hsrc hlen hnil hone Hn
  go_loopg [10] n (fun g vj wr => ∃ j : Nat, j ≤ n ∧ g = n - j ∧ vj = .int .i64 j ∧ RowI wr io n ∧ Fr (fun k => W.heap.size ≤ k) W wr ∧ ∀ g, blk io = some g → W.heap.size ≤ g)
  case atStart => exact ⟨0, Nat.zero_le _, rfl, rfl, hst.out⟩
  case round =>
    as_aux_lemma =>
      obtain ⟨j, hj, rfl, rfl, hR, hF, hg⟩ := hrel
      clear hst
      have HF := hid hF
      have HR := hid hR
      have Hg := hid hg
      by_cases hjn : j < n
      · obtain ⟨g, z, e, hc, hz⟩ := hR j hjn
        clear hF hR hg
        subst e
        go_wp2_with fail
        go_roundg (n - (j + 1))
        case measure => omega
        case rel => exact ⟨j + 1, by omega, rfl, by go_num, HR.out.turn g j _, HF.out.setCell (p := ⟨g, j, none⟩) (fun _ => Hg.out g rfl) _, Hg.out⟩
      · clear hF hR hg
        go_wp2_with fail
        go_loopg [11] 0 (fun g vi wx => vi = .int .i64 0 ∧ wx = wr)
        case atStart => exact ⟨rfl, rfl⟩
        case round =>
          as_aux_lemma =>
            obtain ⟨rfl, rfl⟩ := hrel
            have hb := hid (HF.out.below (Nat.le_refl _) (fun k hk h => Nat.not_le_of_lt hk h))
            clear HF HR Hg
            by_cases h0 : (0 : Int) < pl
            · go_wp2_with fail
              go_ret
              exact ⟨rfl, hb.out⟩
            · go_wp2_with fail
              go_ret
              exact ⟨rfl, hb.out⟩

theorem Try.bytes3 : Try.prog.bytesOf 3 = 8 := by kernel_rfl

open Go.ChangeShapes Go.WideShapes Go.ChangeAt Go.Deep in
theorem groups_reach {H : Type} {enc : TypeId × Value → H} {W : World} {po : Option Addr} {pl pc : Nat} {d : DataW H} {p : List MemPlace} (h : DataW.Trod enc Try.prog W 0 (fun _ => true) true 23 (.slice po pl pc) d p)
    (hs : ∀ k ∈ d.weights Try.prog 23, k ≤ 140737488351232) : pc * 8 ≤ 140737488351232 := by
  obtain ⟨fuel, hf⟩ := h
  rcases open_ints Try.underlying23 Try.underlying3 (by kernel_rfl) hf with ⟨hcs, _⟩ | ⟨a, len, cap, zs, hcs, _, hl, hm, hz, hx, hcell, hwz⟩
  · simp [Value.cells] at hcs
    omega
  · simp [Value.cells] at hcs
    obtain ⟨rfl, rfl, rfl⟩ := hcs
    simp only [if_true] at hz
    have hw := hs ((((zs.take pl).length + (zs.drop pl).length)) * Try.prog.bytesOf 3) (by rw [show d = _ from congrArg Prod.fst hx]; simp [DataW.weights, Try.underlying23, lits])
    rw [Try.bytes3, List.length_take, List.length_drop] at hw
    omega

theorem play_walk (go : Option Addr) (n gc : Nat) (zs : Nat → Int) (po : Option Addr) (pl pc : Nat) (ac : Nat → ActM) (W : World) (hG : Grp W go n gc zs) (hng : n ≤ gc) (hgc : gc * 8 ≤ 140737488351232) (hA : Acts W po pl pc ac) :
    Calls Try.prog 6 #[.slice go n gc, .slice po pl pc] W fun e w' => e = .returned (.bool true) ∧ Below W.heap.size W w' := by
  by_cases h : n < 1 ∨ 32 < n
  · exact play_bad go n gc zs po pl pc W hG hng hgc h
  · exact play_good go n gc zs po pl pc ac W hG (by omega) (by omega) hA
end Go.Proofs.Ytjoamafcmknglaa

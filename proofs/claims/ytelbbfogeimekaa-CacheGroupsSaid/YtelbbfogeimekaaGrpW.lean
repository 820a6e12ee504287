/-
  CacheGroups, walked. No conditions.
-/
import Derived.Test.YtelbbfogeimekaaCacPC
import Derived.Test.YtelbbfogeimekaaCacNC
import Derived.Test.YtelbbfogeimekaaGrp0
import Derived.Deep.RegionHeld3
import Derived.ProofKit
import Derived.SizedLaws
import Derived.Deep.Matrix
namespace Go.Proofs.Ytelbbfogeimekaa
open Go.ChangeShapes Go.WideShapes Go.ChangeAt Go.RowKit Go.Deep

def GS (W : World) (cb : Nat) (L : List (Ent Int Int)) (w : World) : Prop := CACHEC (fun k => W.heap.size ≤ k) w cb 1024 L ∧ Fr (fun k => W.heap.size ≤ k) W w

section
variable {W w : World} {cb : Nat} {L : List (Ent Int Int)} (h : Hid (GS W cb L w))
include h
theorem gs_put (g k v : Int) (hg : (Lit.int .i64 g).wf = true) (hk : (Lit.int .u64 k).wf = true) (hl : L.length ≤ 1024) : Calls Try.prog 25 #[.pointer (some ⟨cb, 0, none⟩), .int .i64 g, .int .u64 k, .int .u64 v] w fun e w' => e = .returned (.int .i64 0) ∧ Hid (GS W cb (putE 1024 L g k v) w') :=
  (putC _ w cb 1024 L g k v hg hk (fun _ hk => Nat.le_trans h.out.2.size hk) h.out.1 hl).mono (fun _ _ ⟨a, b, c⟩ => ⟨a, b.out, h.out.2.trans c.out⟩)
theorem gs_len : Calls Try.prog 26 #[.pointer (some ⟨cb, 0, none⟩)] w fun e w' => e = .returned (.int .i64 L.length) ∧ w = w' := (lenC _ w cb 1024 L h.out.1).out
theorem gs_get (g k : Int) (hg : (Lit.int .i64 g).wf = true) (hk : (Lit.int .u64 k).wf = true) : Calls Try.prog 28 #[.pointer (some ⟨cb, 0, none⟩), .int .i64 g, .int .u64 k] w fun e w' => e = .returned (.tuple #[((getE L g k).map vvC).getD (.int .u64 0), .bool (hasE L g k)]) ∧ Hid (GS W cb L w') :=
  (getC _ w cb 1024 L h.out.1 g k hg hk).out.mono (fun _ _ ⟨a, b⟩ => ⟨a, h.out.1.kept b.out (fun _ _ _ h => h), h.out.2.trans (b.out.mono (fun _ _ h => h.elim))⟩)
theorem gs_drop (g : Int) (hg : (Lit.int .i64 g).wf = true) (hl : L.length ≤ 4096) : Calls Try.prog 27 #[.pointer (some ⟨cb, 0, none⟩), .int .i64 g] w fun e w' => e = .returned (.int .i64 ((L.length - (dropG L g).length : Nat) : Int)) ∧ Hid (GS W cb (dropG L g) w') :=
  (dropGC _ w cb 1024 L g hg h.out.1 hl).mono (fun _ _ ⟨a, b, c⟩ => ⟨a, b.out, h.out.2.trans c.out⟩)
theorem gs_drew : Hid (GS W cb L w.drew) := ⟨h.out.1.kept (Fr.drew (Fr.refl (fun _ => False) w)) (fun _ _ _ h => h), h.out.2.drew⟩
theorem gs_key {p : Addr} {u : Value} (hc : W.cell? p = some u) : w.cell? p = some u :=
  (h.out.2.cell (block_lt_of_cell hc) (Nat.not_le_of_lt (block_lt_of_cell hc))).trans hc
end

theorem gs_new (W : World) : Calls Try.prog 24 #[.int .i64 1024] W fun e w' => e = .returned (.tuple #[.pointer (some ⟨W.heap.size + 1, 0, none⟩), .int .i64 0]) ∧ Hid (GS W (W.heap.size + 1) [] w') :=
  (new_okC (fun k => W.heap.size ≤ k) W 1024 (by omega) (by omega) (fun _ h => h)).mono (fun _ _ ⟨a, b, c⟩ => ⟨a, b.out, c.out.mono (fun _ _ h => h.elim)⟩)

/-- A slice of keys that came in. -/
def Keys (W : World) (po : Option Addr) (pl : Nat) (zs : Nat → Int) : Prop := ∀ i, i < pl → (Lit.int .u64 (zs i)).wf = true ∧ ∃ b off, po = some ⟨b, off, none⟩ ∧ W.cell? ⟨b, off + i, none⟩ = some (.int .u64 (zs i))

theorem open_keys {H : Type} {enc : TypeId × Value → H} {W : World} {v : Value} {d : DataW H} {p : List MemPlace} (hv : ∃ a l c, v = .slice a l c) (h : DataW.Trod enc Try.prog W 0 (fun _ => true) true 59 v d p) : ∃ po pl pc zs, v = .slice po pl pc ∧ Keys W po pl zs ∧ pl ≤ pc := by
  obtain ⟨a0, l0, c0, rfl⟩ := hv
  obtain ⟨fuel, hf⟩ := h
  rcases open_ints Try.underlying59 Try.underlying22 (by kernel_rfl) hf with ⟨hcs, _⟩ | ⟨a, len, cap, zs, hcs, _, hl, hm, hz, hx, hcell, hwz⟩
  · simp [Value.cells] at hcs
    obtain ⟨rfl, rfl, rfl⟩ := hcs
    exact ⟨none, 0, 0, fun _ => 0, rfl, fun i hi => absurd hi (by omega), Nat.le_refl _⟩
  · simp [Value.cells] at hcs
    obtain ⟨rfl, rfl, rfl⟩ := hcs
    simp only [if_true] at hz
    unfold maxLen at hm
    refine ⟨_, _, _, fun r => zs.getD r 0, rfl, fun i hi => ⟨hwz _ (by show zs.getD i 0 ∈ zs; rw [show zs.getD i 0 = zs[i]'(by omega) by simp [List.getD, List.getElem?_eq_getElem (show i < zs.length by omega)]]; exact List.getElem_mem _), ?_⟩, hl⟩
    obtain ⟨b, off, spot⟩ := a
    have h0 := World.cell?_spot (hcell 0 (by omega))
    have e0 : spot = none := by simpa [Addr.add] using h0
    subst e0
    have hc := hcell i (by omega)
    rw [Addr.add_lit] at hc
    exact ⟨b, off, rfl, hc⟩

def w2 (k : Int) : Int := IntKind.u64.wrap (k + 2)

def keyl (zs : Nat → Int) (m : Nat) : List Int := (List.range m).map zs

def GrpA (W : World) (cb : Nat) (a b : Int) (zs : Nat → Int) (m : Nat) (gg : Nat) (vi : Value) (wr : World) : Prop :=
  ∃ i L, i ≤ m ∧ gg = m - i ∧ vi = .int .i64 i ∧ Hid (Grps w2 a b (keyl zs m) i L) ∧ Hid (GS W cb L wr)

theorem keyl_at (zs : Nat → Int) {m i : Nat} (h : i < m) : (keyl zs m)[i]? = some (zs i) := by
  unfold keyl
  rw [List.getElem?_map, List.getElem?_range h]
  rfl

theorem put_room {L : List (Ent Int Int)} {g k v : Int} (h : L.length + 1 ≤ 1024) : (putE 1024 L g k v).length ≤ 1024 := by
  rw [put_len h]
  split <;> omega

set_option maxHeartbeats 4000000 in
set_option maxRecDepth 100000 in
theorem groups_few (po : Option Addr) (pl pc : Nat) (zs : Nat → Int) (a b : Int) (W : World) (hK : Keys W po pl zs) (_ : pl ≤ pc) (hwa : (Lit.int .i64 a).wf = true) (hwb : (Lit.int .i64 b).wf = true) (hp : pl ≤ 200) (hab : ¬ a = b) :
    Calls Try.prog 6 #[.slice po pl pc, .int .i64 a, .int .i64 b] W fun e W' => e = .returned (.bool true) ∧ Below W.heap.size W W' := by
  have hK := hid hK
  have hwa := hid hwa
  have hwb := hid hwb
  have hN := hid (gs_new W)
  have HAB := hid hab
  have hne : (a == b) = false := by simpa using hab
  clear hab
  go_enter Try.func6, Try.ntmps6
  go_wp2_with (first
    | (go_at_call 24; refine hN.out.mono ?_; rintro e w1 ⟨rfl, G⟩)
    | fail)
  clear hN
  go_loopg [10] pl (fun gg vi wr => GrpA W (W.heap.size + 1) a b zs pl gg vi wr)
  case atStart => exact ⟨0, [], Nat.zero_le _, rfl, rfl, Grps.zero _ _ _ _, G⟩
  case round =>
    as_aux_lemma =>
      obtain ⟨i, L, hi, rfl, rfl, HG, HS⟩ := hrel
      by_cases hlt : i < pl
      · have hjl : ((i : Int) < (pl : Int)) := by omega
        have hjp : ((i : Int) < (pl : Int)) := by omega
        obtain ⟨hwk, kb, ko, hpo, hkc⟩ := hK.out i (by omega)
        subst hpo
        have hwk := hid hwk
        have hkb := block_lt_of_cell hkc
        have k1 := gs_key HS hkc
        have hkr := hid hkc
        have hl := hid HG.out.len
        have HSd := gs_drew HS
        have hstep := hid (fun v1 => HG.out.step HAB.out (by omega) (keyl_at zs hlt) v1)
        clear hkc
        go_wp2_with fail
        go_region_held3 (fun w' => w'.cell? ⟨kb, ko + i, none⟩ = some (.int .u64 (zs i))) (first | exact m1 | exact k1) (first
          | (go_at_call 25; ((with_reducible refine (gs_put HSd a (zs i) _ hwa.out hwk.out (by have := hl.out; omega)).mono ?_); rintro e w2 ⟨rfl, HS2⟩; have m1 := gs_key HS2 hkr.out))
          | (go_at_call 25; ((with_reducible refine (gs_put HS2 b (zs i) _ hwb.out hwk.out (put_room (by have := hl.out; omega))).mono ?_); rintro e w3 ⟨rfl, HS3⟩; have m1 := gs_key HS3 hkr.out)))
        all_goals go_wp2_with fail
        all_goals go_roundg (pl - (i + 1))
        case measure => omega
        case rel => exact ⟨i + 1, _, by omega, rfl, by go_num, hstep.out _, HS3⟩
      · have hiM : i = pl := by omega
        have hjn : ¬ ((i : Int) < (pl : Int)) := by omega
        rw [hiM] at HG
        obtain ⟨h, hh1, hh2⟩ : ∃ h, L.length = 2 * h ∧ cnt L a = h := ⟨cnt L a, by have := HG.out.sum; have := HG.out.two; omega, rfl⟩
        have hb := HG.out.len
        have hh3 : (dropG L a).length = h := by have := cnt_drop L a; omega
        have hLen : Hid (Calls Try.prog 26 #[.pointer (some ⟨W.heap.size + 1, 0, none⟩)] wr fun e w' => e = .returned (.int .i64 (2 * (h : Int))) ∧ wr = w') := hid (by have := gs_len HS; rw [hh1] at this; exact_mod_cast this)
        have hD : Hid (Calls Try.prog 27 #[.pointer (some ⟨W.heap.size + 1, 0, none⟩), .int .i64 a] wr fun e w' => e = .returned (.int .i64 (h : Int)) ∧ Hid (GS W (W.heap.size + 1) (dropG L a) w')) := hid (by have := gs_drop HS a hwa.out (by omega); rw [show L.length - (dropG L a).length = h by omega] at this; exact this)
        have hga : Hid (∀ k, hasE (dropG L a) a k = false ∧ getE (dropG L a) a k = none) := hid (fun k => by rw [hasE_get, getE_dropG, if_pos rfl]; exact ⟨rfl, rfl⟩)
        have hgb : Hid (∀ i, i < pl → hasE (dropG L a) b (zs i) = true ∧ getE (dropG L a) b (zs i) = some (w2 (zs i))) := hid (fun i hi => by
          have h1 := HG.out.mem i (zs i) hi (keyl_at zs hi)
          rw [hasE_get] at h1 ⊢
          rw [getE_dropG, if_neg (fun e => HAB.out e.symm)]
          cases hx : getE L b (zs i) with
          | none => rw [hx] at h1; cases h1
          | some v => exact ⟨rfl, by rw [HG.out.val _ _ hx]⟩)
        have hh3 := hid hh3
        have hh4 : Hid (h ≤ 400) := hid (by omega)
        have hw1 : wrap64 (h : Int) = h := IntWalk.wrap64_in _ (by omega)
        have hw2 : wrap64 (2 * (h : Int)) = 2 * h := IntWalk.wrap64_in _ (by omega)
        clear hh1 hh2 HG HS hiM hi hlt hb
        go_wp2_with (first
          | (go_at_call 26; refine hLen.out.mono ?_; rintro e w' ⟨rfl, rfl⟩)
          | (go_at_call 27; refine hD.out.mono ?_; rintro e w4 ⟨rfl, D4⟩)
          | fail)
        clear hLen hD hw1 hw2
        go_loopg [12] pl (fun gg vi wr => ∃ i, i ≤ pl ∧ gg = pl - i ∧ vi = .int .i64 i ∧ Hid (GS W (W.heap.size + 1) (dropG L a) wr))
        case atStart => exact ⟨0, Nat.zero_le _, rfl, rfl, D4⟩
        case round =>
          as_aux_lemma =>
            obtain ⟨i, hi, rfl, rfl, HS⟩ := hrel
            by_cases hlt : i < pl
            · have hjl : ((i : Int) < (pl : Int)) := by omega
              have hjp : ((i : Int) < (pl : Int)) := by omega
              obtain ⟨hwk, kb, ko, hpo, hkc⟩ := hK.out i (by omega)
              subst hpo
              have hwk := hid hwk
              have hkb := block_lt_of_cell hkc
              have k1 := gs_key HS hkc
              have hkr := hid hkc
              have hA := hid (gs_get HS a (zs i) hwa.out hwk.out)
              rw [(hga.out (zs i)).1, (hga.out (zs i)).2] at hA
              simp only [Option.map_none, Option.getD_none] at hA
              have hB : Hid (∀ w5, Hid (GS W (W.heap.size + 1) (dropG L a) w5) → Calls Try.prog 28 #[.pointer (some ⟨W.heap.size + 1, 0, none⟩), .int .i64 b, .int .u64 (zs i)] w5 fun e w' => e = .returned (.tuple #[.int .u64 (w2 (zs i)), .bool true]) ∧ Hid (GS W (W.heap.size + 1) (dropG L a) w')) := hid (fun w5 h5 => by
                have := gs_get h5 b (zs i) hwb.out hwk.out
                rw [(hgb.out i hlt).1, (hgb.out i hlt).2] at this
                exact this)
              have hw2 : w2 (zs i) = IntKind.u64.wrap (zs i + 2) := rfl
              clear hkc
              go_wp2_with (first
                | (go_at_call 28; ((with_reducible refine hA.out.mono ?_); rintro e w5 ⟨rfl, H5⟩; have l1 := gs_key H5 hkr.out))
                | (go_at_call 28; ((with_reducible refine (hB.out _ H5).mono ?_); rintro e w6 ⟨rfl, H6⟩; have l2 := gs_key H6 hkr.out))
                | fail)
              go_roundg (pl - (i + 1))
              case measure => omega
              case rel => exact ⟨i + 1, by omega, rfl, by go_num, H6⟩
            · have hjn : ¬ ((i : Int) < (pl : Int)) := by omega
              have hD5 : Hid (Calls Try.prog 27 #[.pointer (some ⟨W.heap.size + 1, 0, none⟩), .int .i64 a] wr fun e w' => e = .returned (.int .i64 0) ∧ Hid (GS W (W.heap.size + 1) (dropG L a) w')) := hid (by
                have := gs_drop HS a hwa.out (by have := hh3.out; have := hh4.out; omega)
                rw [dropG_twice, Nat.sub_self] at this
                exact this)
              have hL5 : Hid (∀ w5, Hid (GS W (W.heap.size + 1) (dropG L a) w5) → Calls Try.prog 26 #[.pointer (some ⟨W.heap.size + 1, 0, none⟩)] w5 fun e w' => e = .returned (.int .i64 (h : Int)) ∧ w5 = w') := hid (fun w5 h5 => by
                have := gs_len h5
                rw [hh3.out] at this
                exact this)
              clear hi hlt
              go_wp2_with (first
                | (go_at_call 27; refine hD5.out.mono ?_; rintro e w5 ⟨rfl, H5⟩)
                | (go_at_call 26; refine (hL5.out _ H5).mono ?_; rintro e w6 ⟨rfl, rfl⟩)
                | fail)
              go_ret
              exact ⟨rfl, H5.out.2.below (Nat.le_refl _) (fun _ hk h => Nat.not_le_of_lt hk h)⟩

set_option maxHeartbeats 4000000 in
set_option maxRecDepth 100000 in
theorem groups_many (po : Option Addr) (pl pc : Nat) (zs : Nat → Int) (a b : Int) (W : World) (hK : Keys W po pl zs) (_ : pl ≤ pc) (hwa : (Lit.int .i64 a).wf = true) (hwb : (Lit.int .i64 b).wf = true) (hp : ¬ pl ≤ 200) (hab : ¬ a = b) :
    Calls Try.prog 6 #[.slice po pl pc, .int .i64 a, .int .i64 b] W fun e W' => e = .returned (.bool true) ∧ Below W.heap.size W W' := by
  have hK := hid hK
  have hwa := hid hwa
  have hwb := hid hwb
  have hN := hid (gs_new W)
  have HAB := hid hab
  have hne : (a == b) = false := by simpa using hab
  clear hab
  go_enter Try.func6, Try.ntmps6
  go_wp2_with (first
    | (go_at_call 24; refine hN.out.mono ?_; rintro e w1 ⟨rfl, G⟩)
    | fail)
  clear hN
  go_loopg [10] 200 (fun gg vi wr => GrpA W (W.heap.size + 1) a b zs 200 gg vi wr)
  case atStart => exact ⟨0, [], Nat.zero_le _, rfl, rfl, Grps.zero _ _ _ _, G⟩
  case round =>
    as_aux_lemma =>
      obtain ⟨i, L, hi, rfl, rfl, HG, HS⟩ := hrel
      by_cases hlt : i < 200
      · have hjl : ((i : Int) < 200) := by omega
        have hjp : ((i : Int) < (pl : Int)) := by omega
        obtain ⟨hwk, kb, ko, hpo, hkc⟩ := hK.out i (by omega)
        subst hpo
        have hwk := hid hwk
        have hkb := block_lt_of_cell hkc
        have k1 := gs_key HS hkc
        have hkr := hid hkc
        have hl := hid HG.out.len
        have HSd := gs_drew HS
        have hstep := hid (fun v1 => HG.out.step HAB.out (by omega) (keyl_at zs hlt) v1)
        clear hkc
        go_wp2_with fail
        go_region_held3 (fun w' => w'.cell? ⟨kb, ko + i, none⟩ = some (.int .u64 (zs i))) (first | exact m1 | exact k1) (first
          | (go_at_call 25; ((with_reducible refine (gs_put HSd a (zs i) _ hwa.out hwk.out (by have := hl.out; omega)).mono ?_); rintro e w2 ⟨rfl, HS2⟩; have m1 := gs_key HS2 hkr.out))
          | (go_at_call 25; ((with_reducible refine (gs_put HS2 b (zs i) _ hwb.out hwk.out (put_room (by have := hl.out; omega))).mono ?_); rintro e w3 ⟨rfl, HS3⟩; have m1 := gs_key HS3 hkr.out)))
        all_goals go_wp2_with fail
        all_goals go_roundg (200 - (i + 1))
        case measure => omega
        case rel => exact ⟨i + 1, _, by omega, rfl, by go_num, hstep.out _, HS3⟩
      · have hiM : i = 200 := by omega
        have hjn : ¬ ((i : Int) < 200) := by omega
        rw [hiM] at HG
        obtain ⟨h, hh1, hh2⟩ : ∃ h, L.length = 2 * h ∧ cnt L a = h := ⟨cnt L a, by have := HG.out.sum; have := HG.out.two; omega, rfl⟩
        have hb := HG.out.len
        have hh3 : (dropG L a).length = h := by have := cnt_drop L a; omega
        have hLen : Hid (Calls Try.prog 26 #[.pointer (some ⟨W.heap.size + 1, 0, none⟩)] wr fun e w' => e = .returned (.int .i64 (2 * (h : Int))) ∧ wr = w') := hid (by have := gs_len HS; rw [hh1] at this; exact_mod_cast this)
        have hD : Hid (Calls Try.prog 27 #[.pointer (some ⟨W.heap.size + 1, 0, none⟩), .int .i64 a] wr fun e w' => e = .returned (.int .i64 (h : Int)) ∧ Hid (GS W (W.heap.size + 1) (dropG L a) w')) := hid (by have := gs_drop HS a hwa.out (by omega); rw [show L.length - (dropG L a).length = h by omega] at this; exact this)
        have hga : Hid (∀ k, hasE (dropG L a) a k = false ∧ getE (dropG L a) a k = none) := hid (fun k => by rw [hasE_get, getE_dropG, if_pos rfl]; exact ⟨rfl, rfl⟩)
        have hgb : Hid (∀ i, i < 200 → hasE (dropG L a) b (zs i) = true ∧ getE (dropG L a) b (zs i) = some (w2 (zs i))) := hid (fun i hi => by
          have h1 := HG.out.mem i (zs i) hi (keyl_at zs hi)
          rw [hasE_get] at h1 ⊢
          rw [getE_dropG, if_neg (fun e => HAB.out e.symm)]
          cases hx : getE L b (zs i) with
          | none => rw [hx] at h1; cases h1
          | some v => exact ⟨rfl, by rw [HG.out.val _ _ hx]⟩)
        have hh3 := hid hh3
        have hh4 : Hid (h ≤ 400) := hid (by omega)
        have hw1 : wrap64 (h : Int) = h := IntWalk.wrap64_in _ (by omega)
        have hw2 : wrap64 (2 * (h : Int)) = 2 * h := IntWalk.wrap64_in _ (by omega)
        clear hh1 hh2 HG HS hiM hi hlt hb
        go_wp2_with (first
          | (go_at_call 26; refine hLen.out.mono ?_; rintro e w' ⟨rfl, rfl⟩)
          | (go_at_call 27; refine hD.out.mono ?_; rintro e w4 ⟨rfl, D4⟩)
          | fail)
        clear hLen hD hw1 hw2
        go_loopg [12] 200 (fun gg vi wr => ∃ i, i ≤ 200 ∧ gg = 200 - i ∧ vi = .int .i64 i ∧ Hid (GS W (W.heap.size + 1) (dropG L a) wr))
        case atStart => exact ⟨0, Nat.zero_le _, rfl, rfl, D4⟩
        case round =>
          as_aux_lemma =>
            obtain ⟨i, hi, rfl, rfl, HS⟩ := hrel
            by_cases hlt : i < 200
            · have hjl : ((i : Int) < 200) := by omega
              have hjp : ((i : Int) < (pl : Int)) := by omega
              obtain ⟨hwk, kb, ko, hpo, hkc⟩ := hK.out i (by omega)
              subst hpo
              have hwk := hid hwk
              have hkb := block_lt_of_cell hkc
              have k1 := gs_key HS hkc
              have hkr := hid hkc
              have hA := hid (gs_get HS a (zs i) hwa.out hwk.out)
              rw [(hga.out (zs i)).1, (hga.out (zs i)).2] at hA
              simp only [Option.map_none, Option.getD_none] at hA
              have hB : Hid (∀ w5, Hid (GS W (W.heap.size + 1) (dropG L a) w5) → Calls Try.prog 28 #[.pointer (some ⟨W.heap.size + 1, 0, none⟩), .int .i64 b, .int .u64 (zs i)] w5 fun e w' => e = .returned (.tuple #[.int .u64 (w2 (zs i)), .bool true]) ∧ Hid (GS W (W.heap.size + 1) (dropG L a) w')) := hid (fun w5 h5 => by
                have := gs_get h5 b (zs i) hwb.out hwk.out
                rw [(hgb.out i hlt).1, (hgb.out i hlt).2] at this
                exact this)
              have hw2 : w2 (zs i) = IntKind.u64.wrap (zs i + 2) := rfl
              clear hkc
              go_wp2_with (first
                | (go_at_call 28; ((with_reducible refine hA.out.mono ?_); rintro e w5 ⟨rfl, H5⟩; have l1 := gs_key H5 hkr.out))
                | (go_at_call 28; ((with_reducible refine (hB.out _ H5).mono ?_); rintro e w6 ⟨rfl, H6⟩; have l2 := gs_key H6 hkr.out))
                | fail)
              go_roundg (200 - (i + 1))
              case measure => omega
              case rel => exact ⟨i + 1, by omega, rfl, by go_num, H6⟩
            · have hjn : ¬ ((i : Int) < 200) := by omega
              have hD5 : Hid (Calls Try.prog 27 #[.pointer (some ⟨W.heap.size + 1, 0, none⟩), .int .i64 a] wr fun e w' => e = .returned (.int .i64 0) ∧ Hid (GS W (W.heap.size + 1) (dropG L a) w')) := hid (by
                have := gs_drop HS a hwa.out (by have := hh3.out; have := hh4.out; omega)
                rw [dropG_twice, Nat.sub_self] at this
                exact this)
              have hL5 : Hid (∀ w5, Hid (GS W (W.heap.size + 1) (dropG L a) w5) → Calls Try.prog 26 #[.pointer (some ⟨W.heap.size + 1, 0, none⟩)] w5 fun e w' => e = .returned (.int .i64 (h : Int)) ∧ w5 = w') := hid (fun w5 h5 => by
                have := gs_len h5
                rw [hh3.out] at this
                exact this)
              clear hi hlt
              go_wp2_with (first
                | (go_at_call 27; refine hD5.out.mono ?_; rintro e w5 ⟨rfl, H5⟩)
                | (go_at_call 26; refine (hL5.out _ H5).mono ?_; rintro e w6 ⟨rfl, rfl⟩)
                | fail)
              go_ret
              exact ⟨rfl, H5.out.2.below (Nat.le_refl _) (fun _ hk h => Nat.not_le_of_lt hk h)⟩

theorem groups_same (po : Option Addr) (pl pc : Nat) (a : Int) (W : World) :
    Calls Try.prog 6 #[.slice po pl pc, .int .i64 a, .int .i64 a] W fun e W' => e = .returned (.bool true) ∧ Below W.heap.size W W' := by
  have hN := hid (gs_new W)
  go_enter Try.func6, Try.ntmps6
  go_wp2_with (first
    | (go_at_call 24; refine hN.out.mono ?_; rintro e w1 ⟨rfl, G⟩)
    | fail)
  go_ret
  exact ⟨rfl, G.out.2.below (Nat.le_refl _) (fun _ hk h => Nat.not_le_of_lt hk h)⟩

theorem groups_walk (po : Option Addr) (pl pc : Nat) (zs : Nat → Int) (a b : Int) (W : World) (hK : Keys W po pl zs) (_ : pl ≤ pc) (hwa : (Lit.int .i64 a).wf = true) (hwb : (Lit.int .i64 b).wf = true) :
    Calls Try.prog 6 #[.slice po pl pc, .int .i64 a, .int .i64 b] W fun e W' => e = .returned (.bool true) ∧ Below W.heap.size W W' := by
  by_cases hab : a = b
  · subst hab
    exact groups_same po pl pc a W
  · by_cases hp : pl ≤ 200
    · exact groups_few po pl pc zs a b W hK ‹_› hwa hwb hp hab
    · exact groups_many po pl pc zs a b W hK ‹_› hwa hwb hp hab
end Go.Proofs.Ytelbbfogeimekaa

/-
  A scheduler's Remove and Yield. No conditions.
-/
import Derived.Test.YtehjekcfhmmggaaCreA
namespace Go.Proofs.Ytehjekcfhmmggaa
open Go.RowKit

/-- The map without one, and the sum. -/
theorem CAt.cut {S : Nat → Prop} {w : World} {cb : Nat} {l : Lay} {per n : Nat} {s : CS} (h : CAt S w cb l per n s) (ha : ApartO s.L) {x : One} (hx : x ∈ s.L) (hw : (Lit.int .i64 x.id).wf = true) (v : Nat) (wb : World) (hwb : wb.heap = (w.setCell ⟨cb, 3, none⟩ (.int .i64 (v : Int))).heap) (hwo : wb.os = w.os ∧ wb.tape = w.tape ∧ wb.output = w.output) (ty : TypeId) :
    ∃ w2, (Builtin.delete_ #[36, 3] ty #[.map (some l.mb), .int .i64 x.id]).run Try.prog wb = .ok (.tuple #[]) w2 ∧ CAt S w2 cb l per n { s with L := cutO s.L x.id, sum := v } ∧ Fr S w w2 := by
  have ho : wb.heap[cb]? = some (.cells #[.int .i64 per, .slice (some ⟨l.xb, 0, none⟩) n n, .map (some l.mb), .int .i64 v] 38 (0, 0)) := by rw [hwb]; exact heap_set h.obj _
  have hb : ∀ k, k ≠ cb → wb.heap[k]? = w.heap[k]? := fun k hk => by rw [hwb]; exact heap_set_ne hk _
  have hmap : MAPF Try.prog 3 wb l.mb (lookF s.L l.pb) s.L.length := h.map.of_heap (hb _ (Ne.symm h.ne_cm))
  obtain ⟨w2, hrun, hm2, hg⟩ := hmap.drop law3 Try.underlying36 zero62 (key3 hw) ty
  have hsome : (lookF s.L l.pb (.int .i64 x.id)).isSome = true := by rw [lookF_id, ha.find hx]; rfl
  rw [if_pos hsome] at hm2
  obtain ⟨es, m, hm⟩ := h.map.obj
  obtain ⟨cur, hcr, hr⟩ := h.row
  have hF : Fr (fun k => k = cb) w wb := ⟨hwo.1, hwo.2.1, hwo.2.2, by rw [hwb]; simp, fun k _ hk => hb k hk⟩
  have keep : ∀ k, k < wb.heap.size → k ≠ l.mb → w2.heap[k]? = wb.heap[k]? := fun k hk hn => hg.block k hk (fun e => hn (Option.some.inj e))
  have old : ∀ {k : Nat} {c : Array Value} {e : TypeId} {f : Nat × Nat}, w.heap[k]? = some (.cells c e f) → k ≠ cb → w2.heap[k]? = some (.cells c e f) := by
    intro k c e f hk hn
    have h1 : wb.heap[k]? = some (.cells c e f) := by rw [hb k hn]; exact hk
    rw [keep k (heap_lt h1) (other_map hk hm), h1]
  refine ⟨w2, hrun, ⟨?_, ⟨cur, old hcr (Ne.symm h.ne_cx), hr⟩, ?_, ?_, ?_, ?_, h.qinj, h.mine.1, h.mine.2.1, h.mine.2.2.1, h.mine.2.2.2.1, ?_⟩, ?_⟩
  · rw [keep cb (heap_lt ho) h.ne_cm]; exact ho
  · show MAPF _ _ _ _ (lookF (cutO s.L x.id) l.pb) (cutO s.L x.id).length
    rw [lookF_cut]
    have := cutO_length ha hx
    rw [show (cutO s.L x.id).length = s.L.length - 1 by omega]
    exact hm2
  · intro y hy
    have hy' := (mem_cutO.1 hy).1
    exact old (h.look y hy') (Ne.symm (other_type h.obj (h.look y hy') (by decide)))
  · intro i hi
    refine owns_of_heap (h.queue i hi) (fun g hg' => ?_)
    rw [ownBlock_slice] at hg'
    obtain ⟨_, c2, h2⟩ := owns_blk (h.queue i hi) g hg'
    rw [old h2 (other_type h2 h.obj (by decide)), h2]
  · intro y hy z hz e
    exact h.pinj y (mem_cutO.1 hy).1 z (mem_cutO.1 hz).1 e
  · intro y hy
    exact h.mine.2.2.2.2 y (mem_cutO.1 hy).1
  · exact (hF.mono (fun k _ e => by rw [e]; exact h.mine.1)).grown hg (fun k e _ => by cases e; exact h.mine.2.2.1)

section
variable (S : Nat → Prop) (w : World) (cb per n : Nat) (s : CS) (h : CR S w cb per n s) (ok : OKs per n s) (hS : ∀ k, w.heap.size ≤ k → S k) (id : Int) (hw : (Lit.int .i64 id).wf = true)
include h ok hS hw

set_option maxHeartbeats 1000000 in
set_option maxRecDepth 100000 in
/-- Remove. -/
theorem remove_t : Calls Try.prog 15 #[.pointer (some ⟨cb, 0, none⟩), .int .i64 id] w fun e w' => e = .returned (.int .i64 (removeV s id)) ∧ Hid (CR S w' cb per n (removeN s id)) ∧ Hid (Fr S w w') := by
  have HC := hid h
  obtain ⟨l, h⟩ := h
  cases hf : findO s.L id with
  | none =>
    have e1 : removeV s id = 14 := by unfold removeV; rw [hf]
    have e2 : removeN s id = s := by unfold removeN; rw [hf]
    rw [e1, e2]
    have HO := hid (of_no S w cb l per n s h id hw hf)
    clear h ok hS hw hf e1 e2
    go_enter Try.func15, Try.ntmps15
    go_wp2_with (first | (go_at_call 29; refine HO.out.mono ?_; rintro e w' ⟨rfl, rfl⟩) | fail)
    go_ret
    exact ⟨rfl, HC.out, Fr.refl _ _⟩
  | some x =>
    have HO := hid (of_yes S w cb l per n s h id hw x hf)
    obtain ⟨hx, rfl⟩ := findO_mem hf
    obtain ⟨x0, x1, x2, x3, _⟩ := h.x hx
    by_cases h3 : x.state = 2
    · have e1 : removeV s x.id = 21 := by unfold removeV; rw [hf]; dsimp only; rw [if_pos h3]
      have e2 : removeN s x.id = s := by unfold removeN; rw [hf]; dsimp only; rw [if_pos h3]
      rw [e1, e2]
      have hs : (x.state == 2) = true := by simp [h3]
      clear h ok hS hw hf e1 e2 h3 hx
      go_enter Try.func15, Try.ntmps15
      go_wp2_with (first
        | (go_at_call 29; refine HO.out.mono ?_; rintro e w' ⟨rfl, rfl⟩)
        | fail)
      go_ret
      exact ⟨rfl, HC.out, Fr.refl _ _⟩
    · have e1 : removeV s x.id = 0 := by unfold removeV; rw [hf]; dsimp only; rw [if_neg h3]
      have e2 : removeN s x.id = removeS s x := by unfold removeN; rw [hf]; dsimp only; rw [if_neg h3]
      rw [e1, e2]
      have hcore := (ok.one x hx).2.2.2.2.2.1
      have HR := hid (out_c S w cb l per n s h x hx hf hw hcore hS)
      have hout : Hid (outC s x = outQ s x) := hid (by unfold outC outQ; rw [if_neg h3])
      have hs : (x.state == 2) = false := by simp [h3]
      have hsum : x.weight ≤ s.sum := by rw [ok.sum]; exact sumW_le hx
      have hsum2 : s.sum ≤ 64 * 256 := by
        rw [ok.sum]
        have := sumW_max (fun x hx => (ok.one x hx).2.2.1)
        have := ok.few
        omega
      have hap := hid ok.apart
      have hxm := hid hx
      have HW := hid hw
      clear h ok hS hw hf e1 e2 h3 hx
      go_enter Try.func15, Try.ntmps15
      go_upto_region 7 with (first
        | (go_at_call 29; refine HO.out.mono ?_; rintro e w' ⟨rfl, rfl⟩)
        | (go_at_call 33; refine HR.out.mono ?_; rintro e w1 ⟨rfl, C, F⟩)
        | fail)
      rw [hout.out] at C
      obtain ⟨y0, y1, y2, y3, yf⟩ := C.out.x (x := x) hxm.out
      obtain ⟨c0, c1, c2, c3, cf⟩ := C.out.c
      have hv : ((s.sum : Int) - (x.weight : Int)) = ((s.sum - x.weight : Nat) : Int) := by omega
      obtain ⟨v, hv2⟩ : ∃ v, v = s.sum - x.weight := ⟨_, rfl⟩
      rw [← hv2] at hv
      have HV := hid hv2
      have hcut := hid (fun wb hwb hwo ty => C.out.cut hap.out (x := x) hxm.out HW.out v wb hwb hwo ty)
      clear hv2 x0 x1 x2 x3 HO HR
      dsimp only [outQ] at c3
      go_region
      obtain ⟨wx, hwx⟩ : ∃ wx, wx = (w1.setCell ⟨cb, 3, none⟩ (.int .i64 (v : Int))).drew := ⟨_, rfl⟩
      rw [← hwx]
      obtain ⟨w2, hrun, A2, F2⟩ := hcut.out wx (by rw [hwx]; rfl) ⟨by rw [hwx]; rfl, by rw [hwx]; rfl, by rw [hwx]; rfl⟩ 0
      have d2 : wx.cell? ⟨cb, 2, none⟩ = some (.map (some l.mb)) := by
        rw [hwx]
        exact (World.cell?_setCell_other w1 ⟨cb, 3, none⟩ ⟨cb, 2, none⟩ _ (fun h => by have := (Addr.mk.inj h).2.1; omega)).trans c2
      have A2 := hid A2
      have F2 := hid F2
      clear hwx hcut c0 c1 c2 c3 y0 y1 y2 y3
      go_wp2_with fail
      go_ret
      refine ⟨rfl, ⟨l, ?_⟩, F.out.trans F2.out⟩
      have := A2.out
      rw [HV.out] at this
      exact this

set_option maxHeartbeats 1000000 in
set_option maxRecDepth 100000 in
omit hw in
/-- Yield, of who runs. -/
theorem yield_yes (k : Nat) (hk : k < n) (hb : s.bs k = true) : Calls Try.prog 13 #[.pointer (some ⟨cb, 0, none⟩), .int .i64 (k : Int)] w fun e w' => ∃ x ∈ s.L, x.state = 2 ∧ x.core = k ∧ x.id = s.rv k ∧ e = .returned (.tuple #[.int .i64 x.id, .int .i64 0]) ∧ Hid (CR S w' cb per n (yieldS s x)) ∧ Hid (Fr S w w') := by
  obtain ⟨l, h⟩ := h
  obtain ⟨x, hx, e1, e2, e3, hf, hwf⟩ := ok.runner hk hb
  have HR := hid (running_yes S w cb l per n s h k ok.n8 hk hb hwf x hf)
  rw [← e1] at hf hwf HR
  have hcore := (ok.one x hx).2.2.2.2.2.1
  obtain ⟨c0, c1, c2, c3, cf⟩ := h.c
  obtain ⟨k0, k1, k2, k3, kf⟩ := h.k hk
  rw [← e1] at k1
  have HO := hid (fun m => out_c S (w.drewN m) cb l per n s (h.of_heap (fun _ _ _ => rfl)) x hx hf hwf hcore hS)
  have hql := ok.qlen hcore
  have hlen : (strike (s.Q x.core) x.id).length ≤ 4096 := by
    have := List.length_filter_le (fun y => decide (y ≠ x.id)) (s.Q x.core)
    unfold strike
    omega
  have HY := hid (fun w1 (A : CAt S w1 cb l per n (outC s x)) (hS1 : ∀ k, w1.heap.size ≤ k → S k) => ready_c S w1 cb l per n (outC s x) A ok.apart x hx hwf hcore (by show (updN s.Q x.core _ x.core).length ≤ 4096; rw [updN_same]; exact hlen) hS1)
  have HS := hid hS
  have hxm := hid (show x ∈ s.L ∧ x.state = 2 ∧ x.core = k ∧ x.id = s.rv k from ⟨hx, e2, e3, e1⟩)
  have hk2 : ((k : Int) < (n : Int)) := by omega
  clear h ok hS hx e1 e2 e3 hf hwf hcore hb hql hlen
  go_enter Try.func13, Try.ntmps13
  go_wp2_with (first
    | (go_at_call 34; refine HR.out.mono ?_; rintro e w' ⟨rfl, m, rfl⟩)
    | (go_at_call 33; refine (HO.out _).mono ?_; rintro e w1 ⟨rfl, C, F⟩)
    | (go_at_call 28; refine (HY.out _ C.out (fun k hk => HS.out k (Nat.le_trans F.out.size hk))).mono ?_; rintro e w2 ⟨rfl, C2, F2⟩)
    | fail)
  go_ret2
  obtain ⟨a, b, c, d⟩ := hxm.out
  have F' : Fr S w (w.drewN m) := (Fr.refl S w).drewM m
  exact ⟨x, a, b, c, d, rfl, C2, (F'.trans F.out).trans F2.out⟩

set_option maxHeartbeats 1000000 in
omit hw hS in
theorem yield_no (i : Int) : (inR n i = false → Calls Try.prog 13 #[.pointer (some ⟨cb, 0, none⟩), .int .i64 i] w fun e w' => e = .returned (.tuple #[.int .i64 0, .int .i64 2]) ∧ w = w') ∧ ∀ k : Nat, i = k → k < n → s.bs k = false → Calls Try.prog 13 #[.pointer (some ⟨cb, 0, none⟩), .int .i64 i] w fun e w' => e = .returned (.tuple #[.int .i64 0, .int .i64 14]) ∧ w = w' := by
  obtain ⟨l, h⟩ := h
  refine ⟨fun h3 => ?_, fun k hi hk hb => ?_⟩
  · have HR := hid (running_out S w cb l per n s h i ok.n8 h3)
    clear h ok h3
    go_enter Try.func13, Try.ntmps13
    go_wp2_with (first | (go_at_call 34; refine HR.out.mono ?_; rintro e w' ⟨rfl, rfl⟩) | fail)
    go_ret2
    exact ⟨rfl, rfl⟩
  · subst hi
    have HR := hid (running_no S w cb l per n s h k ok.n8 hk hb)
    clear h ok hb
    go_enter Try.func13, Try.ntmps13
    go_wp2_with (first | (go_at_call 34; refine HR.out.mono ?_; rintro e w' ⟨rfl, rfl⟩) | fail)
    go_ret2
    exact ⟨rfl, rfl⟩
end
end Go.Proofs.Ytehjekcfhmmggaa

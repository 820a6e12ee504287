/-
  A scheduler's Pick. No conditions.
-/
import Derived.Test.YtehjekcfhmmggaaCreB
namespace Go.Proofs.Ytehjekcfhmmggaa
open Go.RowKit

def underP (s : CS) (id : Int) : Bool := match findO s.L id with | some x => decide (0 ≤ x.credit) | none => true
def pickO (s : CS) (n k : Nat) : Option Int := (firstQ s n k (underP s)).or (firstQ s n k fun _ => true)
def pickV (n : Nat) (s : CS) (i : Int) : Int × Bool × Int :=
  if inR n i = false then (0, false, 2) else if s.bs i.toNat = true then (0, false, 21) else match pickO s n i.toNat with | none => (0, false, 0) | some id => (id, true, 0)
def pickN (n : Nat) (s : CS) (i : Int) : CS :=
  if inR n i = false then s else if s.bs i.toNat = true then s else match pickO s n i.toNat with | none => s | some id => match findO s.L id with | none => s | some x => pickS s x i.toNat

theorem firstQ_some {s : CS} {n k : Nat} {p : Int → Bool} {id : Int} (h : firstQ s n k p = some id) : ∃ i, i < n ∧ id ∈ s.Q i ∧ p id = true := by
  unfold firstQ seek at h
  obtain ⟨i, hi, hf⟩ := List.exists_of_findSome?_eq_some h
  have hi' := List.mem_range'_1.1 hi
  refine ⟨(k + i) % n, Nat.mod_lt _ (by omega), List.mem_of_find?_eq_some hf, List.find?_some hf⟩

theorem pickO_some {s : CS} {n k : Nat} {id : Int} (h : pickO s n k = some id) : ∃ i, i < n ∧ id ∈ s.Q i := by
  unfold pickO at h
  cases h1 : firstQ s n k (underP s) with
  | some y =>
    rw [h1] at h
    obtain rfl : y = id := by simpa using h
    obtain ⟨i, hi, hm, _⟩ := firstQ_some h1
    exact ⟨i, hi, hm⟩
  | none =>
    rw [h1, Option.none_or] at h
    obtain ⟨i, hi, hm, _⟩ := firstQ_some h
    exact ⟨i, hi, hm⟩

theorem OKs.picked {per n : Nat} {s : CS} (ok : OKs per n s) {k : Nat} {id : Int} (h : pickO s n k = some id) : ∃ x ∈ s.L, x.id = id ∧ x.state = 1 ∧ findO s.L id = some x := by
  obtain ⟨i, hi, hm⟩ := pickO_some h
  obtain ⟨x, hx, e1, e2, _⟩ := ok.qin i hi id hm
  exact ⟨x, hx, e1, e2, by rw [← e1]; exact ok.find hx⟩

theorem pickN_ok {per n : Nat} {s : CS} (ok : OKs per n s) (i : Int) : OKs per n (pickN n s i) := by
  unfold pickN
  split
  · exact ok
  · rename_i h3
    split
    · exact ok
    · rename_i hb
      cases hp : pickO s n i.toNat with
      | none => exact ok
      | some id =>
        obtain ⟨x, hx, e1, e2, hf⟩ := ok.picked hp
        dsimp only
        rw [hf]
        have h4 : inR n i = true := by cases h : inR n i with | true => rfl | false => exact absurd h h3
        obtain ⟨k, rfl, hk⟩ := inR_nat h4
        exact ok.pick hx e2 hk (by simpa using hb)

theorem setO_twice (L : List One) (id : Int) (f g : One → One) (hf : ∀ y, (f y).id = y.id) : setO (setO L id f) id g = setO L id fun y => g (f y) := by
  unfold setO
  rw [List.map_map]
  apply List.map_congr_left
  intro y _
  show (if (if y.id = id then f y else y).id = id then g (if y.id = id then f y else y) else (if y.id = id then f y else y)) = if y.id = id then g (f y) else y
  by_cases e : y.id = id
  · simp only [if_pos e]
    rw [if_pos (by rw [hf]; exact e)]
  · simp only [if_neg e]

section
variable (S : Nat → Prop) (w : World) (cb per n : Nat) (s : CS) (h : CR S w cb per n s) (ok : OKs per n s)
include h ok

omit h in
theorem fn_under {l : Lay} (h : CAt S w cb l per n s) (i : Nat) (hi : i < n) : FnAt w 31 #[.pointer (some ⟨cb, 0, none⟩)] #[] (underP s) (s.Q i) := by
  intro id hid
  obtain ⟨x, hx, e1, _, _⟩ := ok.qin i hi id hid
  subst e1
  have e : underP s x.id = decide (0 ≤ x.credit) := by unfold underP; rw [ok.find hx]
  rw [e]
  exact under_c S w cb l per n s h x hx (ok.one x hx).1

set_option maxHeartbeats 1000000 in
theorem pick_out (i : Int) (h3 : inR n i = false) : Calls Try.prog 12 #[.pointer (some ⟨cb, 0, none⟩), .int .i64 i] w fun e w' => e = .returned (.tuple #[.int .i64 0, .bool false, .int .i64 2]) ∧ w = w' := by
  obtain ⟨l, h⟩ := h
  obtain ⟨c0, c1, c2, c3, cf⟩ := h.c
  have HN := hid (none_no w cb l.mb c2)
  have HH := hid (has_c S w cb l per n s h i ok.n8)
  rw [h3] at HH
  clear h ok h3
  go_enter Try.func12, Try.ntmps12
  go_wp2_with (first | (go_at_call 26; refine HN.out.mono ?_; rintro e w' ⟨rfl, rfl⟩) | (go_at_call 27; refine HH.out.mono ?_; rintro e w' ⟨rfl, rfl⟩) | fail)
  refine bodyPost_ret (v := .tuple #[.int .i64 0, .bool false, .int .i64 2]) (by simp [results, Try.results12, go_sem]) rfl ?_
  exact ⟨rfl, rfl⟩

set_option maxHeartbeats 1000000 in
theorem pick_busy (k : Nat) (hk : k < n) (hb : s.bs k = true) : Calls Try.prog 12 #[.pointer (some ⟨cb, 0, none⟩), .int .i64 (k : Int)] w fun e w' => e = .returned (.tuple #[.int .i64 0, .bool false, .int .i64 21]) ∧ w = w' := by
  obtain ⟨l, h⟩ := h
  obtain ⟨c0, c1, c2, c3, cf⟩ := h.c
  obtain ⟨k0, k1, k2, k3, kf⟩ := h.k hk
  rw [hb] at k2
  have HN := hid (none_no w cb l.mb c2)
  have HH := hid (has_c S w cb l per n s h k ok.n8)
  rw [inR_of hk] at HH
  have hk2 : ((k : Int) < (n : Int)) := by omega
  clear h ok hb
  go_enter Try.func12, Try.ntmps12
  go_wp2_with (first | (go_at_call 26; refine HN.out.mono ?_; rintro e w' ⟨rfl, rfl⟩) | (go_at_call 27; refine HH.out.mono ?_; rintro e w' ⟨rfl, rfl⟩) | fail)
  refine bodyPost_ret (v := .tuple #[.int .i64 0, .bool false, .int .i64 21]) (by simp [results, Try.results12, go_sem]) rfl ?_
  exact ⟨rfl, rfl⟩

set_option maxHeartbeats 1000000 in
theorem pick_none (k : Nat) (hk : k < n) (hb : s.bs k = false) (h1 : firstQ s n k (underP s) = none) (h2 : firstQ s n k (fun _ => true) = none) : Calls Try.prog 12 #[.pointer (some ⟨cb, 0, none⟩), .int .i64 (k : Int)] w fun e w' => e = .returned (.tuple #[.int .i64 0, .bool false, .int .i64 0]) ∧ ∃ m, w' = w.drewN m := by
  obtain ⟨l, h⟩ := h
  obtain ⟨c0, c1, c2, c3, cf⟩ := h.c
  obtain ⟨k0, k1, k2, k3, kf⟩ := h.k hk
  rw [hb] at k2
  have HN := hid (none_no w cb l.mb c2)
  have HH := hid (has_c S w cb l per n s h k ok.n8)
  rw [inR_of hk] at HH
  have H1 := hid (first_c S w cb l per n s h ok.n8 k hk 31 #[.pointer (some ⟨cb, 0, none⟩)] #[] (underP s) (enters_of Try.func31 (by kernel_rfl) rfl) (fun m i hi => fn_under S (w.drewN m) cb per n s ok (h.of_heap (fun _ _ _ => rfl)) i hi))
  rw [h1] at H1
  have H2 := hid (fun m => first_c S (w.drewN m) cb l per n s (h.of_heap (fun _ _ _ => rfl)) ok.n8 k hk 32 #[] #[] (fun _ => true) (enters_of Try.func32 (by kernel_rfl) rfl) (fun m' i hi id _ => all_c _ id))
  simp only [h2] at H2
  have hk2 : ((k : Int) < (n : Int)) := by omega
  clear h ok hb h1 h2
  go_enter Try.func12, Try.ntmps12
  go_wp2_with (first
    | (go_at_call 26; refine HN.out.mono ?_; rintro e w' ⟨rfl, rfl⟩)
    | (go_at_call 27; refine HH.out.mono ?_; rintro e w' ⟨rfl, rfl⟩)
    | (go_at_call 30; refine H1.out.mono ?_; rintro e w' ⟨rfl, m, rfl⟩; clear H1)
    | (go_at_call 30; refine (H2.out _).mono ?_; rintro e w' ⟨rfl, m2, rfl⟩)
    | fail)
  refine bodyPost_ret (v := .tuple #[.int .i64 0, .bool false, .int .i64 0]) (by simp [results, Try.results12, go_sem]) rfl ?_
  exact ⟨rfl, _, rfl⟩

omit h ok in
/-- One begins to run: its two cells. -/
theorem CAt.runsNow {w1 : World} {l : Lay} {s1 : CS} (A : CAt S w1 cb l per n s1) {x : One} (hx : x ∈ s1.L) (ha : ApartO s1.L) (k : Nat) :
    CAt S ((w1.setCell ⟨l.pb x.id, 0, none⟩ (.int .i64 2)).setCell ⟨l.pb x.id, 1, none⟩ (.int .i64 (k : Int))) cb l per n { s1 with L := setO s1.L x.id fun y => { y with state := 2, core := k } } := by
  have h1 := A.setOne hx ha 0 (.int .i64 2) (fun y => { y with state := 2 }) (fun _ => rfl) rfl
  have hx2 : { x with state := 2 } ∈ setO s1.L x.id (fun y => { y with state := 2 }) := mem_set_eq hx
  have ha2 : ApartO (setO s1.L x.id (fun y => { y with state := 2 })) := apartO_ids (setO_ids (by exact fun _ => rfl)).symm ha
  have h2 := h1.setOne hx2 ha2 1 (.int .i64 (k : Int)) (fun y => { y with core := k }) (fun _ => rfl) rfl
  have e := setO_twice s1.L x.id (fun y => { y with state := 2 }) (fun y => { y with core := k }) (fun _ => rfl)
  rw [show setO (setO s1.L x.id (fun y => { y with state := 2 })) ({ x with state := 2 } : One).id (fun y => { y with core := k }) = setO s1.L x.id (fun y => { y with state := 2, core := k }) from e] at h2
  exact h2

set_option maxHeartbeats 2000000 in
set_option maxRecDepth 100000 in
theorem pick_under (hS : ∀ k, w.heap.size ≤ k → S k) (k : Nat) (hk : k < n) (hb : s.bs k = false) (x : One) (hx : x ∈ s.L) (hst : x.state = 1) (h1 : firstQ s n k (underP s) = some x.id) :
    Calls Try.prog 12 #[.pointer (some ⟨cb, 0, none⟩), .int .i64 (k : Int)] w fun e w' => e = .returned (.tuple #[.int .i64 x.id, .bool true, .int .i64 0]) ∧ Hid (CR S w' cb per n (pickS s x k)) ∧ Hid (Fr S w w') := by
  obtain ⟨l, h⟩ := h
  obtain ⟨c0, c1, c2, c3, cf⟩ := h.c
  obtain ⟨k0, k1, k2, k3, kf⟩ := h.k hk
  rw [hb] at k2
  have HN := hid (none_no w cb l.mb c2)
  have HH := hid (has_c S w cb l per n s h k ok.n8)
  rw [inR_of hk] at HH
  have H1 := hid (first_c S w cb l per n s h ok.n8 k hk 31 #[.pointer (some ⟨cb, 0, none⟩)] #[] (underP s) (enters_of Try.func31 (by kernel_rfl) rfl) (fun m i hi => fn_under S (w.drewN m) cb per n s ok (h.of_heap (fun _ _ _ => rfl)) i hi))
  rw [h1] at H1
  have hf := ok.find hx
  have hwf := (ok.one x hx).1
  have hcore := (ok.one x hx).2.2.2.2.2.1
  have HO := hid (fun m => out_c S (w.drewN m) cb l per n s (h.of_heap (fun _ _ _ => rfl)) x hx hf hwf hcore hS)
  have hout : outC s x = outQ s x := by unfold outC outQ; rw [if_neg (by rw [hst]; decide)]
  simp only [hout] at HO
  have hap := hid ok.apart
  have hxm := hid hx
  have hfs := hid hf
  have HW := hid hwf
  have hk2 : ((k : Int) < (n : Int)) := by omega
  clear h ok hb h1 hS hx hst hf hwf hcore hout
  go_enter Try.func12, Try.ntmps12
  go_upto_region 15 with (first
    | (go_at_call 26; refine HN.out.mono ?_; rintro e w' ⟨rfl, rfl⟩)
    | (go_at_call 27; refine HH.out.mono ?_; rintro e w' ⟨rfl, rfl⟩)
    | (go_at_call 30; refine H1.out.mono ?_; rintro e w' ⟨rfl, m, rfl⟩; clear H1)
    | (go_at_call 33; refine (HO.out _).mono ?_; rintro e w1 ⟨rfl, C, F⟩; obtain ⟨y0, y1, y2, y3, yf⟩ := C.out.x (x := x) hxm.out; obtain ⟨d0, d1, d2, d3, df⟩ := C.out.c; have hl := (C.out.found HW.out hfs.out).2; have yf0 := yf 0; have yf1 := yf 1; have A := hid (CAt.runsNow S cb per n C.out (x := x) hxm.out hap.out k); have F2 : Hid (Fr S w1 ((w1.setCell ⟨l.pb x.id, 0, none⟩ (.int .i64 2)).setCell ⟨l.pb x.id, 1, none⟩ (.int .i64 (k : Int)))) := hid (((Fr.refl S w1).setCell (fun _ => C.out.mine.2.2.2.2 x hxm.out) _).setCell (fun _ => C.out.mine.2.2.2.2 x hxm.out) _))
    | fail)
  generalize World.setCell (World.setCell w1 _ _) _ _ = w3 at *
  clear y0 y1 y2 y3 yf yf0 yf1 d0 d1 d2 d3 df hl c0 c1 c2 c3 cf k0 k1 k2 k3 kf HO
  obtain ⟨c0, c1, c2, c3, cf⟩ := A.out.c
  obtain ⟨k0, k1, k2, k3, kf⟩ := A.out.k hk
  have kf1 := kf (k * 4 + 1)
  have kf2 := kf (k * 4 + 2)
  have kf3 := kf (k * 4 + 3)
  have hmine := hid A.out.mine.2.1
  have hend := hid (((A.out.setRv hk x.id).setBs hk true).setRan hk 0)
  go_region
  go_wp2_with fail
  refine bodyPost_ret (v := .tuple #[.int .i64 x.id, .bool true, .int .i64 0]) (by simp [results, Try.results12, go_sem]) rfl ?_
  refine ⟨rfl, ⟨l, hend.out.of_heap (fun _ _ _ => rfl)⟩, ?_⟩
  have F0 : Fr S w (w.drewN m) := (Fr.refl S w).drewM _
  exact ((((F0.trans F.out).trans F2.out).setCell (fun _ => hmine.out) _).setCell (fun _ => hmine.out) _).setCell (fun _ => hmine.out) _ |>.drew

set_option maxHeartbeats 2000000 in
set_option maxRecDepth 100000 in
theorem pick_any (hS : ∀ k, w.heap.size ≤ k → S k) (k : Nat) (hk : k < n) (hb : s.bs k = false) (x : One) (hx : x ∈ s.L) (hst : x.state = 1) (h1 : firstQ s n k (underP s) = none) (h2 : firstQ s n k (fun _ => true) = some x.id) :
    Calls Try.prog 12 #[.pointer (some ⟨cb, 0, none⟩), .int .i64 (k : Int)] w fun e w' => e = .returned (.tuple #[.int .i64 x.id, .bool true, .int .i64 0]) ∧ Hid (CR S w' cb per n (pickS s x k)) ∧ Hid (Fr S w w') := by
  obtain ⟨l, h⟩ := h
  obtain ⟨c0, c1, c2, c3, cf⟩ := h.c
  obtain ⟨k0, k1, k2, k3, kf⟩ := h.k hk
  rw [hb] at k2
  have HN := hid (none_no w cb l.mb c2)
  have HH := hid (has_c S w cb l per n s h k ok.n8)
  rw [inR_of hk] at HH
  have H1 := hid (first_c S w cb l per n s h ok.n8 k hk 31 #[.pointer (some ⟨cb, 0, none⟩)] #[] (underP s) (enters_of Try.func31 (by kernel_rfl) rfl) (fun m i hi => fn_under S (w.drewN m) cb per n s ok (h.of_heap (fun _ _ _ => rfl)) i hi))
  rw [h1] at H1
  have H2 := hid (fun m => first_c S (w.drewN m) cb l per n s (h.of_heap (fun _ _ _ => rfl)) ok.n8 k hk 32 #[] #[] (fun _ => true) (enters_of Try.func32 (by kernel_rfl) rfl) (fun m' i hi id _ => all_c _ id))
  simp only [h2] at H2
  have hf := ok.find hx
  have hwf := (ok.one x hx).1
  have hcore := (ok.one x hx).2.2.2.2.2.1
  have HO := hid (fun m => out_c S (w.drewN m) cb l per n s (h.of_heap (fun _ _ _ => rfl)) x hx hf hwf hcore hS)
  have hout : outC s x = outQ s x := by unfold outC outQ; rw [if_neg (by rw [hst]; decide)]
  simp only [hout] at HO
  have hap := hid ok.apart
  have hxm := hid hx
  have hfs := hid hf
  have HW := hid hwf
  have hk2 : ((k : Int) < (n : Int)) := by omega
  clear h ok hb h1 h2 hS hx hst hf hwf hcore hout
  go_enter Try.func12, Try.ntmps12
  go_upto_region 15 with (first
    | (go_at_call 26; refine HN.out.mono ?_; rintro e w' ⟨rfl, rfl⟩)
    | (go_at_call 27; refine HH.out.mono ?_; rintro e w' ⟨rfl, rfl⟩)
    | (go_at_call 30; refine H1.out.mono ?_; rintro e w' ⟨rfl, m, rfl⟩; clear H1)
    | (go_at_call 30; refine (H2.out _).mono ?_; rintro e w' ⟨rfl, m2, rfl⟩; rw [World.drewN_drewN]; clear H2)
    | (go_at_call 33; refine (HO.out _).mono ?_; rintro e w1 ⟨rfl, C, F⟩; obtain ⟨y0, y1, y2, y3, yf⟩ := C.out.x (x := x) hxm.out; obtain ⟨d0, d1, d2, d3, df⟩ := C.out.c; have hl := (C.out.found HW.out hfs.out).2; have yf0 := yf 0; have yf1 := yf 1; have A := hid (CAt.runsNow S cb per n C.out (x := x) hxm.out hap.out k); have F2 : Hid (Fr S w1 ((w1.setCell ⟨l.pb x.id, 0, none⟩ (.int .i64 2)).setCell ⟨l.pb x.id, 1, none⟩ (.int .i64 (k : Int)))) := hid (((Fr.refl S w1).setCell (fun _ => C.out.mine.2.2.2.2 x hxm.out) _).setCell (fun _ => C.out.mine.2.2.2.2 x hxm.out) _))
    | fail)
  generalize World.setCell (World.setCell w1 _ _) _ _ = w3 at *
  clear y0 y1 y2 y3 yf yf0 yf1 d0 d1 d2 d3 df hl c0 c1 c2 c3 cf k0 k1 k2 k3 kf HO
  obtain ⟨c0, c1, c2, c3, cf⟩ := A.out.c
  obtain ⟨k0, k1, k2, k3, kf⟩ := A.out.k hk
  have kf1 := kf (k * 4 + 1)
  have kf2 := kf (k * 4 + 2)
  have kf3 := kf (k * 4 + 3)
  have hmine := hid A.out.mine.2.1
  have hend := hid (((A.out.setRv hk x.id).setBs hk true).setRan hk 0)
  go_region
  go_wp2_with fail
  refine bodyPost_ret (v := .tuple #[.int .i64 x.id, .bool true, .int .i64 0]) (by simp [results, Try.results12, go_sem]) rfl ?_
  refine ⟨rfl, ⟨l, hend.out.of_heap (fun _ _ _ => rfl)⟩, ?_⟩
  have F0 : Fr S w (w.drewN (m + m2)) := (Fr.refl S w).drewM _
  exact ((((F0.trans F.out).trans F2.out).setCell (fun _ => hmine.out) _).setCell (fun _ => hmine.out) _).setCell (fun _ => hmine.out) _ |>.drew

/-- Pick, whatever the core. -/
theorem pick_t (hS : ∀ k, w.heap.size ≤ k → S k) (i : Int) : Calls Try.prog 12 #[.pointer (some ⟨cb, 0, none⟩), .int .i64 i] w fun e w' => e = .returned (.tuple #[.int .i64 (pickV n s i).1, .bool (pickV n s i).2.1, .int .i64 (pickV n s i).2.2]) ∧ Hid (CR S w' cb per n (pickN n s i)) ∧ Hid (Fr S w w') := by
  cases h3 : inR n i with
  | false =>
    have e1 : pickV n s i = (0, false, 2) := by unfold pickV; rw [if_pos h3]
    have e2 : pickN n s i = s := by unfold pickN; rw [if_pos h3]
    rw [e1, e2]
    refine (pick_out S w cb per n s h ok i h3).mono ?_
    rintro e w' ⟨rfl, rfl⟩
    exact ⟨rfl, h, Fr.refl _ _⟩
  | true =>
    obtain ⟨k, rfl, hk⟩ := inR_nat h3
    cases hb : s.bs k with
    | true =>
      have e1 : pickV n s (k : Int) = (0, false, 21) := by unfold pickV; rw [if_neg (by rw [h3]; decide), if_pos (show s.bs (k : Int).toNat = true from hb)]
      have e2 : pickN n s (k : Int) = s := by unfold pickN; rw [if_neg (by rw [h3]; decide), if_pos (show s.bs (k : Int).toNat = true from hb)]
      rw [e1, e2]
      refine (pick_busy S w cb per n s h ok k hk hb).mono ?_
      rintro e w' ⟨rfl, rfl⟩
      exact ⟨rfl, h, Fr.refl _ _⟩
    | false =>
      have hnb : ¬ s.bs (k : Int).toNat = true := by rw [show (k : Int).toNat = k from rfl, hb]; decide
      cases hp : pickO s n k with
      | none =>
        have e1 : pickV n s (k : Int) = (0, false, 0) := by unfold pickV; rw [if_neg (by rw [h3]; decide), if_neg hnb, show (k : Int).toNat = k from rfl, hp]
        have e2 : pickN n s (k : Int) = s := by unfold pickN; rw [if_neg (by rw [h3]; decide), if_neg hnb, show (k : Int).toNat = k from rfl, hp]
        rw [e1, e2]
        unfold pickO at hp
        obtain ⟨h1, h2⟩ := Option.or_eq_none_iff.1 hp
        refine (pick_none S w cb per n s h ok k hk hb h1 h2).mono ?_
        rintro e w' ⟨rfl, m, rfl⟩
        exact ⟨rfl, h.kept ((Fr.refl (fun _ => False) w).drewM m) (fun _ _ _ h => h), (Fr.refl _ _).drewM m⟩
      | some id =>
        obtain ⟨x, hx, rfl, hst, hf⟩ := ok.picked hp
        have e1 : pickV n s (k : Int) = (x.id, true, 0) := by unfold pickV; rw [if_neg (by rw [h3]; decide), if_neg hnb, show (k : Int).toNat = k from rfl, hp]
        have e2 : pickN n s (k : Int) = pickS s x k := by unfold pickN; rw [if_neg (by rw [h3]; decide), if_neg hnb, show (k : Int).toNat = k from rfl, hp]; dsimp only; rw [hf]
        rw [e1, e2]
        unfold pickO at hp
        cases h1 : firstQ s n k (underP s) with
        | some y =>
          rw [h1] at hp
          obtain rfl : y = x.id := by simpa using hp
          exact pick_under S w cb per n s h ok hS k hk hb x hx hst h1
        | none =>
          rw [h1, Option.none_or] at hp
          exact pick_any S w cb per n s h ok hS k hk hb x hx hst h1 hp
end
end Go.Proofs.Ytehjekcfhmmggaa

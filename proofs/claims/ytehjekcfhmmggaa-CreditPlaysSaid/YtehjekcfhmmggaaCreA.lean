/-
  A scheduler's Wake, Block, Remove, Yield. No conditions.
-/
import Derived.Test.YtehjekcfhmmggaaCre9
namespace Go.Proofs.Ytehjekcfhmmggaa
open Go.RowKit

def wakeV (s : CS) (id : Int) : Int := match findO s.L id with | none => 14 | some x => if x.state = 3 then 0 else 21
def wakeN (s : CS) (id : Int) : CS := match findO s.L id with | none => s | some x => if x.state = 3 then readyC s x else s
def blockV (s : CS) (id : Int) : Int := match findO s.L id with | none => 14 | some x => if x.state = 3 then 21 else 0
def blockN (s : CS) (id : Int) : CS := match findO s.L id with | none => s | some x => if x.state = 3 then s else blockS s x
def removeV (s : CS) (id : Int) : Int := match findO s.L id with | none => 14 | some x => if x.state = 2 then 21 else 0
def removeN (s : CS) (id : Int) : CS := match findO s.L id with | none => s | some x => if x.state = 2 then s else removeS s x

section
variable {per n : Nat} {s : CS} (ok : OKs per n s) (id : Int)
include ok
theorem wakeN_ok : OKs per n (wakeN s id) := by
  unfold wakeN
  cases hf : findO s.L id with
  | none => exact ok
  | some x =>
    dsimp only
    split
    · rename_i h; exact ok.wake (findO_mem hf).1 h
    · exact ok
theorem blockN_ok : OKs per n (blockN s id) := by
  unfold blockN
  cases hf : findO s.L id with
  | none => exact ok
  | some x =>
    dsimp only
    split
    · exact ok
    · exact ok.block (findO_mem hf).1
theorem removeN_ok : OKs per n (removeN s id) := by
  unfold removeN
  cases hf : findO s.L id with
  | none => exact ok
  | some x =>
    dsimp only
    split
    · exact ok
    · rename_i h; exact ok.remove (findO_mem hf).1 h
end

section
variable (S : Nat → Prop) (w : World) (cb per n : Nat) (s : CS) (h : CR S w cb per n s) (ok : OKs per n s) (hS : ∀ k, w.heap.size ≤ k → S k) (id : Int) (hw : (Lit.int .i64 id).wf = true)
include h ok hS hw

set_option maxHeartbeats 1000000 in
/-- Wake. -/
theorem wake_t : Calls Try.prog 16 #[.pointer (some ⟨cb, 0, none⟩), .int .i64 id] w fun e w' => e = .returned (.int .i64 (wakeV s id)) ∧ Hid (CR S w' cb per n (wakeN s id)) ∧ Hid (Fr S w w') := by
  have HC := hid h
  obtain ⟨l, h⟩ := h
  cases hf : findO s.L id with
  | none =>
    have e1 : wakeV s id = 14 := by unfold wakeV; rw [hf]
    have e2 : wakeN s id = s := by unfold wakeN; rw [hf]
    rw [e1, e2]
    have HO := hid (of_no S w cb l per n s h id hw hf)
    clear h ok hS hw hf e1 e2
    go_enter Try.func16, Try.ntmps16
    go_wp2_with (first | (go_at_call 29; refine HO.out.mono ?_; rintro e w' ⟨rfl, rfl⟩) | fail)
    go_ret
    exact ⟨rfl, HC.out, Fr.refl _ _⟩
  | some x =>
    have HO := hid (of_yes S w cb l per n s h id hw x hf)
    obtain ⟨hx, rfl⟩ := findO_mem hf
    obtain ⟨x0, x1, x2, x3, _⟩ := h.x hx
    by_cases h3 : x.state = 3
    · have e1 : wakeV s x.id = 0 := by unfold wakeV; rw [hf]; dsimp only; rw [if_pos h3]
      have e2 : wakeN s x.id = readyC s x := by unfold wakeN; rw [hf]; dsimp only; rw [if_pos h3]
      rw [e1, e2]
      have hcore := (ok.one x hx).2.2.2.2.2.1
      have HR := hid (ready_c S w cb l per n s h ok.apart x hx hw hcore (by have := ok.qlen hcore; omega) hS)
      have hs : (x.state != 3) = false := by simp [h3]
      clear h ok hS hw hf e1 e2 h3 hx
      go_enter Try.func16, Try.ntmps16
      go_wp2_with (first
        | (go_at_call 29; refine HO.out.mono ?_; rintro e w' ⟨rfl, rfl⟩)
        | (go_at_call 28; refine HR.out.mono ?_; rintro e w' ⟨rfl, C, F⟩)
        | fail)
      go_ret
      exact ⟨rfl, C, F⟩
    · have e1 : wakeV s x.id = 21 := by unfold wakeV; rw [hf]; dsimp only; rw [if_neg h3]
      have e2 : wakeN s x.id = s := by unfold wakeN; rw [hf]; dsimp only; rw [if_neg h3]
      rw [e1, e2]
      have hs : (x.state != 3) = true := by simp [h3]
      clear h ok hS hw hf e1 e2 h3 hx
      go_enter Try.func16, Try.ntmps16
      go_wp2_with (first
        | (go_at_call 29; refine HO.out.mono ?_; rintro e w' ⟨rfl, rfl⟩)
        | fail)
      go_ret
      exact ⟨rfl, HC.out, Fr.refl _ _⟩

set_option maxHeartbeats 1000000 in
/-- Block. -/
theorem block_t : Calls Try.prog 17 #[.pointer (some ⟨cb, 0, none⟩), .int .i64 id] w fun e w' => e = .returned (.int .i64 (blockV s id)) ∧ Hid (CR S w' cb per n (blockN s id)) ∧ Hid (Fr S w w') := by
  have HC := hid h
  obtain ⟨l, h⟩ := h
  cases hf : findO s.L id with
  | none =>
    have e1 : blockV s id = 14 := by unfold blockV; rw [hf]
    have e2 : blockN s id = s := by unfold blockN; rw [hf]
    rw [e1, e2]
    have HO := hid (of_no S w cb l per n s h id hw hf)
    clear h ok hS hw hf e1 e2
    go_enter Try.func17, Try.ntmps17
    go_wp2_with (first | (go_at_call 29; refine HO.out.mono ?_; rintro e w' ⟨rfl, rfl⟩) | fail)
    go_ret
    exact ⟨rfl, HC.out, Fr.refl _ _⟩
  | some x =>
    have HO := hid (of_yes S w cb l per n s h id hw x hf)
    obtain ⟨hx, rfl⟩ := findO_mem hf
    obtain ⟨x0, x1, x2, x3, _⟩ := h.x hx
    by_cases h3 : x.state = 3
    · have e1 : blockV s x.id = 21 := by unfold blockV; rw [hf]; dsimp only; rw [if_pos h3]
      have e2 : blockN s x.id = s := by unfold blockN; rw [hf]; dsimp only; rw [if_pos h3]
      rw [e1, e2]
      have hs : (x.state == 3) = true := by simp [h3]
      clear h ok hS hw hf e1 e2 h3 hx
      go_enter Try.func17, Try.ntmps17
      go_wp2_with (first
        | (go_at_call 29; refine HO.out.mono ?_; rintro e w' ⟨rfl, rfl⟩)
        | fail)
      go_ret
      exact ⟨rfl, HC.out, Fr.refl _ _⟩
    · have e1 : blockV s x.id = 0 := by unfold blockV; rw [hf]; dsimp only; rw [if_neg h3]
      have e2 : blockN s x.id = blockS s x := by unfold blockN; rw [hf]; dsimp only; rw [if_neg h3]
      rw [e1, e2]
      have hcore := (ok.one x hx).2.2.2.2.2.1
      have HR := hid (out_c S w cb l per n s h x hx hf hw hcore hS)
      have hs : (x.state == 3) = false := by simp [h3]
      have hap := hid ok.apart
      have hxm := hid hx
      have hmine := hid (h.mine.2.2.2.2 x hx)
      clear h ok hS hw hf e1 e2 h3 hx
      go_enter Try.func17, Try.ntmps17
      go_wp2_with (first
        | (go_at_call 29; refine HO.out.mono ?_; rintro e w' ⟨rfl, rfl⟩)
        | (go_at_call 33; refine HR.out.mono ?_; rintro e w1 ⟨rfl, C, F⟩; obtain ⟨y0, y1, y2, y3, yf⟩ := C.out.x (x := x) hxm.out; have yf := yf 0)
        | fail)
      go_ret
      exact ⟨rfl, ⟨l, C.out.setOne (x := x) hxm.out hap.out 0 (.int .i64 3) (fun y => { y with state := 3 }) (fun _ => rfl) rfl⟩, F.out.setCell (fun _ => hmine.out) _⟩
end
end Go.Proofs.Ytehjekcfhmmggaa

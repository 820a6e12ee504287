/-
  CacheNewest, walked. No conditions.
-/
import Derived.Test.YtelbbfogeimekaaCacPB
import Derived.Test.YtelbbfogeimekaaCacGB
import Derived.Test.YtelbbfogeimekaaCacNB
import Derived.Test.YtelbbfogeimekaaNew0
import Derived.ChangeKeysEq
import Derived.Laws.Runes
namespace Go.Proofs.Ytelbbfogeimekaa
open Go.RowKit

theorem neq54 (a b c d : Int) (w : World) : (binOp .neq 54 (.agg #[.int .i64 a, .int .i64 b]) (.agg #[.int .i64 c, .int .i64 d])).run Try.prog w = .ok (.bool (!decide (a = c ∧ b = d))) w := by
  have u3 := Try.underlying3
  have a3 := Try.isAgg3
  have z3 := Try.sizeOf3
  have c3 : Try.prog.cellsOf 3 = 1 := by kernel_rfl
  obtain ⟨i, hi⟩ : ∃ i, Try.prog.info? 3 = some i := by
    have h : (Try.prog.info? 3).isSome = true := by kernel_rfl
    exact Option.isSome_iff_exists.1 h
  rw [run_neq_struct, show (10000 : Nat) = 9999 + 1 from rfl, run_equalIn_array w 9999 _ _ Try.underlying54 hi]
  simp only [c3, Op.eqItems, List.range, List.range.loop]
  go_simp
  by_cases h1 : a = c <;> by_cases h2 : b = d <;> simp [h1, h2]

/-- A cache that lies in new blocks. -/
structure GB (W : World) (cb room : Nat) (L : List (Ent ByteArray (Int × Int))) (w : World) : Prop where
  c : CACHEB (fun k => W.heap.size ≤ k) w cb room L
  f : Fr (fun k => W.heap.size ≤ k) W w
  l : L.length ≤ room

section
variable {W w : World} {cb room : Nat} {L : List (Ent ByteArray (Int × Int))} (h : Hid (GB W cb room L w))
include h
theorem gb_still {w' : World} (hf : Fr (fun _ => False) w w') : Hid (GB W cb room L w') :=
  ⟨h.out.c.kept hf (fun _ _ _ h => h), h.out.f.then hf (fun _ _ h => h.elim), h.out.l⟩
theorem gb_put (g : Int) (k : ByteArray) (v : Int × Int) (hg : (Lit.int .i64 g).wf = true) (hk : k.size ≤ maxLen) (hl : (putE room L g k v).length ≤ room) : Calls Try.prog 20 #[.pointer (some ⟨cb, 0, none⟩), .int .i64 g, .string k, .agg #[.int .i64 v.1, .int .i64 v.2]] w fun e w' => e = .returned (.int .i64 0) ∧ Hid (GB W cb room (putE room L g k v) w') :=
  (putB _ w cb room L g k v hg hk (fun _ hk => Nat.le_trans h.out.f.size hk) h.out.c h.out.l).mono (fun _ _ ⟨a, b, c⟩ => ⟨a, b.out, h.out.f.trans c.out, hl⟩)
theorem gb_len : Calls Try.prog 21 #[.pointer (some ⟨cb, 0, none⟩)] w fun e w' => e = .returned (.int .i64 L.length) ∧ w = w' := (lenB _ w cb room L h.out.c).out
theorem gb_get (g : Int) (k : ByteArray) (hg : (Lit.int .i64 g).wf = true) (hk : k.size ≤ maxLen) : Calls Try.prog 22 #[.pointer (some ⟨cb, 0, none⟩), .int .i64 g, .string k] w fun e w' => e = .returned (.tuple #[((getE L g k).map vvB).getD (.agg #[.int .i64 0, .int .i64 0]), .bool (hasE L g k)]) ∧ Hid (GB W cb room L w') :=
  (getB _ w cb room L h.out.c g k hg hk).out.mono (fun _ _ ⟨a, b⟩ => ⟨a, gb_still h b.out⟩)
theorem gb_drop (g : Int) (hg : (Lit.int .i64 g).wf = true) (hr : room ≤ 4096) : Calls Try.prog 23 #[.pointer (some ⟨cb, 0, none⟩), .int .i64 g] w fun e w' => e = .returned (.int .i64 ((L.length - (dropG L g).length : Nat) : Int)) ∧ Hid (GB W cb room (dropG L g) w') :=
  (dropGB _ w cb room L g hg h.out.c (Nat.le_trans h.out.l hr)).mono (fun _ _ ⟨a, b, c⟩ => ⟨a, b.out, h.out.f.trans c.out, Nat.le_trans (dropG_le' L g) h.out.l⟩)
end

theorem gb_new (W : World) (room : Nat) (h1 : 1 ≤ room) (h2 : room ≤ 1024) : Calls Try.prog 19 #[.int .i64 room] W fun e w' => e = .returned (.tuple #[.pointer (some ⟨W.heap.size + 1, 0, none⟩), .int .i64 0]) ∧ Hid (GB W (W.heap.size + 1) room [] w') :=
  (new_okB (fun k => W.heap.size ≤ k) W room h1 h2 (fun _ h => h)).mono (fun _ _ ⟨a, b, c⟩ => ⟨a, b.out, c.out.mono (fun _ _ h => h.elim), Nat.zero_le _⟩)

theorem i32_small (n : Int) (h0 : 0 ≤ n) (h1 : n < 1000) : IntKind.i32.wrap n = n := by
  rw [IntKind.wrap_i32]; omega

theorem wf2 (i : Nat) : (Lit.int .i64 ((i % 2 : Nat) : Int)).wf = true ∧ (Lit.int .i64 (1 - ((i % 2 : Nat) : Int))).wf = true := by
  have : i % 2 = 0 ∨ i % 2 = 1 := by omega
  rcases this with h | h <;> rw [h] <;> decide

def NewI (W : World) (cb room n : Nat) (gg : Nat) (vi : Value) (wr : World) : Prop :=
  ∃ i : Nat, i ≤ n ∧ gg = n - i ∧ vi = .int .i64 i ∧ Hid (GB W cb room (lisN room i) wr)

def NewJ (W : World) (cb room n : Nat) (gg : Nat) (vi : Value) (wr : World) : Prop :=
  ∃ i : Nat, i ≤ n ∧ gg = n - i ∧ vi = .int .i64 i ∧ Hid (GB W cb room (lisN room n) wr)

set_option maxHeartbeats 4000000 in
set_option maxRecDepth 100000 in
theorem newest_walk (x y : Int) (W : World) : Calls Try.prog 5 #[.int .i64 x, .int .i64 y] W fun e w' => e = .returned (.bool true) ∧ Below W.heap.size W w' := by
  obtain ⟨r0, hr, hr2, hr3⟩ := and_mask64_nat x 6 63 (by omega) (by omega)
  obtain ⟨n, hn, hn2, hn3⟩ := and_mask64_nat y 8 255 (by omega) (by omega)
  rw [show ((63 : Nat) : Int) = 63 from rfl] at hr
  rw [show ((255 : Nat) : Int) = 255 from rfl] at hn
  replace hr3 : x % 64 = (r0 : Int) := by rw [hr3]; rfl
  replace hn3 : y % 256 = (n : Int) := by rw [hn3]; rfl
  obtain ⟨room, hr1⟩ : ∃ room, room = 1 + r0 := ⟨_, rfl⟩
  have hsr : (1 : Int) + (r0 : Int) = (room : Int) := by omega
  have hwr : IntKind.i64.wrap ((room : Nat) : Int) = room := IntWalk.i64_in _ (by omega)
  have R1 : 1 ≤ room := by omega
  have R2 : room ≤ 64 := by omega
  clear hr1 hr2
  have HN := hid (gb_new W room R1 (by omega))
  generalize W.heap.size + 1 = cb at *
  go_enter Try.func5, Try.ntmps5
  go_wp2_with (first
    | (go_at_call 19; refine HN.out.mono ?_; rintro e w1 ⟨rfl, G1⟩)
    | fail)
  clear HN hr hn hr3 hn3 hsr hwr
  go_loopg [7] n (fun gg vi wr => NewI W cb room n gg vi wr)
  case atStart => exact ⟨0, Nat.zero_le _, rfl, rfl, by rw [show lisN room 0 = [] by simp [lisN]]; exact G1⟩
  case round =>
    as_aux_lemma =>
      obtain ⟨i, hi, rfl, rfl, G⟩ := hrel
      clear G1
      by_cases hlt : i < n
      · as_aux_lemma =>
          have hil : ((i : Int) < (n : Int)) := by omega
          have hk : (keyN i).size ≤ maxLen := by have := (keyN_un (i := i) (by omega)).2; unfold maxLen; omega
          have hw := (wf2 i).1
          have P1 : Hid (Calls Try.prog 20 #[.pointer (some ⟨cb, 0, none⟩), .int .i64 ((i % 2 : Nat) : Int), .string (keyN i), .agg #[.int .i64 (i : Int), .int .i64 1]] wr fun e w' => e = .returned (.int .i64 0) ∧ Hid (GB W cb room (firN room i) w')) := hid (gb_put G _ _ ((i : Int), 1) hw hk (by have := firN_len (room := room) (i := i) (by omega) R1; unfold firN at this; omega))
          have P2 : Hid (∀ w, Hid (GB W cb room (firN room i) w) → Calls Try.prog 20 #[.pointer (some ⟨cb, 0, none⟩), .int .i64 ((i % 2 : Nat) : Int), .string (keyN i), .agg #[.int .i64 (i : Int), .int .i64 2]] w fun e w' => e = .returned (.int .i64 0) ∧ Hid (GB W cb room (lisN room (i + 1)) w')) := hid (fun w g => by
            have hs := secN (room := room) (i := i) (by omega) R1
            have := gb_put g ((i % 2 : Nat) : Int) (keyN i) ((i : Int), 2) hw hk (by rw [hs, lisN_length]; omega)
            rw [hs] at this
            exact this)
          have PL : Hid (∀ V : Int, V = ((min room (i + 1) : Nat) : Int) → ∀ w, Hid (GB W cb room (lisN room (i + 1)) w) → Calls Try.prog 21 #[.pointer (some ⟨cb, 0, none⟩)] w fun e w' => e = .returned (.int .i64 V) ∧ w = w') := hid (fun V hV w g => by
            have := gb_len g
            rw [lisN_length, ← hV] at this
            exact this)
          obtain ⟨gi, hgi⟩ : ∃ gi, gi = i % 2 := ⟨_, rfl⟩
          rw [← hgi] at P1 P2
          have b1 : bits .and .i64 (i : Int) 1 = (gi : Int) := by
            obtain ⟨N, h1, h2, h3⟩ := and_mask64_nat (i : Int) 1 1 (by omega) (by omega)
            rw [show ((1 : Nat) : Int) = 1 from rfl] at h1
            rw [h1, h3]
            omega
          have b2 : (i : Int) % 2 = (gi : Int) := by omega
          have b3 : IntKind.i64.wrap (97 + (i : Int)) = 97 + (i : Int) := IntWalk.i64_in _ (by omega)
          have b4 : IntKind.i32.wrap (97 + (i : Int)) = 97 + (i : Int) := i32_small _ (by omega) (by omega)
          obtain ⟨key, hkd⟩ : ∃ key, key = keyN i := ⟨_, rfl⟩
          rw [← hkd] at P1 P2
          have hkey : Utf8.encode (97 + (i : Int)) = key := by rw [hkd]; unfold keyN; exact Eq.refl _
          clear hk hw hgi hkd
          have b5 : IntKind.i64.wrap ((i : Int) + 1) = (i : Int) + 1 := IntWalk.i64_in _ (by omega)
          by_cases hA : (i : Int) + 1 < (room : Int)
          · have PV := hid (PL.out ((i : Int) + 1) (by omega))
            clear PL
            go_wp2_with (first
              | (go_at_call 20; ((with_reducible refine P1.out.mono ?_); rintro e w2 ⟨rfl, G2⟩))
              | (go_at_call 20; ((with_reducible refine (P2.out _ G2).mono ?_); rintro e w3 ⟨rfl, G3⟩))
              | (go_at_call 21; refine (PV.out _ G3).mono ?_; rintro e w4 ⟨rfl, rfl⟩)
              | fail)
            go_roundg (n - (i + 1))
            case measure => omega
            case rel => exact ⟨i + 1, by omega, rfl, by go_num, G3⟩
          · have PV := hid (PL.out (room : Int) (by omega))
            have hB : ¬ ((i : Int) + 1 < (room : Int)) := hA
            clear PL
            go_wp2_with (first
              | (go_at_call 20; ((with_reducible refine P1.out.mono ?_); rintro e w2 ⟨rfl, G2⟩))
              | (go_at_call 20; ((with_reducible refine (P2.out _ G2).mono ?_); rintro e w3 ⟨rfl, G3⟩))
              | (go_at_call 21; refine (PV.out _ G3).mono ?_; rintro e w4 ⟨rfl, rfl⟩)
              | fail)
            go_roundg (n - (i + 1))
            case measure => omega
            case rel => exact ⟨i + 1, by omega, rfl, by go_num, G3⟩
      · as_aux_lemma =>
          have hin : i = n := by omega
          rw [hin] at G
          have hjn : ¬ ((i : Int) < (n : Int)) := by omega
          clear hin hlt
          go_wp2_with fail
          go_loopg [8] n (fun gg vi wr => NewJ W cb room n gg vi wr)
          case atStart => exact ⟨0, Nat.zero_le _, rfl, rfl, G⟩
          case round =>
            clear hi hjn
            obtain ⟨i, hi, rfl, rfl, G1⟩ := hrel
            by_cases hlt : i < n
            · as_aux_lemma =>
                have hil : ((i : Int) < (n : Int)) := by omega
                have hk : (keyN i).size ≤ maxLen := by have := (keyN_un (i := i) (by omega)).2; unfold maxLen; omega
                have hw := wf2 i
                have PA0 := gb_get G1 ((i % 2 : Nat) : Int) (keyN i) hw.1 hk
                have PB : Hid (∀ w, Hid (GB W cb room (lisN room n) w) → Calls Try.prog 22 #[.pointer (some ⟨cb, 0, none⟩), .int .i64 (1 - ((i % 2 : Nat) : Int)), .string (keyN i)] w fun e w' => e = .returned (.tuple #[.agg #[.int .i64 0, .int .i64 0], .bool false]) ∧ Hid (GB W cb room (lisN room n) w')) := hid (fun w g => by
                  have h1 := gb_get g (1 - ((i % 2 : Nat) : Int)) (keyN i) hw.2 hk
                  have hno : ¬ (n - room ≤ i ∧ i < n ∧ (1 - ((i % 2 : Nat) : Int)) = ((i % 2 : Nat) : Int)) := by omega
                  rw [getN_none (by omega) (by omega) _ hno, hasN (by omega) (by omega), decide_eq_false hno] at h1
                  exact h1)
                have hgl : i % 2 < 2 := Nat.mod_lt _ (by omega)
                rw [hasN (by omega) (by omega)] at PA0
                have b5 : IntKind.i64.wrap ((n : Int) - (room : Int)) = (n : Int) - (room : Int) := IntWalk.i64_in _ (by omega)
                have b3 : IntKind.i64.wrap (97 + (i : Int)) = 97 + (i : Int) := IntWalk.i64_in _ (by omega)
                have b4 : IntKind.i32.wrap (97 + (i : Int)) = 97 + (i : Int) := i32_small _ (by omega) (by omega)
                have z0 : ∀ w, (binOp .neq 54 (.agg #[.int .i64 0, .int .i64 0]) (.agg #[.int .i64 0, .int .i64 0])).run Try.prog w = .ok (.bool false) w := fun w => by rw [neq54]; rfl
                have z1 : ∀ w, (binOp .neq 54 (.agg #[.int .i64 (i : Int), .int .i64 2]) (.agg #[.int .i64 (i : Int), .int .i64 2])).run Try.prog w = .ok (.bool false) w := fun w => by rw [neq54, decide_eq_true ⟨rfl, rfl⟩]; rfl
                obtain ⟨key, hkd⟩ : ∃ key, key = keyN i := ⟨_, rfl⟩
                have hkey : Utf8.encode (97 + (i : Int)) = key := by rw [hkd]; unfold keyN; exact Eq.refl _
                by_cases hK : n - room ≤ i
                · have PA : Hid (Calls Try.prog 22 #[.pointer (some ⟨cb, 0, none⟩), .int .i64 ((i % 2 : Nat) : Int), .string (keyN i)] wr fun e w' => e = .returned (.tuple #[.agg #[.int .i64 (i : Int), .int .i64 2], .bool true]) ∧ Hid (GB W cb room (lisN room n) w')) := hid (by
                    rw [getN (by omega) hlt hK, decide_eq_true ⟨hK, hlt, rfl⟩] at PA0
                    exact PA0)
                  have hge : (n : Int) - (room : Int) ≤ (i : Int) := by omega
                  rw [← hkd] at PA PB
                  clear hkd PA0 hK
                  obtain ⟨gi, hgi⟩ : ∃ gi, gi = i % 2 := ⟨_, rfl⟩
                  rw [← hgi] at PA PB
                  have b1 : bits .and .i64 (i : Int) 1 = (gi : Int) := by
                    obtain ⟨N, h1, h2, h3⟩ := and_mask64_nat (i : Int) 1 1 (by omega) (by omega)
                    rw [show ((1 : Nat) : Int) = 1 from rfl] at h1
                    rw [h1, h3]
                    omega
                  have b2 : (i : Int) % 2 = (gi : Int) := by omega
                  have b6 : IntKind.i64.wrap (1 - (gi : Int)) = 1 - (gi : Int) := IntWalk.i64_in _ (by omega)
                  clear hk hw hgi hgl
                  go_wp2_with (first
                    | (go_at_call 22; ((with_reducible refine PA.out.mono ?_); rintro e w2 ⟨rfl, G2⟩; have G3 := gb_still G2 ((Fr.refl _ w2).alloc (.cells #[.int .i64 (i : Int), .int .i64 2] 54))))
                    | (go_at_call 22; ((with_reducible refine (PB.out _ G3).mono ?_); rintro e w4 ⟨rfl, G4⟩; have G5 := gb_still G4 ((Fr.refl _ w4).alloc (.cells #[.int .i64 0, .int .i64 0] 54))))
                    | fail)
                  go_roundg (n - (i + 1))
                  case measure => omega
                  case rel => exact ⟨i + 1, by omega, rfl, by go_num, G5⟩
                · have hno : ¬ (n - room ≤ i ∧ i < n ∧ ((i % 2 : Nat) : Int) = ((i % 2 : Nat) : Int)) := fun h => hK h.1
                  have PA : Hid (Calls Try.prog 22 #[.pointer (some ⟨cb, 0, none⟩), .int .i64 ((i % 2 : Nat) : Int), .string (keyN i)] wr fun e w' => e = .returned (.tuple #[.agg #[.int .i64 0, .int .i64 0], .bool false]) ∧ Hid (GB W cb room (lisN room n) w')) := hid (by
                    rw [getN_none (by omega) (by omega) _ hno, decide_eq_false hno] at PA0
                    exact PA0)
                  have hge : ¬ ((n : Int) - (room : Int) ≤ (i : Int)) := by omega
                  have hgd : decide ((n : Int) - (room : Int) ≤ (i : Int)) = false := decide_eq_false hge
                  clear z1
                  rw [← hkd] at PA PB
                  clear hkd PA0 hK hno
                  obtain ⟨gi, hgi⟩ : ∃ gi, gi = i % 2 := ⟨_, rfl⟩
                  rw [← hgi] at PA PB
                  have b1 : bits .and .i64 (i : Int) 1 = (gi : Int) := by
                    obtain ⟨N, h1, h2, h3⟩ := and_mask64_nat (i : Int) 1 1 (by omega) (by omega)
                    rw [show ((1 : Nat) : Int) = 1 from rfl] at h1
                    rw [h1, h3]
                    omega
                  have b2 : (i : Int) % 2 = (gi : Int) := by omega
                  have b6 : IntKind.i64.wrap (1 - (gi : Int)) = 1 - (gi : Int) := IntWalk.i64_in _ (by omega)
                  clear hk hw hgi hgl
                  go_wp2_with (first
                    | (go_at_call 22; ((with_reducible refine PA.out.mono ?_); rintro e w2 ⟨rfl, G2⟩; have G3 := gb_still G2 ((Fr.refl _ w2).alloc (.cells #[.int .i64 0, .int .i64 0] 54))))
                    | (go_at_call 22; ((with_reducible refine (PB.out _ G3).mono ?_); rintro e w4 ⟨rfl, G4⟩; have G5 := gb_still G4 ((Fr.refl _ w4).alloc (.cells #[.int .i64 0, .int .i64 0] 54))))
                    | fail)
                  go_roundg (n - (i + 1))
                  case measure => omega
                  case rel => exact ⟨i + 1, by omega, rfl, by go_num, G5⟩
            · as_aux_lemma =>
                have hin : i = n := by omega
                have hjn : ¬ ((i : Int) < (n : Int)) := by omega
                have hlen := lisN_length room n
                have hle := dropG_le' (lisN room n) 0
                obtain ⟨d0, hd0⟩ : ∃ d0, d0 = (lisN room n).length - (dropG (lisN room n) 0).length := ⟨_, rfl⟩
                obtain ⟨d1, hd1⟩ : ∃ d1, d1 = (dropG (lisN room n) 0).length := ⟨_, rfl⟩
                have D0 : Hid (Calls Try.prog 23 #[.pointer (some ⟨cb, 0, none⟩), .int .i64 0] wr fun e w' => e = .returned (.int .i64 (d0 : Int)) ∧ Hid (GB W cb room (dropG (lisN room n) 0) w')) := hid (by
                  have := gb_drop G1 0 (by decide) (by omega)
                  rw [← hd0] at this
                  exact this)
                have D1 : Hid (∀ w, Hid (GB W cb room (dropG (lisN room n) 0) w) → Calls Try.prog 23 #[.pointer (some ⟨cb, 0, none⟩), .int .i64 1] w fun e w' => e = .returned (.int .i64 (d1 : Int)) ∧ Hid (GB W cb room [] w')) := hid (fun w g => by
                  have := gb_drop g 1 (by decide) (by omega)
                  rw [endN, ← hd1] at this
                  exact this)
                have DL : Hid (∀ w, Hid (GB W cb room [] w) → Calls Try.prog 21 #[.pointer (some ⟨cb, 0, none⟩)] w fun e w' => e = .returned (.int .i64 0) ∧ w = w') := hid (fun w g => gb_len g)
                have hsum : d0 + d1 = min room n := by omega
                have hwr : IntKind.i64.wrap ((d0 : Int) + (d1 : Int)) = (d0 : Int) + (d1 : Int) := IntWalk.i64_in _ (by omega)
                clear hin hlt hlen hle hd0 hd1 G G1
                by_cases hA : (n : Int) < (room : Int)
                · have hs : (d0 : Int) + (d1 : Int) = (n : Int) := by omega
                  clear hsum
                  go_wp2_with (first
                    | (go_at_call 23; ((with_reducible refine D0.out.mono ?_); rintro e w2 ⟨rfl, G2⟩))
                    | (go_at_call 23; ((with_reducible refine (D1.out _ G2).mono ?_); rintro e w3 ⟨rfl, G3⟩))
                    | (go_at_call 21; ((with_reducible refine (DL.out _ G3).mono ?_); rintro e w4 ⟨rfl, rfl⟩))
                    | fail)
                  go_ret
                  exact ⟨rfl, G3.out.f.below (Nat.le_refl _) (fun k hk h => Nat.not_le_of_lt hk h)⟩
                · have hs : (d0 : Int) + (d1 : Int) = (room : Int) := by omega
                  clear hsum
                  go_wp2_with (first
                    | (go_at_call 23; ((with_reducible refine D0.out.mono ?_); rintro e w2 ⟨rfl, G2⟩))
                    | (go_at_call 23; ((with_reducible refine (D1.out _ G2).mono ?_); rintro e w3 ⟨rfl, G3⟩))
                    | (go_at_call 21; ((with_reducible refine (DL.out _ G3).mono ?_); rintro e w4 ⟨rfl, rfl⟩))
                    | fail)
                  go_ret
                  exact ⟨rfl, G3.out.f.below (Nat.le_refl _) (fun k hk h => Nat.not_le_of_lt hk h)⟩
end Go.Proofs.Ytelbbfogeimekaa

/-
  CreditShares, walked. No conditions.
-/
import Derived.Test.YtehjekcfhmmggaaCreG
import Derived.Deep.CutBlock
namespace Go.Proofs.Ytehjekcfhmmggaa
open Go.RowKit

/-- Two on one core, that never ran. -/
def twoS (a b : Nat) (c1 c2 : Int) : CS := ⟨[⟨1, a, c1, 0, 1⟩, ⟨2, b, c2, 0, 1⟩], updN (updN (fun _ => []) 0 [1]) 0 [1, 2], fun _ => 0, fun _ => false, fun _ => 0, a + b⟩

theorem add1 (a : Nat) (h1 : 1 ≤ a) (h2 : a ≤ 256) : addV 1 emptyC 1 a 0 = 0 ∧ addN 1 emptyC 1 a 0 = ⟨[⟨1, a, 0, 0, 1⟩], updN (fun _ => []) 0 [1], fun _ => 0, fun _ => false, fun _ => 0, a⟩ := by
  have e : addV 1 emptyC 1 a 0 = 0 := by
    unfold addV
    rw [if_neg (by simp [inR]; omega), if_neg (by simp [emptyC, findO]), if_neg (by simp [emptyC])]
  refine ⟨e, ?_⟩
  unfold addN
  rw [e, if_pos rfl]
  simp [addS, emptyC]

theorem add2 (a b : Nat) (h1 : 1 ≤ b) (h2 : b ≤ 256) : addV 1 ⟨[⟨1, a, 0, 0, 1⟩], updN (fun _ => []) 0 [1], fun _ => 0, fun _ => false, fun _ => 0, a⟩ 2 b 0 = 0 ∧ addN 1 ⟨[⟨1, a, 0, 0, 1⟩], updN (fun _ => []) 0 [1], fun _ => 0, fun _ => false, fun _ => 0, a⟩ 2 b 0 = twoS a b 0 0 := by
  have e : addV 1 ⟨[⟨1, a, 0, 0, 1⟩], updN (fun _ => []) 0 [1], fun _ => 0, fun _ => false, fun _ => 0, a⟩ 2 b 0 = 0 := by
    unfold addV
    rw [if_neg (by simp [inR]; omega), if_neg (by simp [findO]), if_neg (by simp)]
  refine ⟨e, ?_⟩
  unfold addN
  rw [e, if_pos rfl]
  simp [addS, twoS, updN]

def nextC (a sum : Nat) (c : Int) : Int := min (c + max 1 ((500 * a / sum : Nat) : Int)) 500
theorem two_fill (a b : Nat) (c1 c2 : Int) : refillS 500 (twoS a b c1 c2) = twoS a b (nextC a (a + b) c1) (nextC b (a + b) c2) := by
  simp [refillS, twoS, fillO, nextC]

theorem nextC_le (a sum : Nat) (c : Int) (h : 0 ≤ c) : 1 ≤ nextC a sum c ∧ nextC a sum c ≤ 500 := by unfold nextC; omega
theorem nextC_mono {a b sum : Nat} {c d : Int} (h1 : a ≤ b) (h2 : c ≤ d) : nextC a sum c ≤ nextC b sum d := by
  unfold nextC
  have := Nat.div_le_div_right (c := sum) (Nat.mul_le_mul_left 500 h1)
  omega

def ShI (W : World) (cb a b m : Nat) (gg : Nat) (vi : Value) (wr : World) : Prop :=
  ∃ (i : Nat) (c1 c2 : Int), i ≤ m ∧ gg = m - i ∧ vi = .int .i64 i ∧ 0 ≤ c1 ∧ 0 ≤ c2 ∧ (b ≤ a → c2 ≤ c1) ∧ (a ≤ b → c1 ≤ c2) ∧ Hid (GS W cb 500 1 (twoS a b c1 c2) wr)

set_option maxHeartbeats 4000000 in
set_option maxRecDepth 100000 in
theorem shares_walk (x y z : Int) (W : World) : Calls Try.prog 3 #[.int .i64 x, .int .i64 y, .int .i64 z] W fun e w' => e = .returned (.bool true) ∧ Below W.heap.size W w' := by
  obtain ⟨a0, ha, ha2, ha3⟩ := and_mask64_nat x 8 255 (by omega) (by omega)
  obtain ⟨b0, hb, hb2, hb3⟩ := and_mask64_nat y 8 255 (by omega) (by omega)
  obtain ⟨m, hm, hm2, hm3⟩ := and_mask64_nat z 6 63 (by omega) (by omega)
  rw [show ((255 : Nat) : Int) = 255 from rfl] at ha hb
  rw [show ((63 : Nat) : Int) = 63 from rfl] at hm
  replace ha3 : x % 256 = (a0 : Int) := by rw [ha3]; rfl
  replace hb3 : y % 256 = (b0 : Int) := by rw [hb3]; rfl
  replace hm3 : z % 64 = (m : Int) := by rw [hm3]; rfl
  obtain ⟨a, ha1⟩ : ∃ a, a = 1 + a0 := ⟨_, rfl⟩
  obtain ⟨b, hb1⟩ : ∃ b, b = 1 + b0 := ⟨_, rfl⟩
  have hsa : (1 : Int) + (a0 : Int) = (a : Int) := by omega
  have hsb : (1 : Int) + (b0 : Int) = (b : Int) := by omega
  have hwa : IntKind.i64.wrap ((a : Nat) : Int) = a := IntWalk.i64_in _ (by omega)
  have hwb : IntKind.i64.wrap ((b : Nat) : Int) = b := IntWalk.i64_in _ (by omega)
  have A1 : 1 ≤ a := by omega
  have A2 : a ≤ 256 := by omega
  have B1 : 1 ≤ b := by omega
  have B2 : b ≤ 256 := by omega
  clear ha1 hb1 ha2 hb2
  have HN := g_new W 1 500 (by omega) (by omega) (by omega) (by omega)
  rw [show ((1 : Nat) : Int) = 1 from rfl, show ((500 : Nat) : Int) = 500 from rfl] at HN
  have HN := hid HN
  have HA : Hid (∀ w, Hid (GS W (W.heap.size + 1 + 1) 500 1 emptyC w) → Calls Try.prog 9 #[.pointer (some ⟨W.heap.size + 1 + 1, 0, none⟩), .int .i64 1, .int .i64 a, .int .i64 0] w fun e w' => e = .returned (.int .i64 0) ∧ Hid (GS W (W.heap.size + 1 + 1) 500 1 ⟨[⟨1, a, 0, 0, 1⟩], updN (fun _ => []) 0 [1], fun _ => 0, fun _ => false, fun _ => 0, a⟩ w')) := hid (fun w h => by
    have := g_add h 1 a 0 (by decide)
    rw [(add1 a A1 A2).1, (add1 a A1 A2).2] at this
    exact this)
  have HB : Hid (∀ w, Hid (GS W (W.heap.size + 1 + 1) 500 1 ⟨[⟨1, a, 0, 0, 1⟩], updN (fun _ => []) 0 [1], fun _ => 0, fun _ => false, fun _ => 0, a⟩ w) → Calls Try.prog 9 #[.pointer (some ⟨W.heap.size + 1 + 1, 0, none⟩), .int .i64 2, .int .i64 b, .int .i64 0] w fun e w' => e = .returned (.int .i64 0) ∧ Hid (GS W (W.heap.size + 1 + 1) 500 1 (twoS a b 0 0) w')) := hid (fun w h => by
    have := g_add h 2 b 0 (by decide)
    rw [(add2 a b B1 B2).1, (add2 a b B1 B2).2] at this
    exact this)
  go_enter Try.func3, Try.ntmps3
  go_wp2_with (first
    | (go_at_call 8; refine HN.out.mono ?_; rintro e w1 ⟨rfl, G1⟩)
    | (go_at_call 9; ((with_reducible refine (HA.out _ G1).mono ?_); rintro e w2 ⟨rfl, G2⟩))
    | (go_at_call 9; ((with_reducible refine (HB.out _ G2).mono ?_); rintro e w3 ⟨rfl, G3⟩))
    | fail)
  clear HN HA HB
  go_loopg [9] m (fun gg vi wr => ShI W (W.heap.size + 1 + 1) a b m gg vi wr)
  case atStart => exact ⟨0, 0, 0, Nat.zero_le _, rfl, rfl, Int.le_refl _, Int.le_refl _, fun _ => Int.le_refl _, fun _ => Int.le_refl _, G3⟩
  case round =>
    as_aux_lemma =>
      obtain ⟨i, c1, c2, hi, rfl, rfl, k1, k2, k3, k4, G⟩ := hrel
      by_cases hlt : i < m
      · have hil : ((i : Int) < (m : Int)) := by omega
        have HR : Hid (Calls Try.prog 10 #[.pointer (some ⟨W.heap.size + 1 + 1, 0, none⟩)] wr fun e w' => e = .returned (.int .i64 0) ∧ Hid (GS W (W.heap.size + 1 + 1) 500 1 (twoS a b (nextC a (a + b) c1) (nextC b (a + b) c2)) w')) := hid (by
          have := g_refill G
          rw [two_fill] at this
          exact this)
        have n1 := nextC_le a (a + b) c1 k1
        have n2 := nextC_le b (a + b) c2 k2
        have n3 : b ≤ a → nextC b (a + b) c2 ≤ nextC a (a + b) c1 := fun h => nextC_mono h (k3 h)
        have n4 : a ≤ b → nextC a (a + b) c1 ≤ nextC b (a + b) c2 := fun h => nextC_mono h (k4 h)
        generalize nextC a (a + b) c1 = d1 at *
        generalize nextC b (a + b) c2 = d2 at *
        have HL1 : Hid (∀ w, Hid (GS W (W.heap.size + 1 + 1) 500 1 (twoS a b d1 d2) w) → Calls Try.prog 11 #[.pointer (some ⟨W.heap.size + 1 + 1, 0, none⟩), .int .i64 1] w fun e w' => e = .returned (.tuple #[.agg #[.int .i64 1, .int .i64 0, .int .i64 a, .int .i64 d1], .bool true]) ∧ Hid (GS W (W.heap.size + 1 + 1) 500 1 (twoS a b d1 d2) w') ∧ Hid (Fr (fun _ => False) w w')) := hid (fun w h => g_look h 1 (by decide))
        have HL2 : Hid (∀ w, Hid (GS W (W.heap.size + 1 + 1) 500 1 (twoS a b d1 d2) w) → Calls Try.prog 11 #[.pointer (some ⟨W.heap.size + 1 + 1, 0, none⟩), .int .i64 2] w fun e w' => e = .returned (.tuple #[.agg #[.int .i64 1, .int .i64 0, .int .i64 b, .int .i64 d2], .bool true]) ∧ Hid (GS W (W.heap.size + 1 + 1) 500 1 (twoS a b d1 d2) w') ∧ Hid (Fr (fun _ => False) w w')) := hid (fun w h => g_look h 2 (by decide))
        have HK : Hid ((b ≤ a → d2 ≤ d1) ∧ (a ≤ b → d1 ≤ d2)) := hid ⟨n3, n4⟩
        clear k1 k2 k3 k4 n3 n4 ha hb ha3 hb3 hsa hsb hwa hwb
        go_upto_region 12 with (first
          | (go_at_call 10; refine HR.out.mono ?_; rintro e w4 ⟨rfl, G4⟩)
          | (go_at_call 11; ((with_reducible refine (HL1.out _ G4).mono ?_); rintro e w5 ⟨rfl, G5, F5⟩; have G6 := gs_still G5 (((Fr.refl _ w5).alloc (.cells #[.int .i64 1, .int .i64 0, .int .i64 a, .int .i64 d1] 29)))))
          | (go_at_call 11; ((with_reducible refine (HL2.out _ G6).mono ?_); rintro e w7 ⟨rfl, G7, F7⟩))
          | fail)
        have G8 := gs_still G7 ((Fr.refl _ w7).alloc (.cells #[.int .i64 1, .int .i64 0, .int .i64 b, .int .i64 d2] 29))
        have f1 : (w7.alloc (.cells #[.int .i64 1, .int .i64 0, .int .i64 b, .int .i64 d2] 29)).cell? ⟨w5.heap.size, 3, none⟩ = some (.int .i64 d1) := by
          have h1 := heap_alloc_new w5 (.cells #[.int .i64 1, .int .i64 0, .int .i64 a, .int .i64 d1] 29)
          have h2 := (F7.out.block w5.heap.size (heap_lt h1) (fun h => h)).trans h1
          exact (World.cell?_of_block (a := ⟨w5.heap.size, 3, none⟩) (Below.heap_alloc w7 _ _ (heap_lt h2))).trans ((cell_at h2).trans rfl)
        have f2 : (w7.alloc (.cells #[.int .i64 1, .int .i64 0, .int .i64 b, .int .i64 d2] 29)).cell? ⟨w7.heap.size, 3, none⟩ = some (.int .i64 d2) := (cell_at (heap_alloc_new w7 _)).trans rfl
        generalize (w7.alloc (.cells #[.int .i64 1, .int .i64 0, .int .i64 b, .int .i64 d2] 29)) = w8 at *
        generalize w7.heap.size = p7 at *
        generalize w5.heap.size = p5 at *
        obtain ⟨v1, v2⟩ := n1
        obtain ⟨v3, v4⟩ := n2
        clear G4 G5 G6 G7 F5 F7 HR HL1 HL2 G G1 G2 G3
        by_cases hab : a ≤ b
        · by_cases hba : b ≤ a
          · have t1 : ¬ d1 < d2 := by have := HK.out.1 hba; omega
            have t2 : ¬ d2 < d1 := by have := HK.out.2 hab; omega
            go_wp2_with fail
            go_roundg (m - (i + 1))
            case measure => omega
            case rel => exact ⟨i + 1, d1, d2, by omega, rfl, by go_num, by omega, by omega, HK.out.1, HK.out.2, G8⟩
          · have t2 : ¬ d2 < d1 := by have := HK.out.2 hab; omega
            go_wp2_with fail
            go_roundg (m - (i + 1))
            case measure => omega
            case rel => exact ⟨i + 1, d1, d2, by omega, rfl, by go_num, by omega, by omega, HK.out.1, HK.out.2, G8⟩
        · have hba : b ≤ a := by omega
          have t1 : ¬ d1 < d2 := by have := HK.out.1 hba; omega
          go_wp2_with fail
          go_roundg (m - (i + 1))
          case measure => omega
          case rel => exact ⟨i + 1, d1, d2, by omega, rfl, by go_num, by omega, by omega, HK.out.1, HK.out.2, G8⟩
      · have hin : ¬ ((i : Int) < (m : Int)) := by omega
        have hb := hid (G.out.fr.below (Nat.le_refl _) (fun k hk h => Nat.not_le_of_lt hk h))
        clear k1 k2 k3 k4 G
        go_wp2_with fail
        go_ret
        exact ⟨rfl, hb.out⟩
end Go.Proofs.Ytehjekcfhmmggaa

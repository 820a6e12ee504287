/-
  ConsoleBack, walked: what is read is a beginning of what was taken. No conditions beyond the row's own reach.
-/
import Derived.Test.YtmlmmcfalglbhaaLaw0
namespace Go.Proofs.Ytmlmmcfalglbhaa
open Go.RowKit

theorem Src.kept {w w' : World} {bo : Option Addr} {xs : List UInt8} {T : Nat → Prop} (h : Src w bo xs) (hf : Fr T w w') (hT : ∀ ad, bo = some ad → ¬ T ad.block) : Src w' bo xs :=
  ⟨h.nil, fun ad had j u hu => by
    have hc := h.cells ad had j u hu
    have hb : (ad.add j).block = ad.block := by unfold Addr.add; split <;> rfl
    exact (hf.cell (block_lt_of_cell hc) (by rw [hb]; exact hT ad had)).trans hc⟩

theorem Src.old {W w : World} {bo : Option Addr} {xs : List UInt8} (h : Src W bo xs) (hf : Fr (fun k => W.heap.size ≤ k) W w) : Src w bo xs :=
  ⟨h.nil, fun ad had j u hu => by
    have hc := h.cells ad had j u hu
    exact (hf.cell (block_lt_of_cell hc) (Nat.not_le_of_lt (block_lt_of_cell hc))).trans hc⟩

theorem Src.take {w : World} {bo : Option Addr} {xs : List UInt8} (h : Src w bo xs) (n : Nat) : Src w bo (xs.take n) :=
  ⟨fun e => by rw [h.nil e]; simp, fun ad had j u hu => by
    refine h.cells ad had j u ?_
    unfold bv at hu ⊢
    rw [List.map_take, List.getElem?_take] at hu
    split at hu
    · exact hu
    · cases hu⟩

/-- string(b) of a slice of bytes. -/
theorem run_conv (w : World) (bo : Option Addr) (xs : List UInt8) (h : Src w bo xs) (l c : Nat) (hl : xs.length = l) : (convert 29 9 (.slice bo l c)).run Try.prog w = .ok (.string ⟨xs.toArray⟩) w := by
  rw [run_convert_bytes_string w 29 9 5 bo l c Try.underlying29 Try.underlying5 Try.underlying9]
  cases bo with
  | none =>
    obtain rfl := h.nil rfl
    simp [Conv.bytesToString]
    rfl
  | some ad =>
    have e : bv xs = (xs.map fun b => (b.toNat : Int)).map (Value.int .u8) := by simp [bv]
    have hl' := run_loadCells_list (P := Try.prog) w ad (bv xs) (h.cells ad rfl)
    have hlen : (bv xs).length = l := by unfold bv; rw [List.length_map, hl]
    rw [hlen, e] at hl'
    rw [run_bytesToString w ad l c _ hl', foldl_push_bytes]
    congr 2
    simp only [List.map_map]
    have : (fun n : Int => UInt8.ofNat n.toNat) ∘ (fun b : UInt8 => (b.toNat : Int)) = id := by
      funext b; simp
    rw [this]
    simp

theorem wpList_conv {w : World} {ops : Array Oper} {rest : List Oper} {o : Oper} {a : Act} {Q : Exit → Act → World → Prop} (hgd : o.guard = none) (x : Operand) (ho : o.op = .convert 29 9 x)
    (bo : Option Addr) (l c : Nat) (hx : a.eval x = .slice bo l c) (xs : List UInt8) (h : Src w bo xs) (hl : xs.length = l)
    (hK : wpList Try.prog ops Q rest (a.put o.dst (.string ⟨xs.toArray⟩)) w) : wpList Try.prog ops Q (o :: rest) a w := by
  refine wpList_plain hgd fun K hK' => ?_
  have hr := run_conv w bo xs h l c hl
  unfold Oper.wp execOp
  simp only [ho, Sem.run_bind, hx, hr, Result.andThen_ok, Sem.run_pure]
  exact hK' _ _ hK

/-- A slice of slices of bytes that came in. -/
def Pieces (W : World) (po : Option Addr) (pl pc : Nat) (ps : Nat → List UInt8) (A : Nat → Option Addr) (C : Nat → Nat) : Prop :=
  pl ≤ pc ∧ pc * 24 ≤ 140737488351232 ∧ ∀ i, i < pl → ∃ b off, po = some ⟨b, off, none⟩ ∧ W.cell? ⟨b, off + i, none⟩ = some (.slice (A i) (ps i).length (C i)) ∧ Src W (A i) (ps i) ∧ (ps i).length ≤ C i ∧ C i ≤ 9223372036854775807

def Takes (W : World) (po : Option Addr) (pl pc : Nat) (zs : Nat → Int) : Prop :=
  pl ≤ pc ∧ pc * 8 ≤ 140737488351232 ∧ ∀ i, i < pl → ∃ b off, po = some ⟨b, off, none⟩ ∧ W.cell? ⟨b, off + i, none⟩ = some (.int .i64 (zs i))

/-- What was taken, read and is left, behind an Input and a Read. -/
structure BackS (s : Con) (si so : ByteArray) : Prop where
  all : si.data.toList = so.data.toList ++ s.waits
  came : s.came = si.size
  read : s.read = so.size

theorem BackS.input {s : Con} {si so : ByteArray} (h : BackS s si so) (X : List UInt8) (hb : si.size ≤ 100000000000000000) : BackS (s.input X) (si ++ ⟨(X.take (s.taken X)).toArray⟩) so := by
  have hT : s.taken X ≤ X.length ∧ s.taken X ≤ 4096 := by unfold Con.taken; omega
  refine ⟨?_, ?_, h.read⟩
  · simp [Con.input, h.all]
  · show wrap64 (s.came + (s.taken X : Nat)) = _
    rw [h.came, ByteArray.size_append]
    have : (⟨(X.take (s.taken X)).toArray⟩ : ByteArray).size = s.taken X := by
      show (X.take (s.taken X)).toArray.size = _
      rw [List.size_toArray, List.length_take]; omega
    rw [this, IntWalk.wrap64_in _ (by omega)]
    omega

theorem BackS.rest {s : Con} {si so : ByteArray} (h : BackS s si so) (z : Int) (hb : si.size ≤ 100000000000000000) : BackS (s.rest z) si (so ++ ⟨(s.waits.take (s.reads z)).toArray⟩) := by
  have hl : si.size = so.size + s.waits.length := by
    have := congrArg List.length h.all
    simpa using this
  have hr : s.reads z ≤ s.waits.length := by unfold Con.reads; split <;> omega
  refine ⟨?_, h.came, ?_⟩
  · simp [Con.rest, h.all]
  · show (if z < 1 then s.read else wrap64 (s.read + (s.reads z : Nat))) = _
    rw [ByteArray.size_append]
    have : (⟨(s.waits.take (s.reads z)).toArray⟩ : ByteArray).size = s.reads z := by
      show (s.waits.take (s.reads z)).toArray.size = _
      rw [List.size_toArray, List.length_take]; omega
    rw [this, h.read]
    split
    · rename_i hz
      have : s.reads z = 0 := by simp [Con.reads, hz]
      omega
    · rw [IntWalk.wrap64_in _ (by omega)]; omega

/-- What the round's last test asks. -/
theorem BackS.sizes {s : Con} {si so : ByteArray} (h : BackS s si so) (hw : s.waits.length ≤ 4096) : so.size ≤ si.size ∧ si.size ≤ so.size + 4096 ∧ (si.extract 0 so.size).toList = so.toList ∧ (s.waits = [] → si = so) := by
  have hl : si.size = so.size + s.waits.length := by
    have := congrArg List.length h.all
    simpa using this
  refine ⟨by omega, by omega, ?_, fun e => ?_⟩
  · have e1 : ∀ b : ByteArray, b.toList = b.data.toList := fun b => ByteArray.toList_eq b
    rw [e1, e1, ByteArray.data_extract, Array.toList_extract]
    have hs : so.size = so.data.toList.length := by simp
    rw [h.all, hs]
    simp [List.extract]
  · have := h.all
    rw [e, List.append_nil] at this
    cases si; cases so
    simp at this ⊢
    exact this

/-- What holds at the head of each round. -/
def BackI (W : World) (pl : Nat) (vin vout vi : Value) (wr : World) : Prop :=
  ∃ (i : Nat) (s : Con) (si so : ByteArray), i ≤ pl ∧ vi = .int .i64 i ∧ vin = .string si ∧ vout = .string so ∧ CON wr W.heap.size (fun k => W.heap.size ≤ k) s ∧ Fr (fun k => W.heap.size ≤ k) W wr ∧
    BackS s si so ∧ si.size ≤ 4096 * i

set_option maxHeartbeats 2000000 in
set_option maxRecDepth 100000 in
theorem back_walk (po : Option Addr) (pl pc : Nat) (ps : Nat → List UInt8) (A : Nat → Option Addr) (C : Nat → Nat) (to : Option Addr) (tl tc : Nat) (zs : Nat → Int) (W : World) (hP : Pieces W po pl pc ps A C) (hT : Takes W to tl tc zs) :
    Calls Try.prog 3 #[.slice po pl pc, .slice to tl tc] W fun e w' => e = .returned (.bool true) ∧ Below W.heap.size W w' := by
  have HP := hid hP
  have HT := hid hT
  have p1 := hP.1
  have p2 := hP.2.1
  have t1 := hT.1
  have t2 := hT.2.1
  clear hP hT
  go_enter Try.func3, Try.ntmps3
  go_wp2_with (go_at_call 7; refine (new_any _).mono ?_; rintro e w' ⟨rfl, rfl⟩; have C0 := hid (CON_new W (fun k => W.heap.size ≤ k) (fun k hk => hk)))
  go_loopw [6, 7, 8] (fun vin vout vi wr => BackI W pl vin vout vi wr) (fun _ _ i _ => pl - (intOf i).toNat)
  case atStart => exact ⟨0, con0, ⟨#[]⟩, ⟨#[]⟩, Nat.zero_le _, rfl, rfl, rfl, C0.out, (Fr.refl _ W).alloc _, ⟨rfl, rfl, rfl⟩, Nat.zero_le _⟩
  case round =>
    obtain ⟨i, s, si, so, hi, rfl, rfl, rfl, hC, hF, hL, hb⟩ := hrel
    have HC := hid hC
    have HF := hid hF
    have HL := hid hL
    clear hC hF hL
    by_cases hlt : i < pl
    · obtain ⟨b, off, hpo, hcell, hsrc, hle, hcap⟩ := HP.out.2.2 i hlt
      subst hpo
      obtain ⟨X, hX⟩ : ∃ X, X = ps i := ⟨_, rfl⟩
      obtain ⟨Ai, hAi⟩ : ∃ Ai, Ai = A i := ⟨_, rfl⟩
      obtain ⟨Ci, hCi⟩ : ∃ Ci, Ci = C i := ⟨_, rfl⟩
      rw [← hX, ← hAi, ← hCi] at hcell
      rw [← hX, ← hAi] at hsrc
      rw [← hX, ← hCi] at hle
      rw [← hCi] at hcap
      clear hX hAi hCi
      have hbW : b < W.heap.size := block_lt_of_cell hcell
      have hsrc1 : Src wr Ai X := hsrc.old HF.out
      have kc := (HF.out.cell (p := ⟨b, off + i, none⟩) hbW (Nat.not_le_of_lt hbW)).trans hcell
      have Hcell := hid hcell
      have Hsrc := hid hsrc
      have Hsrc1 := hid hsrc1
      obtain ⟨m, hm⟩ : ∃ m, m = X.length := ⟨_, rfl⟩
      rw [← hm] at kc hle
      have Hm := hid hm
      clear hcell hsrc hsrc1 hm
      obtain ⟨T, hT⟩ : ∃ T, T = s.taken X := ⟨_, rfl⟩
      have hTm : T ≤ m := by rw [hT, Hm.out]; unfold Con.taken; omega
      have HTk := hid hT
      clear hT
      go_wp2_with fail
      refine (c_input wr W.heap.size (fun k => W.heap.size ≤ k) s HC.out (fun k hk => Nat.le_trans HF.out.size hk) Ai m Ci X Hsrc1.out Hm.out.symm hle hcap).mono ?_
      rintro e w1 ⟨rfl, C1, F1⟩
      rw [← HTk.out]
      have F1' := hid (HF.out.trans F1.out)
      have kc1 := (F1'.out.cell (p := ⟨b, off + i, none⟩) hbW (Nat.not_le_of_lt hbW)).trans Hcell.out
      rw [← Hm.out] at kc1
      obtain ⟨d, hd⟩ : ∃ d : ByteArray, d = ⟨(X.take T).toArray⟩ := ⟨_, rfl⟩
      have hTl : (X.take T).length = T := by rw [List.length_take, ← Hm.out]; omega
      have hdz : d.size ≤ 4096 := by
        rw [hd]
        show (X.take T).toArray.size ≤ 4096
        rw [List.size_toArray, hTl, HTk.out]
        unfold Con.taken; omega
      have hsrcT : Hid (Src w1 Ai (X.take T)) := (Hsrc.out.old F1'.out).take T
      have Hd := hid hd
      have HTl := hid hTl
      clear hd hTl
      have hL1 := HL.out.input X (by omega)
      rw [← HTk.out, ← Hd.out] at hL1
      have HL1 := hid hL1
      clear hL1
      have hsi : (si ++ d).size = si.size + d.size := ByteArray.size_append
      have hsb : (si ++ d).size ≤ 4096 * (i + 1) := by omega
      have hsiz : si.size ≤ 100000000000000000 := by omega
      have hsoz : so.size ≤ si.size := by
        have := congrArg List.length HL.out.all
        simp at this
        omega
      clear hsi
      by_cases hit : i < tl
      · obtain ⟨b2, off2, hto, hz⟩ := HT.out.2.2 i hit
        subst hto
        have hb2W : b2 < W.heap.size := block_lt_of_cell hz
        have kz1 := (F1'.out.cell (p := ⟨b2, off2 + i, none⟩) hb2W (Nat.not_le_of_lt hb2W)).trans hz
        clear hz
        go_wp2_with (first | (refine wpList_conv rfl (.tmp 51) rfl Ai T Ci (by simp [Act.eval]) (X.take T) hsrcT.out HTl.out ?_; rw [← Hd.out]) | fail)
        refine (c_read w1 W.heap.size (fun k => W.heap.size ≤ k) (s.input X) C1.out (fun k hk => Nat.le_trans F1'.out.size hk) (zs i)).mono ?_
        rintro e w2 ⟨ro, cap, rfl, S2, h4, h4', C2, F2⟩
        have F2' := hid (F1'.out.trans F2.out)
        have hL2 := HL1.out.rest (zs i) (by omega)
        obtain ⟨d2, hd2⟩ : ∃ d2 : ByteArray, d2 = ⟨((s.input X).waits.take ((s.input X).reads (zs i))).toArray⟩ := ⟨_, rfl⟩
        rw [← hd2] at hL2
        have hd2z : d2.size ≤ 4096 := by
          have hw := C1.out.len.1
          rw [hd2]
          show ((s.input X).waits.take _).toArray.size ≤ 4096
          rw [List.size_toArray, List.length_take]
          omega
        have HL2 := hid hL2
        have Hd2 := hid hd2
        have S2' := hid S2.out.1
        have S2l := hid S2.out.2
        obtain ⟨R, hR⟩ : ∃ R, R = (s.input X).reads (zs i) := ⟨_, rfl⟩
        rw [← hR] at h4 S2' S2l Hd2 ⊢
        have HR := hid hR
        clear hL2 hd2 hR S2
        go_wp2_with (first | (refine wpList_conv rfl (.tmp 64) rfl ro R cap (by simp [Act.eval]) _ S2'.out S2l.out ?_; rw [← Hd2.out]) | fail)
        obtain ⟨si1, e1⟩ : ∃ x, x = si ++ d := ⟨_, rfl⟩
        obtain ⟨so1, e2⟩ : ∃ x, x = so ++ d2 := ⟨_, rfl⟩
        have hLq := HL2.out
        rw [← e1, ← e2] at hLq
        rw [← e1] at hsb
        rw [← e1, ← e2]
        clear e1 e2
        have hw4 := C2.out.len.1
        obtain ⟨k1, k2, k3, k4⟩ := hLq.sizes hw4
        have HLq := hid hLq
        have K4 := hid k4
        clear hLq hw4 k4
        refine (c_counts w2 W.heap.size (fun k => W.heap.size ≤ k) ((s.input X).rest (zs i)) C2.out).mono ?_
        rintro e w3 ⟨rfl, C3, F3⟩
        have F3' := hid (F2'.out.then F3.out (fun _ _ h => h.elim))
        obtain ⟨dr, hdr⟩ : ∃ x, x = ((s.input X).rest (zs i)).dropped := ⟨_, rfl⟩
        obtain ⟨wr4, hwr⟩ : ∃ x, x = ((s.input X).rest (zs i)).written := ⟨_, rfl⟩
        rw [show ((s.input X).rest (zs i)).counts = .agg #[.int .i64 si1.size, .int .i64 dr, .int .i64 so1.size, .int .i64 wr4] from by rw [hdr, hwr]; unfold Con.counts; rw [HLq.out.came, HLq.out.read]]
        clear hdr hwr
        go_wp2_with fail
        go_roundw
        case rel => exact ⟨i + 1, _, si1, so1, by omega, by go_num, rfl, rfl, C3.out.kept (T := fun _ => False) ((Fr.refl _ _).alloc _) (fun _ _ _ h => h), F3'.out.alloc _, HLq.out, hsb⟩
        case measure => simp [intOf]; omega
      · go_wp2_with (first | (refine wpList_conv rfl (.tmp 51) rfl Ai T Ci (by simp [Act.eval]) (X.take T) hsrcT.out HTl.out ?_; rw [← Hd.out]) | fail)
        obtain ⟨si1, e1⟩ : ∃ x, x = si ++ d := ⟨_, rfl⟩
        obtain ⟨so1, e2⟩ : ∃ x, x = so := ⟨_, rfl⟩
        have hLq := HL1.out
        rw [← e1, ← e2] at hLq
        rw [← e1] at hsb
        rw [← e1, ← e2]
        clear e1 e2
        have hw4 := C1.out.len.1
        obtain ⟨k1, k2, k3, k4⟩ := hLq.sizes hw4
        have HLq := hid hLq
        have K4 := hid k4
        clear hLq hw4 k4
        refine (c_counts w1 W.heap.size (fun k => W.heap.size ≤ k) (s.input X) C1.out).mono ?_
        rintro e w3 ⟨rfl, C3, F3⟩
        have F3' := hid (F1'.out.then F3.out (fun _ _ h => h.elim))
        obtain ⟨dr, hdr⟩ : ∃ x, x = (s.input X).dropped := ⟨_, rfl⟩
        obtain ⟨wr4, hwr⟩ : ∃ x, x = (s.input X).written := ⟨_, rfl⟩
        rw [show (s.input X).counts = .agg #[.int .i64 si1.size, .int .i64 dr, .int .i64 so1.size, .int .i64 wr4] from by rw [hdr, hwr]; unfold Con.counts; rw [HLq.out.came, HLq.out.read]]
        clear hdr hwr
        go_wp2_with fail
        go_roundw
        case rel => exact ⟨i + 1, _, si1, so1, by omega, by go_num, rfl, rfl, C3.out.kept (T := fun _ => False) ((Fr.refl _ _).alloc _) (fun _ _ _ h => h), F3'.out.alloc _, HLq.out, hsb⟩
        case measure => simp [intOf]; omega
    · have hL2 := HL.out.rest 4096 (by omega)
      obtain ⟨d2, hd2⟩ : ∃ d2 : ByteArray, d2 = ⟨(s.waits.take (s.reads 4096)).toArray⟩ := ⟨_, rfl⟩
      rw [← hd2] at hL2
      have hd2z : d2.size ≤ 4096 := by
        have hw := HC.out.len.1
        rw [hd2]
        show (s.waits.take _).toArray.size ≤ 4096
        rw [List.size_toArray, List.length_take]
        omega
      have hsoz : so.size ≤ si.size := by
        have := congrArg List.length HL.out.all
        simp at this
        omega
      have heq : si = so ++ d2 := by
        have hw := HC.out.len.1
        refine (hL2.sizes (by show (s.waits.drop _).length ≤ 4096; rw [List.length_drop]; omega)).2.2.2 ?_
        show s.waits.drop _ = []
        apply List.drop_eq_nil_of_le
        unfold Con.reads
        rw [if_neg (by omega)]
        have : (4096 : Int).toNat = 4096 := rfl
        omega
      have Heq := hid heq
      have Hd2 := hid hd2
      clear hL2 hd2 heq
      go_wp2_with fail
      refine (c_read wr W.heap.size (fun k => W.heap.size ≤ k) s HC.out (fun k hk => Nat.le_trans HF.out.size hk) 4096).mono ?_
      rintro e w2 ⟨ro, cap, rfl, S2, h4, h4', C2, F2⟩
      have F2' := hid (HF.out.trans F2.out)
      have S2' := hid S2.out.1
      have S2l := hid S2.out.2
      obtain ⟨R, hR⟩ : ∃ R, R = s.reads 4096 := ⟨_, rfl⟩
      rw [← hR] at h4 S2' S2l Hd2 ⊢
      have HR := hid hR
      clear hR S2
      go_wp2_with (first | (refine wpList_conv rfl (.tmp 106) rfl ro R cap (by simp [Act.eval]) _ S2'.out S2l.out ?_; rw [← Hd2.out]) | fail)
      rw [← Heq.out]
      go_wp2_with fail
      go_ret
      exact ⟨by simp, F2'.out.below (Nat.le_refl _) (fun k hk h => Nat.not_le_of_lt hk h)⟩
end Go.Proofs.Ytmlmmcfalglbhaa

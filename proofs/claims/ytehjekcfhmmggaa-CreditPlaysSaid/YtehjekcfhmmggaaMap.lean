/-
  A map in memory as a function from keys, with the number of its entries: made, looked up, stored into, deleted from, its length. No program is named here; no conditions.
-/
import Derived.Test.YtehjekcfhmmggaaBase
import Derived.Maps.OwnSet
namespace Go.Proofs.Ytehjekcfhmmggaa
open Go.RowKit
open Go.Maps (Keyed)

/-- An element, as it is. -/
def heldE (v : Value) : Option (DataW Value × List MemPlace) := some (.held v, [])

def viewM (D : DataW Value) (kl : Lit) : Option Value := if Maps.has D kl = true then (match D.atKey kl .nil with | .held v => some v | _ => none) else none

/-- Block b is a map of c entries; at the key that reads as kl it holds F kl. -/
def MAPF (P : Program) (k : TypeId) (w : World) (b : Nat) (F : Lit → Option Value) (c : Nat) : Prop :=
  ∃ D : DataW Value, w.ownsMap P k heldE b c D ∧ Maps.size D = c ∧ ∀ kl, viewM D kl = F kl

noncomputable def updF (F : Lit → Option Value) (kl : Lit) (v : Option Value) : Lit → Option Value := fun x => @ite _ (x = kl) (Classical.propDecidable _) v (F x)

section
variable {P : Program} {k : TypeId} {w : World} {b c : Nat} {F : Lit → Option Value}

theorem tight {n : Nat} {D : DataW Value} (h : w.ownsMap P k heldE b n D) : w.ownsMap P k heldE b (Maps.size D) D := by
  obtain ⟨es, clock, hb, F, hs, rfl⟩ := h
  refine ⟨es, clock, hb, F, ?_, rfl⟩
  simp [Maps.size, length_sorted]

theorem MAPF_new (w : World) (P : Program) (k : TypeId) : MAPF P k (w.alloc (.map #[] 0)) w.heap.size (fun _ => none) 0 :=
  ⟨.map [], World.ownsMap_made w P k heldE, rfl, fun _ => rfl⟩

theorem MAPF.lt (h : MAPF P k w b F c) : b < w.heap.size := by
  obtain ⟨D, h, _⟩ := h
  exact h.lt

theorem MAPF.of_heap {w' : World} (h : MAPF P k w b F c) (hb : w'.heap[b]? = w.heap[b]?) : MAPF P k w' b F c := by
  obtain ⟨D, ⟨es, clock, h1, h2⟩, h3⟩ := h
  exact ⟨D, ⟨es, clock, hb.trans h1, h2⟩, h3⟩

theorem MAPF.obj (h : MAPF P k w b F c) : ∃ es clock, w.heap[b]? = some (.map es clock) := by
  obtain ⟨D, ⟨es, clock, h1, _⟩, _⟩ := h
  exact ⟨es, clock, h1⟩

theorem view_none {D : DataW Value} {kl : Lit} (h : Maps.has D kl = false) : viewM D kl = none := by
  unfold viewM; rw [h]; rfl

/-- 'v, ok := m[k]' and 'm[k]'. -/
theorem MAPF.look {t e : TypeId} (h : MAPF P k w b F c) (K : Keyed P k) (ht : P.underlying t = some (.map k e)) {z : Value} (hz : ∀ w, (zeroValue e).run P w = .ok z w) {key : Value} {kl : Lit} (hkey : keyOf P k key = some kl) :
    (Instr.lookup t (.map (some b)) key true).run P w = .ok (.tuple #[(F kl).getD z, .bool (F kl).isSome]) w ∧ (Instr.lookup t (.map (some b)) key false).run P w = .ok ((F kl).getD z) w := by
  obtain ⟨D, ⟨es, clock, hb, Fi, hs, rfl⟩, _, hv⟩ := h
  rw [← hv kl]
  constructor
  · rcases Maps.fit_look true K ht (hz w) hb Fi hkey with ⟨hrun, _, hat⟩ | ⟨e0, y, _, _, hrun, hRv, hat, _⟩
    · rw [view_none (Maps.has_false_of_atKey hat)]
      exact hrun
    · have hh := Maps.has_true_of_atKey hat
      have hy : y.1 = .held e0.val := by have := congrArg Prod.fst (Option.some.inj hRv); exact this.symm
      unfold viewM
      rw [if_pos hh, hat .nil, hy]
      exact hrun
  · rcases Maps.fit_look false K ht (hz w) hb Fi hkey with ⟨hrun, _, hat⟩ | ⟨e0, y, _, _, hrun, hRv, hat, _⟩
    · rw [view_none (Maps.has_false_of_atKey hat)]
      exact hrun
    · have hh := Maps.has_true_of_atKey hat
      have hy : y.1 = .held e0.val := by have := congrArg Prod.fst (Option.some.inj hRv); exact this.symm
      unfold viewM
      rw [if_pos hh, hat .nil, hy]
      exact hrun

theorem MAPF.has_iff {D : DataW Value} (K : Keyed P k) (h : w.ownsMap P k heldE b c D) {key : Value} {kl : Lit} (hkey : keyOf P k key = some kl) {t e : TypeId} (ht : P.underlying t = some (.map k e)) {z : Value} (hz : ∀ w, (zeroValue e).run P w = .ok z w) : Maps.has D kl = (viewM D kl).isSome := by
  obtain ⟨es, clock, hb, Fi, hs, rfl⟩ := h
  rcases Maps.fit_look true K ht (hz w) hb Fi hkey with ⟨hrun, _, hat⟩ | ⟨e0, y, _, _, hrun, hRv, hat, _⟩
  · rw [view_none (Maps.has_false_of_atKey hat), Maps.has_false_of_atKey hat]; rfl
  · have hh := Maps.has_true_of_atKey hat
    have hy : y.1 = .held e0.val := by have := congrArg Prod.fst (Option.some.inj hRv); exact this.symm
    have : viewM (DataW.map ((es.toList.map (WideElems.rg P k heldE)).foldr DataW.insert [])) kl = some e0.val := by
      unfold viewM
      rw [if_pos hh, hat .nil, hy]
    rw [this, hh]; rfl

/-- 'len(m)'. -/
theorem MAPF.len {t e : TypeId} (h : MAPF P k w b F c) (ht : P.underlying t = some (.map k e)) (ty : TypeId) : (Builtin.len_ #[t] ty #[.map (some b)]).run P w = .ok (.int .i64 c) w := by
  obtain ⟨D, h, hc, _⟩ := h
  rw [h.len ht ty, hc]

theorem viewM_put {D : DataW Value} (hD : Maps.IsMap D) {kl : Lit} (hk : WideAt.IsKeyLit kl) (v : Value) (x : Lit) : viewM (D.put kl (.held v)) x = updF (viewM D) kl (some v) x := by
  unfold updF
  by_cases e : x = kl
  · subst e
    unfold viewM
    rw [if_pos rfl, if_pos (Maps.has_put_same hD hk _), Maps.atKey_put_same hD hk]
  · rw [if_neg e]
    unfold viewM
    rw [Maps.has_put_other e, Maps.atKey_put_other e]

theorem viewM_del {D : DataW Value} {kl : Lit} (x : Lit) : viewM (D.del kl) x = updF (viewM D) kl none x := by
  unfold updF
  by_cases e : x = kl
  · subst e
    rw [if_pos rfl]
    exact view_none Maps.has_del_same
  · rw [if_neg e]
    unfold viewM
    rw [Maps.has_del_other e, Maps.atKey_del_other e]

/-- 'm[k] = v'. -/
theorem MAPF.store {t e : TypeId} (h : MAPF P k w b F c) (K : Keyed P k) (ht : P.underlying t = some (.map k e)) {z : Value} (hz : ∀ w, (zeroValue e).run P w = .ok z w) (hn : c < maxLen) {key : Value} {kl : Lit} (hkey : keyOf P k key = some kl) (v : Value) :
    ∃ w', (Instr.mapUpdate t (.map (some b)) key v).run P w = .ok () w' ∧ MAPF P k w' b (updF F kl (some v)) (if (F kl).isSome = true then c else c + 1) ∧ w.grownBy w' (some b) := by
  obtain ⟨D, h, hc, hv⟩ := h
  obtain ⟨w', h1, h2, h3⟩ := h.store (d := .held v) (ps := []) K ht hn hkey rfl
  have hs := Maps.size_put (k := kl) (h.tidy K) (DataW.held v)
  rw [MAPF.has_iff K h hkey ht hz, hv, hc] at hs
  have h2' := tight h2
  rw [hs] at h2'
  refine ⟨w', h1, ⟨_, h2', hs, fun x => ?_⟩, h3.grown⟩
  rw [viewM_put h.isMap (K.key hkey)]
  unfold updF
  rw [hv]

/-- 'delete(m, k)'. -/
theorem MAPF.drop {t e : TypeId} (h : MAPF P k w b F c) (K : Keyed P k) (ht : P.underlying t = some (.map k e)) {z : Value} (hz : ∀ w, (zeroValue e).run P w = .ok z w) {key : Value} {kl : Lit} (hkey : keyOf P k key = some kl) (ty : TypeId) :
    ∃ w', (Builtin.delete_ #[t, k] ty #[.map (some b), key]).run P w = .ok (.tuple #[]) w' ∧ MAPF P k w' b (updF F kl none) (if (F kl).isSome = true then c - 1 else c) ∧ w.grownBy w' (some b) := by
  obtain ⟨D, h, hc, hv⟩ := h
  obtain ⟨w', h1, h2, h3⟩ := h.drop K ht hkey ty
  have hs := Maps.size_del (k := kl) (h.tidy K)
  rw [MAPF.has_iff K h hkey ht hz, hv, hc] at hs
  have hs' : Maps.size (D.del kl) = if (F kl).isSome = true then c - 1 else c := by
    cases hb : (F kl).isSome <;> rw [hb] at hs <;> simp at hs ⊢ <;> omega
  have h2' := tight h2
  rw [hs'] at h2'
  refine ⟨w', h1, ⟨_, h2', hs', fun x => ?_⟩, h3.grown⟩
  rw [viewM_del]
  unfold updF
  rw [hv]
end

/-! ### at the operation -/
section
variable {P : Program} {w : World} {ops : Array Oper} {rest : List Oper} {o : Oper} {a : Act} {K : Act → World → Prop} {Q : Exit → Act → World → Prop}

theorem step_delete {E : Prop} (hgd : o.guard = none) (m x : Operand) (t k : TypeId) (ho : o.op = Op.call { callee := Callee.builtin Builtin.delete, args := #[m, x], argTypes := #[t, k] })
    (b : Nat) (key : Value) (hm : a.eval m = .map (some b)) (hx : a.eval x = key) (w' : World) (hrun : (Builtin.delete_ #[t, k] o.type #[.map (some b), key]).run P w = .ok (.tuple #[]) w')
    (h : K (a.put o.dst (.tuple #[])) w') :
    if Region.wanted o (yielded ops a.tmps) = true then Oper.wp P o a w K Q else E := by
  have hw : Region.wanted o (yielded ops a.tmps) = true := by simp [Region.wanted, hgd]
  rw [if_pos hw]
  unfold Oper.wp execOp
  simp only [ho, resolve, invoke, builtin, Sem.run_bind, Sem.run_pure, Result.andThen_ok, List.map_toArray, List.map_cons, List.map_nil, hm, hx, hrun]
  exact h

theorem wpList_len_F (hgd : o.guard = none) (m : Operand) (t : TypeId) (ho : o.op = Op.call { callee := Callee.builtin Builtin.len, args := #[m], argTypes := #[t] })
    (b c : Nat) (hm : a.eval m = .map (some b)) (hrun : ∀ ty, (Builtin.len_ #[t] ty #[.map (some b)]).run P w = .ok (.int .i64 c) w)
    (h : wpList P ops Q rest (a.put o.dst (.int .i64 c)) w) : wpList P ops Q (o :: rest) a w := by
  refine wpList_plain hgd fun K' hK' => ?_
  unfold Oper.wp execOp
  simp only [ho, resolve, invoke, builtin, Sem.run_bind, Sem.run_pure, Result.andThen_ok, List.map_toArray, List.map_cons, List.map_nil, hm, hrun]
  exact hK' _ _ h
end
end Go.Proofs.Ytehjekcfhmmggaa

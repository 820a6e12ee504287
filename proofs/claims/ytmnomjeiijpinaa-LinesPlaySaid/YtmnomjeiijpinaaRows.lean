/-
  No cell of these rows narrows 'for every input' (looked for: loops, veiled, ifaces, maps, wideKeys, modest, calm, conditions, laid).
  DERIVED. THE GIVEN ROWS OF THIS SEAT. 5 by the template 'for every input the law returns true; each argument reads behind the call as it read before'; 0 by the template 'total and deterministic' (their statements: YtmnomjeiijpinaaTotals.lean).
  GIVEN WITH THE SEED: the statements are not yours to turn. If you find one false, say at which input.
  Laid BY PROGRAM, IN A SANDBOX (cutbox-rows.mjs): the forced cells as the released guide's own fill.sh prints them over the translation a67b405b2f8fc06f… (all of the seat's roots in one cut). By AI agents, Wed Nov 11 2026. No macro, syntax, notation, axiom, sorry.
-/
import Derived.Test.YtmnomjeiijpinaaChecked
import GoSem.Claim
import GoSem.ClaimJoined
import GoSem.ClaimMapViews
import Derived.JoinedTies
import Derived.KernelRfl
namespace Go.Proofs.Ytmnomjeiijpinaa
/- THE CELL 'sum', in the pinned program and in every row, IS THE sha256 OF THE DUMP (.gsa) THAT YtmnomjeiijpinaaProg.lean LOADS. Nothing in Lean hashes anything: it is a label: what it is worth is what the hold of that sum in a sandbox is worth. -/
noncomputable def Try.pinned : Pinned := { name := "ytmnomjeiijpinaa", sum := "a67b405b2f8fc06f7c15486cd52a4fe4ec4c979eb191b450d99564ee648697a4", checked := Try.checked }
namespace Rows
def none {H : Type} : Left H := { results := [], args := [] }

/-- 'palisadelaw10.LinesFull': WHATEVER THE INPUT: true; the input reads as it did. -/
def linesFullSpec : ChangeSpec := { name := "linesFull", fn := fun _ => fun
  | [d1, d2] => { results := [.lit (.bool true)], args := [d1, d2] }
  | _ => none }
def linesFullRow : OpenClaim := { program := "ytmnomjeiijpinaa", sum := "a67b405b2f8fc06f7c15486cd52a4fe4ec4c979eb191b450d99564ee648697a4", func := "palisade/palisadelaw10.LinesFull", spec := "linesFull", apart := false }
def LinesFullSaid : Prop := linesFullRow.holds Try.pinned (OpenSpec.ofChange linesFullSpec)

/-- ITS FALSE NEIGHBOUR: 'it returns false'. Refute it at one input. -/
def linesFullWrong : ChangeSpec := { name := "linesFull", fn := fun _ => fun
  | [d1, d2] => { results := [.lit (.bool false)], args := [d1, d2] }
  | _ => none }
def LinesFullWrongFalsely : Prop := linesFullRow.holds Try.pinned (OpenSpec.ofChange linesFullWrong)

/-- 'palisadelaw10.LinesNobody': WHATEVER THE INPUT: true; the input reads as it did. -/
def linesNobodySpec : ChangeSpec := { name := "linesNobody", fn := fun _ => fun
  | [d] => { results := [.lit (.bool true)], args := [d] }
  | _ => none }
def linesNobodyRow : OpenClaim := { program := "ytmnomjeiijpinaa", sum := "a67b405b2f8fc06f7c15486cd52a4fe4ec4c979eb191b450d99564ee648697a4", func := "palisade/palisadelaw10.LinesNobody", spec := "linesNobody", apart := false }
def LinesNobodySaid : Prop := linesNobodyRow.holds Try.pinned (OpenSpec.ofChange linesNobodySpec)

/-- ITS FALSE NEIGHBOUR: 'it returns false'. Refute it at one input. -/
def linesNobodyWrong : ChangeSpec := { name := "linesNobody", fn := fun _ => fun
  | [d] => { results := [.lit (.bool false)], args := [d] }
  | _ => none }
def LinesNobodyWrongFalsely : Prop := linesNobodyRow.holds Try.pinned (OpenSpec.ofChange linesNobodyWrong)

/-- 'palisadelaw10.LinesOrder': WHATEVER THE INPUT: true; the input reads as it did. -/
def linesOrderSpec : ChangeSpec := { name := "linesOrder", fn := fun _ => fun
  | [d1, d2, d3] => { results := [.lit (.bool true)], args := [d1, d2, d3] }
  | _ => none }
def linesOrderRow : OpenClaim := { program := "ytmnomjeiijpinaa", sum := "a67b405b2f8fc06f7c15486cd52a4fe4ec4c979eb191b450d99564ee648697a4", func := "palisade/palisadelaw10.LinesOrder", spec := "linesOrder", apart := false }
def LinesOrderSaid : Prop := linesOrderRow.holds Try.pinned (OpenSpec.ofChange linesOrderSpec)

/-- ITS FALSE NEIGHBOUR: 'it returns false'. Refute it at one input. -/
def linesOrderWrong : ChangeSpec := { name := "linesOrder", fn := fun _ => fun
  | [d1, d2, d3] => { results := [.lit (.bool false)], args := [d1, d2, d3] }
  | _ => none }
def LinesOrderWrongFalsely : Prop := linesOrderRow.holds Try.pinned (OpenSpec.ofChange linesOrderWrong)

/-- 'palisadelaw10.LinesPlay': WHATEVER THE INPUT: true; the input reads as it did. -/
def linesPlaySpec : ChangeSpec := { name := "linesPlay", fn := fun _ => fun
  | [d1, d2] => { results := [.lit (.bool true)], args := [d1, d2] }
  | _ => none }
def linesPlayRow : OpenClaim := { program := "ytmnomjeiijpinaa", sum := "a67b405b2f8fc06f7c15486cd52a4fe4ec4c979eb191b450d99564ee648697a4", func := "palisade/palisadelaw10.LinesPlay", spec := "linesPlay", apart := false }
def LinesPlaySaid : Prop := linesPlayRow.holds Try.pinned (OpenSpec.ofChange linesPlaySpec)

/-- ITS FALSE NEIGHBOUR: 'it returns false'. Refute it at one input. -/
def linesPlayWrong : ChangeSpec := { name := "linesPlay", fn := fun _ => fun
  | [d1, d2] => { results := [.lit (.bool false)], args := [d1, d2] }
  | _ => none }
def LinesPlayWrongFalsely : Prop := linesPlayRow.holds Try.pinned (OpenSpec.ofChange linesPlayWrong)

/-- 'palisadelaw10.LinesApart': WHATEVER THE INPUT: true; the input reads as it did. -/
def linesApartSpec : ChangeSpec := { name := "linesApart", fn := fun _ => fun
  | [d] => { results := [.lit (.bool true)], args := [d] }
  | _ => none }
def linesApartRow : OpenClaim := { program := "ytmnomjeiijpinaa", sum := "a67b405b2f8fc06f7c15486cd52a4fe4ec4c979eb191b450d99564ee648697a4", func := "palisade/palisadelaw10.LinesApart", spec := "linesApart", apart := false }
def LinesApartSaid : Prop := linesApartRow.holds Try.pinned (OpenSpec.ofChange linesApartSpec)

/-- ITS FALSE NEIGHBOUR: 'it returns false'. Refute it at one input. -/
def linesApartWrong : ChangeSpec := { name := "linesApart", fn := fun _ => fun
  | [d] => { results := [.lit (.bool false)], args := [d] }
  | _ => none }
def LinesApartWrongFalsely : Prop := linesApartRow.holds Try.pinned (OpenSpec.ofChange linesApartWrong)

/- THE SECOND FORM. 'bulk': how many values and letters a reading holds, each counted each time it is reached (what is shared counts as often as it is met; a slice's spare places count too). A statement '..UptoSaid' is the law's where the arguments, and the package variables that the reading takes, are together of bulk at most 1048576: NARROWER than '..Said'. Prove '..Said' where nothing that the law and all that it calls make is longer than what came in: it says more and counts as full. Else prove '..UptoSaid'. A law counts once. -/
mutual
def uptoBulk {H : Type} : DataW H → Nat
  | .lit (.string bytes) => bytes.length + 1
  | .lit _ => 1
  | .nil => 1
  | .ptr d => uptoBulk d + 1
  | .slice elems spare => uptoBulkAll elems + uptoBulkAll spare + 1
  | .agg parts => uptoBulkAll parts + 1
  | .iface _ d => uptoBulk d + 1
  | .map entries => uptoBulkEntries entries + 1
  | .held _ => 1
def uptoBulkAll {H : Type} : List (DataW H) → Nat
  | [] => 0
  | d :: r => uptoBulk d + uptoBulkAll r
def uptoBulkEntries {H : Type} : List (Lit × DataW H) → Nat
  | [] => 0
  | x :: r => uptoBulkEntry x + uptoBulkEntries r
def uptoBulkEntry {H : Type} : Lit × DataW H → Nat
  | (.string bytes, d) => bytes.length + uptoBulk d + 1
  | (_, d) => uptoBulk d + 1
 end
def uptoSmall : (H : Type) → List (DataW H) → Bool := fun _ ds => decide (uptoBulkAll ds ≤ 1048576)
def OpenSpec.upto (s : _root_.Go.ChangeSpec) : _root_.Go.OpenSpec := { _root_.Go.OpenSpec.ofChange s with cond := some uptoSmall }

/-- 'palisadelaw10.LinesFull', WHERE WHAT IT READS IS OF BULK AT MOST 1048576: true; the input reads as it did. -/
def linesFullUptoRow : OpenClaim := { program := "ytmnomjeiijpinaa", sum := "a67b405b2f8fc06f7c15486cd52a4fe4ec4c979eb191b450d99564ee648697a4", func := "palisade/palisadelaw10.LinesFull", spec := "linesFull", apart := false, narrowed := true }
def LinesFullUptoSaid : Prop := linesFullUptoRow.holds Try.pinned (OpenSpec.upto linesFullSpec)

/-- 'palisadelaw10.LinesNobody', WHERE WHAT IT READS IS OF BULK AT MOST 1048576: true; the input reads as it did. -/
def linesNobodyUptoRow : OpenClaim := { program := "ytmnomjeiijpinaa", sum := "a67b405b2f8fc06f7c15486cd52a4fe4ec4c979eb191b450d99564ee648697a4", func := "palisade/palisadelaw10.LinesNobody", spec := "linesNobody", apart := false, narrowed := true }
def LinesNobodyUptoSaid : Prop := linesNobodyUptoRow.holds Try.pinned (OpenSpec.upto linesNobodySpec)

/-- 'palisadelaw10.LinesOrder', WHERE WHAT IT READS IS OF BULK AT MOST 1048576: true; the input reads as it did. -/
def linesOrderUptoRow : OpenClaim := { program := "ytmnomjeiijpinaa", sum := "a67b405b2f8fc06f7c15486cd52a4fe4ec4c979eb191b450d99564ee648697a4", func := "palisade/palisadelaw10.LinesOrder", spec := "linesOrder", apart := false, narrowed := true }
def LinesOrderUptoSaid : Prop := linesOrderUptoRow.holds Try.pinned (OpenSpec.upto linesOrderSpec)

/-- 'palisadelaw10.LinesPlay', WHERE WHAT IT READS IS OF BULK AT MOST 1048576: true; the input reads as it did. -/
def linesPlayUptoRow : OpenClaim := { program := "ytmnomjeiijpinaa", sum := "a67b405b2f8fc06f7c15486cd52a4fe4ec4c979eb191b450d99564ee648697a4", func := "palisade/palisadelaw10.LinesPlay", spec := "linesPlay", apart := false, narrowed := true }
def LinesPlayUptoSaid : Prop := linesPlayUptoRow.holds Try.pinned (OpenSpec.upto linesPlaySpec)

/-- 'palisadelaw10.LinesApart', WHERE WHAT IT READS IS OF BULK AT MOST 1048576: true; the input reads as it did. -/
def linesApartUptoRow : OpenClaim := { program := "ytmnomjeiijpinaa", sum := "a67b405b2f8fc06f7c15486cd52a4fe4ec4c979eb191b450d99564ee648697a4", func := "palisade/palisadelaw10.LinesApart", spec := "linesApart", apart := false, narrowed := true }
def LinesApartUptoSaid : Prop := linesApartUptoRow.holds Try.pinned (OpenSpec.upto linesApartSpec)

end Rows
end Go.Proofs.Ytmnomjeiijpinaa

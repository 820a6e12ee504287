/-
  No cell of these rows narrows 'for every input' (looked for: loops, veiled, ifaces, maps, wideKeys, modest, calm, conditions, laid).
  DERIVED. THE GIVEN ROWS OF THIS SEAT. 5 by the template 'for every input the law returns true; each argument reads behind the call as it read before'; 0 by the template 'total and deterministic' (their statements: YtehjekcfhmmggaaTotals.lean).
  GIVEN WITH THE SEED: the statements are not yours to turn. If you find one false, say at which input.
  Laid BY PROGRAM, IN A SANDBOX (cutbox-rows.mjs): the forced cells as the released guide's own fill.sh prints them over the translation 75396c29d792572b… (all of the seat's roots in one cut). By AI agents, Wed Nov 11 2026. No macro, syntax, notation, axiom, sorry.
-/
import Derived.Test.YtehjekcfhmmggaaChecked
import GoSem.Claim
import GoSem.ClaimJoined
import GoSem.ClaimMapViews
import Derived.JoinedTies
import Derived.KernelRfl
namespace Go.Proofs.Ytehjekcfhmmggaa
/- THE CELL 'sum', in the pinned program and in every row, IS THE sha256 OF THE DUMP (.gsa) THAT YtehjekcfhmmggaaProg.lean LOADS. Nothing in Lean hashes anything: it is a label: what it is worth is what the hold of that sum in a sandbox is worth. -/
noncomputable def Try.pinned : Pinned := { name := "ytehjekcfhmmggaa", sum := "75396c29d792572bf72bc4499777f63c1dc33577901236fe7a837e28ea23a531", checked := Try.checked }
namespace Rows
def none {H : Type} : Left H := { results := [], args := [] }

/-- 'palisadelaw22.CreditShares': WHATEVER THE INPUT: true; the input reads as it did. -/
def creditSharesSpec : ChangeSpec := { name := "creditShares", fn := fun _ => fun
  | [d1, d2, d3] => { results := [.lit (.bool true)], args := [d1, d2, d3] }
  | _ => none }
def creditSharesRow : OpenClaim := { program := "ytehjekcfhmmggaa", sum := "75396c29d792572bf72bc4499777f63c1dc33577901236fe7a837e28ea23a531", func := "palisade/palisadelaw22.CreditShares", spec := "creditShares", apart := false }
def CreditSharesSaid : Prop := creditSharesRow.holds Try.pinned (OpenSpec.ofChange creditSharesSpec)

/-- ITS FALSE NEIGHBOUR: 'it returns false'. Refute it at one input. -/
def creditSharesWrong : ChangeSpec := { name := "creditShares", fn := fun _ => fun
  | [d1, d2, d3] => { results := [.lit (.bool false)], args := [d1, d2, d3] }
  | _ => none }
def CreditSharesWrongFalsely : Prop := creditSharesRow.holds Try.pinned (OpenSpec.ofChange creditSharesWrong)

/-- 'palisadelaw22.CreditNobody': WHATEVER THE INPUT: true; the input reads as it did. -/
def creditNobodySpec : ChangeSpec := { name := "creditNobody", fn := fun _ => fun
  | [d] => { results := [.lit (.bool true)], args := [d] }
  | _ => none }
def creditNobodyRow : OpenClaim := { program := "ytehjekcfhmmggaa", sum := "75396c29d792572bf72bc4499777f63c1dc33577901236fe7a837e28ea23a531", func := "palisade/palisadelaw22.CreditNobody", spec := "creditNobody", unfollowed := true, recurses := true, apart := false }
def CreditNobodySaid : Prop := creditNobodyRow.holds Try.pinned (OpenSpec.ofChange creditNobodySpec)

/-- ITS FALSE NEIGHBOUR: 'it returns false'. Refute it at one input. -/
def creditNobodyWrong : ChangeSpec := { name := "creditNobody", fn := fun _ => fun
  | [d] => { results := [.lit (.bool false)], args := [d] }
  | _ => none }
def CreditNobodyWrongFalsely : Prop := creditNobodyRow.holds Try.pinned (OpenSpec.ofChange creditNobodyWrong)

/-- 'palisadelaw22.CreditPlays': WHATEVER THE INPUT: true; the input reads as it did. -/
def creditPlaysSpec : ChangeSpec := { name := "creditPlays", fn := fun _ => fun
  | [d1, d2, d3] => { results := [.lit (.bool true)], args := [d1, d2, d3] }
  | _ => none }
def creditPlaysRow : OpenClaim := { program := "ytehjekcfhmmggaa", sum := "75396c29d792572bf72bc4499777f63c1dc33577901236fe7a837e28ea23a531", func := "palisade/palisadelaw22.CreditPlays", spec := "creditPlays", unfollowed := true, recurses := true, apart := false }
def CreditPlaysSaid : Prop := creditPlaysRow.holds Try.pinned (OpenSpec.ofChange creditPlaysSpec)

/-- ITS FALSE NEIGHBOUR: 'it returns false'. Refute it at one input. -/
def creditPlaysWrong : ChangeSpec := { name := "creditPlays", fn := fun _ => fun
  | [d1, d2, d3] => { results := [.lit (.bool false)], args := [d1, d2, d3] }
  | _ => none }
def CreditPlaysWrongFalsely : Prop := creditPlaysRow.holds Try.pinned (OpenSpec.ofChange creditPlaysWrong)

/-- 'palisadelaw22.CreditMoves': WHATEVER THE INPUT: true; the input reads as it did. -/
def creditMovesSpec : ChangeSpec := { name := "creditMoves", fn := fun _ => fun
  | [d1, d2, d3] => { results := [.lit (.bool true)], args := [d1, d2, d3] }
  | _ => none }
def creditMovesRow : OpenClaim := { program := "ytehjekcfhmmggaa", sum := "75396c29d792572bf72bc4499777f63c1dc33577901236fe7a837e28ea23a531", func := "palisade/palisadelaw22.CreditMoves", spec := "creditMoves", unfollowed := true, recurses := true, apart := false }
def CreditMovesSaid : Prop := creditMovesRow.holds Try.pinned (OpenSpec.ofChange creditMovesSpec)

/-- ITS FALSE NEIGHBOUR: 'it returns false'. Refute it at one input. -/
def creditMovesWrong : ChangeSpec := { name := "creditMoves", fn := fun _ => fun
  | [d1, d2, d3] => { results := [.lit (.bool false)], args := [d1, d2, d3] }
  | _ => none }
def CreditMovesWrongFalsely : Prop := creditMovesRow.holds Try.pinned (OpenSpec.ofChange creditMovesWrong)

/-- 'palisadelaw22.CreditOne': WHATEVER THE INPUT: true; the input reads as it did. -/
def creditOneSpec : ChangeSpec := { name := "creditOne", fn := fun _ => fun
  | [d1, d2] => { results := [.lit (.bool true)], args := [d1, d2] }
  | _ => none }
def creditOneRow : OpenClaim := { program := "ytehjekcfhmmggaa", sum := "75396c29d792572bf72bc4499777f63c1dc33577901236fe7a837e28ea23a531", func := "palisade/palisadelaw22.CreditOne", spec := "creditOne", unfollowed := true, recurses := true, apart := false }
def CreditOneSaid : Prop := creditOneRow.holds Try.pinned (OpenSpec.ofChange creditOneSpec)

/-- ITS FALSE NEIGHBOUR: 'it returns false'. Refute it at one input. -/
def creditOneWrong : ChangeSpec := { name := "creditOne", fn := fun _ => fun
  | [d1, d2] => { results := [.lit (.bool false)], args := [d1, d2] }
  | _ => none }
def CreditOneWrongFalsely : Prop := creditOneRow.holds Try.pinned (OpenSpec.ofChange creditOneWrong)

/- THE SECOND FORM. 'bulk': how many values and letters a reading holds, each counted each time it is reached (what is shared counts as often as it is met; a slice's spare places count too). A statement '..UptoSaid' is the law's where the arguments, and the package variables that the reading takes, are together of bulk at most 1048576: NARROWER than '..Said'. Prove '..Said' where nothing that the law and all that it calls make is longer than what came in: it says more and counts as full. Else prove '..UptoSaid'. A law counts once. -/
mutual
def uptoBulk {H : Type} : DataW H → Nat
  | .lit (.string bytes) => bytes.length + 1
  | .lit _ => 1
  | .nil => 1
  | .ptr d => uptoBulk d + 1
  | .slice elems spare => uptoBulkAll elems + uptoBulkAll spare + 1
  | .agg parts => uptoBulkAll parts + 1
  | .iface _ d => uptoBulk d + 1
  | .map entries => uptoBulkEntries entries + 1
  | .held _ => 1
def uptoBulkAll {H : Type} : List (DataW H) → Nat
  | [] => 0
  | d :: r => uptoBulk d + uptoBulkAll r
def uptoBulkEntries {H : Type} : List (Lit × DataW H) → Nat
  | [] => 0
  | x :: r => uptoBulkEntry x + uptoBulkEntries r
def uptoBulkEntry {H : Type} : Lit × DataW H → Nat
  | (.string bytes, d) => bytes.length + uptoBulk d + 1
  | (_, d) => uptoBulk d + 1
 end
def uptoSmall : (H : Type) → List (DataW H) → Bool := fun _ ds => decide (uptoBulkAll ds ≤ 1048576)
def OpenSpec.upto (s : _root_.Go.ChangeSpec) : _root_.Go.OpenSpec := { _root_.Go.OpenSpec.ofChange s with cond := some uptoSmall }

/-- 'palisadelaw22.CreditShares', WHERE WHAT IT READS IS OF BULK AT MOST 1048576: true; the input reads as it did. -/
def creditSharesUptoRow : OpenClaim := { program := "ytehjekcfhmmggaa", sum := "75396c29d792572bf72bc4499777f63c1dc33577901236fe7a837e28ea23a531", func := "palisade/palisadelaw22.CreditShares", spec := "creditShares", apart := false, narrowed := true }
def CreditSharesUptoSaid : Prop := creditSharesUptoRow.holds Try.pinned (OpenSpec.upto creditSharesSpec)

/-- 'palisadelaw22.CreditNobody', WHERE WHAT IT READS IS OF BULK AT MOST 1048576: true; the input reads as it did. -/
def creditNobodyUptoRow : OpenClaim := { program := "ytehjekcfhmmggaa", sum := "75396c29d792572bf72bc4499777f63c1dc33577901236fe7a837e28ea23a531", func := "palisade/palisadelaw22.CreditNobody", spec := "creditNobody", unfollowed := true, recurses := true, apart := false, narrowed := true }
def CreditNobodyUptoSaid : Prop := creditNobodyUptoRow.holds Try.pinned (OpenSpec.upto creditNobodySpec)

/-- 'palisadelaw22.CreditPlays', WHERE WHAT IT READS IS OF BULK AT MOST 1048576: true; the input reads as it did. -/
def creditPlaysUptoRow : OpenClaim := { program := "ytehjekcfhmmggaa", sum := "75396c29d792572bf72bc4499777f63c1dc33577901236fe7a837e28ea23a531", func := "palisade/palisadelaw22.CreditPlays", spec := "creditPlays", unfollowed := true, recurses := true, apart := false, narrowed := true }
def CreditPlaysUptoSaid : Prop := creditPlaysUptoRow.holds Try.pinned (OpenSpec.upto creditPlaysSpec)

/-- 'palisadelaw22.CreditMoves', WHERE WHAT IT READS IS OF BULK AT MOST 1048576: true; the input reads as it did. -/
def creditMovesUptoRow : OpenClaim := { program := "ytehjekcfhmmggaa", sum := "75396c29d792572bf72bc4499777f63c1dc33577901236fe7a837e28ea23a531", func := "palisade/palisadelaw22.CreditMoves", spec := "creditMoves", unfollowed := true, recurses := true, apart := false, narrowed := true }
def CreditMovesUptoSaid : Prop := creditMovesUptoRow.holds Try.pinned (OpenSpec.upto creditMovesSpec)

/-- 'palisadelaw22.CreditOne', WHERE WHAT IT READS IS OF BULK AT MOST 1048576: true; the input reads as it did. -/
def creditOneUptoRow : OpenClaim := { program := "ytehjekcfhmmggaa", sum := "75396c29d792572bf72bc4499777f63c1dc33577901236fe7a837e28ea23a531", func := "palisade/palisadelaw22.CreditOne", spec := "creditOne", unfollowed := true, recurses := true, apart := false, narrowed := true }
def CreditOneUptoSaid : Prop := creditOneUptoRow.holds Try.pinned (OpenSpec.upto creditOneSpec)

end Rows
end Go.Proofs.Ytehjekcfhmmggaa

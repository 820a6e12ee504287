/-
  No cell of these rows narrows 'for every input' (looked for: loops, veiled, ifaces, maps, wideKeys, modest, calm, conditions, laid).
  DERIVED. THE GIVEN ROWS OF THIS SEAT. 4 by the template 'for every input the law returns true; each argument reads behind the call as it read before'; 0 by the template 'total and deterministic' (their statements: YtelbbfogeimekaaTotals.lean).
  GIVEN WITH THE SEED: the statements are not yours to turn. If you find one false, say at which input.
  Laid BY PROGRAM, IN A SANDBOX (cutbox-rows.mjs): the forced cells as the released guide's own fill.sh prints them over the translation 3d61a93589bee61e… (all of the seat's roots in one cut). By AI agents, Wed Nov 11 2026. No macro, syntax, notation, axiom, sorry.
-/
import Derived.Test.YtelbbfogeimekaaChecked
import GoSem.Claim
import GoSem.ClaimJoined
import GoSem.ClaimMapViews
import Derived.JoinedTies
import Derived.KernelRfl
namespace Go.Proofs.Ytelbbfogeimekaa
/- THE CELL 'sum', in the pinned program and in every row, IS THE sha256 OF THE DUMP (.gsa) THAT YtelbbfogeimekaaProg.lean LOADS. Nothing in Lean hashes anything: it is a label: what it is worth is what the hold of that sum in a sandbox is worth. -/
noncomputable def Try.pinned : Pinned := { name := "ytelbbfogeimekaa", sum := "3d61a93589bee61e4a8eeef0914a653e223283344cc058efa59123efb11e9d1c", checked := Try.checked }
namespace Rows
def none {H : Type} : Left H := { results := [], args := [] }

/-- 'palisadelaw07.CacheNobody': WHATEVER THE INPUT: true; the input reads as it did. -/
def cacheNobodySpec : ChangeSpec := { name := "cacheNobody", fn := fun _ => fun
  | [d] => { results := [.lit (.bool true)], args := [d] }
  | _ => none }
def cacheNobodyRow : OpenClaim := { program := "ytelbbfogeimekaa", sum := "3d61a93589bee61e4a8eeef0914a653e223283344cc058efa59123efb11e9d1c", func := "palisade/palisadelaw07.CacheNobody", spec := "cacheNobody", plainKeys := false, apart := false }
def CacheNobodySaid : Prop := cacheNobodyRow.holds Try.pinned (OpenSpec.ofChange cacheNobodySpec)

/-- ITS FALSE NEIGHBOUR: 'it returns false'. Refute it at one input. -/
def cacheNobodyWrong : ChangeSpec := { name := "cacheNobody", fn := fun _ => fun
  | [d] => { results := [.lit (.bool false)], args := [d] }
  | _ => none }
def CacheNobodyWrongFalsely : Prop := cacheNobodyRow.holds Try.pinned (OpenSpec.ofChange cacheNobodyWrong)

/-- 'palisadelaw07.CachePlays': WHATEVER THE INPUT: true; the input reads as it did. -/
def cachePlaysSpec : ChangeSpec := { name := "cachePlays", fn := fun _ => fun
  | [d1, d2] => { results := [.lit (.bool true)], args := [d1, d2] }
  | _ => none }
def cachePlaysRow : OpenClaim := { program := "ytelbbfogeimekaa", sum := "3d61a93589bee61e4a8eeef0914a653e223283344cc058efa59123efb11e9d1c", func := "palisade/palisadelaw07.CachePlays", spec := "cachePlays", plainKeys := false, apart := false }
def CachePlaysSaid : Prop := cachePlaysRow.holds Try.pinned (OpenSpec.ofChange cachePlaysSpec)

/-- ITS FALSE NEIGHBOUR: 'it returns false'. Refute it at one input. -/
def cachePlaysWrong : ChangeSpec := { name := "cachePlays", fn := fun _ => fun
  | [d1, d2] => { results := [.lit (.bool false)], args := [d1, d2] }
  | _ => none }
def CachePlaysWrongFalsely : Prop := cachePlaysRow.holds Try.pinned (OpenSpec.ofChange cachePlaysWrong)

/-- 'palisadelaw07.CacheNewest': WHATEVER THE INPUT: true; the input reads as it did. -/
def cacheNewestSpec : ChangeSpec := { name := "cacheNewest", fn := fun _ => fun
  | [d1, d2] => { results := [.lit (.bool true)], args := [d1, d2] }
  | _ => none }
def cacheNewestRow : OpenClaim := { program := "ytelbbfogeimekaa", sum := "3d61a93589bee61e4a8eeef0914a653e223283344cc058efa59123efb11e9d1c", func := "palisade/palisadelaw07.CacheNewest", spec := "cacheNewest", plainKeys := false, apart := false }
def CacheNewestSaid : Prop := cacheNewestRow.holds Try.pinned (OpenSpec.ofChange cacheNewestSpec)

/-- ITS FALSE NEIGHBOUR: 'it returns false'. Refute it at one input. -/
def cacheNewestWrong : ChangeSpec := { name := "cacheNewest", fn := fun _ => fun
  | [d1, d2] => { results := [.lit (.bool false)], args := [d1, d2] }
  | _ => none }
def CacheNewestWrongFalsely : Prop := cacheNewestRow.holds Try.pinned (OpenSpec.ofChange cacheNewestWrong)

/-- 'palisadelaw07.CacheGroups': WHATEVER THE INPUT: true; the input reads as it did. -/
def cacheGroupsSpec : ChangeSpec := { name := "cacheGroups", fn := fun _ => fun
  | [d1, d2, d3] => { results := [.lit (.bool true)], args := [d1, d2, d3] }
  | _ => none }
def cacheGroupsRow : OpenClaim := { program := "ytelbbfogeimekaa", sum := "3d61a93589bee61e4a8eeef0914a653e223283344cc058efa59123efb11e9d1c", func := "palisade/palisadelaw07.CacheGroups", spec := "cacheGroups", plainKeys := false, apart := false }
def CacheGroupsSaid : Prop := cacheGroupsRow.holds Try.pinned (OpenSpec.ofChange cacheGroupsSpec)

/-- ITS FALSE NEIGHBOUR: 'it returns false'. Refute it at one input. -/
def cacheGroupsWrong : ChangeSpec := { name := "cacheGroups", fn := fun _ => fun
  | [d1, d2, d3] => { results := [.lit (.bool false)], args := [d1, d2, d3] }
  | _ => none }
def CacheGroupsWrongFalsely : Prop := cacheGroupsRow.holds Try.pinned (OpenSpec.ofChange cacheGroupsWrong)

/- THE SECOND FORM. 'bulk': how many values and letters a reading holds, each counted each time it is reached (what is shared counts as often as it is met; a slice's spare places count too). A statement '..UptoSaid' is the law's where the arguments, and the package variables that the reading takes, are together of bulk at most 1048576: NARROWER than '..Said'. Prove '..Said' where nothing that the law and all that it calls make is longer than what came in: it says more and counts as full. Else prove '..UptoSaid'. A law counts once. -/
mutual
def uptoBulk {H : Type} : DataW H → Nat
  | .lit (.string bytes) => bytes.length + 1
  | .lit _ => 1
  | .nil => 1
  | .ptr d => uptoBulk d + 1
  | .slice elems spare => uptoBulkAll elems + uptoBulkAll spare + 1
  | .agg parts => uptoBulkAll parts + 1
  | .iface _ d => uptoBulk d + 1
  | .map entries => uptoBulkEntries entries + 1
  | .held _ => 1
def uptoBulkAll {H : Type} : List (DataW H) → Nat
  | [] => 0
  | d :: r => uptoBulk d + uptoBulkAll r
def uptoBulkEntries {H : Type} : List (Lit × DataW H) → Nat
  | [] => 0
  | x :: r => uptoBulkEntry x + uptoBulkEntries r
def uptoBulkEntry {H : Type} : Lit × DataW H → Nat
  | (.string bytes, d) => bytes.length + uptoBulk d + 1
  | (_, d) => uptoBulk d + 1
 end
def uptoSmall : (H : Type) → List (DataW H) → Bool := fun _ ds => decide (uptoBulkAll ds ≤ 1048576)
def OpenSpec.upto (s : _root_.Go.ChangeSpec) : _root_.Go.OpenSpec := { _root_.Go.OpenSpec.ofChange s with cond := some uptoSmall }

/-- 'palisadelaw07.CacheNobody', WHERE WHAT IT READS IS OF BULK AT MOST 1048576: true; the input reads as it did. -/
def cacheNobodyUptoRow : OpenClaim := { program := "ytelbbfogeimekaa", sum := "3d61a93589bee61e4a8eeef0914a653e223283344cc058efa59123efb11e9d1c", func := "palisade/palisadelaw07.CacheNobody", spec := "cacheNobody", plainKeys := false, apart := false, narrowed := true }
def CacheNobodyUptoSaid : Prop := cacheNobodyUptoRow.holds Try.pinned (OpenSpec.upto cacheNobodySpec)

/-- 'palisadelaw07.CachePlays', WHERE WHAT IT READS IS OF BULK AT MOST 1048576: true; the input reads as it did. -/
def cachePlaysUptoRow : OpenClaim := { program := "ytelbbfogeimekaa", sum := "3d61a93589bee61e4a8eeef0914a653e223283344cc058efa59123efb11e9d1c", func := "palisade/palisadelaw07.CachePlays", spec := "cachePlays", plainKeys := false, apart := false, narrowed := true }
def CachePlaysUptoSaid : Prop := cachePlaysUptoRow.holds Try.pinned (OpenSpec.upto cachePlaysSpec)

/-- 'palisadelaw07.CacheNewest', WHERE WHAT IT READS IS OF BULK AT MOST 1048576: true; the input reads as it did. -/
def cacheNewestUptoRow : OpenClaim := { program := "ytelbbfogeimekaa", sum := "3d61a93589bee61e4a8eeef0914a653e223283344cc058efa59123efb11e9d1c", func := "palisade/palisadelaw07.CacheNewest", spec := "cacheNewest", plainKeys := false, apart := false, narrowed := true }
def CacheNewestUptoSaid : Prop := cacheNewestUptoRow.holds Try.pinned (OpenSpec.upto cacheNewestSpec)

/-- 'palisadelaw07.CacheGroups', WHERE WHAT IT READS IS OF BULK AT MOST 1048576: true; the input reads as it did. -/
def cacheGroupsUptoRow : OpenClaim := { program := "ytelbbfogeimekaa", sum := "3d61a93589bee61e4a8eeef0914a653e223283344cc058efa59123efb11e9d1c", func := "palisade/palisadelaw07.CacheGroups", spec := "cacheGroups", plainKeys := false, apart := false, narrowed := true }
def CacheGroupsUptoSaid : Prop := cacheGroupsUptoRow.holds Try.pinned (OpenSpec.upto cacheGroupsSpec)

end Rows
end Go.Proofs.Ytelbbfogeimekaa

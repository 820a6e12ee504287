/-
  No cell of these rows narrows 'for every input' (looked for: loops, veiled, ifaces, maps, wideKeys, modest, calm, conditions, laid).
  DERIVED. THE GIVEN ROWS OF THIS SEAT. 4 by the template 'for every input the law returns true; each argument reads behind the call as it read before'; 0 by the template 'total and deterministic' (their statements: YtmlmmcfalglbhaaTotals.lean).
  GIVEN WITH THE SEED: the statements are not yours to turn. If you find one false, say at which input.
  Laid BY PROGRAM, IN A SANDBOX (cutbox-rows.mjs): the forced cells as the released guide's own fill.sh prints them over the translation 0d1cc11fb461414d… (all of the seat's roots in one cut). By AI agents, Wed Nov 11 2026. No macro, syntax, notation, axiom, sorry.
-/
import Derived.Test.YtmlmmcfalglbhaaChecked
import GoSem.Claim
import GoSem.ClaimJoined
import GoSem.ClaimMapViews
import Derived.JoinedTies
import Derived.KernelRfl
namespace Go.Proofs.Ytmlmmcfalglbhaa
/- THE CELL 'sum', in the pinned program and in every row, IS THE sha256 OF THE DUMP (.gsa) THAT YtmlmmcfalglbhaaProg.lean LOADS. Nothing in Lean hashes anything: it is a label: what it is worth is what the hold of that sum in a sandbox is worth. -/
noncomputable def Try.pinned : Pinned := { name := "ytmlmmcfalglbhaa", sum := "0d1cc11fb461414d846f38a07d742e9eb65b5e06c54785312f1ec69961a9fed3", checked := Try.checked }
namespace Rows
def none {H : Type} : Left H := { results := [], args := [] }

/-- 'palisadelaw14.ConsoleBack': WHATEVER THE INPUT: true; the input reads as it did. -/
def consoleBackSpec : ChangeSpec := { name := "consoleBack", fn := fun _ => fun
  | [d1, d2] => { results := [.lit (.bool true)], args := [d1, d2] }
  | _ => none }
def consoleBackRow : OpenClaim := { program := "ytmlmmcfalglbhaa", sum := "0d1cc11fb461414d846f38a07d742e9eb65b5e06c54785312f1ec69961a9fed3", func := "palisade/palisadelaw14.ConsoleBack", spec := "consoleBack", apart := false }
def ConsoleBackSaid : Prop := consoleBackRow.holds Try.pinned (OpenSpec.ofChange consoleBackSpec)

/-- ITS FALSE NEIGHBOUR: 'it returns false'. Refute it at one input. -/
def consoleBackWrong : ChangeSpec := { name := "consoleBack", fn := fun _ => fun
  | [d1, d2] => { results := [.lit (.bool false)], args := [d1, d2] }
  | _ => none }
def ConsoleBackWrongFalsely : Prop := consoleBackRow.holds Try.pinned (OpenSpec.ofChange consoleBackWrong)

/-- 'palisadelaw14.ConsoleRoom': WHATEVER THE INPUT: true; the input reads as it did. -/
def consoleRoomSpec : ChangeSpec := { name := "consoleRoom", fn := fun _ => fun
  | [d1, d2] => { results := [.lit (.bool true)], args := [d1, d2] }
  | _ => none }
def consoleRoomRow : OpenClaim := { program := "ytmlmmcfalglbhaa", sum := "0d1cc11fb461414d846f38a07d742e9eb65b5e06c54785312f1ec69961a9fed3", func := "palisade/palisadelaw14.ConsoleRoom", spec := "consoleRoom", apart := false }
def ConsoleRoomSaid : Prop := consoleRoomRow.holds Try.pinned (OpenSpec.ofChange consoleRoomSpec)

/-- ITS FALSE NEIGHBOUR: 'it returns false'. Refute it at one input. -/
def consoleRoomWrong : ChangeSpec := { name := "consoleRoom", fn := fun _ => fun
  | [d1, d2] => { results := [.lit (.bool false)], args := [d1, d2] }
  | _ => none }
def ConsoleRoomWrongFalsely : Prop := consoleRoomRow.holds Try.pinned (OpenSpec.ofChange consoleRoomWrong)

/-- 'palisadelaw14.ConsoleNobody': WHATEVER THE INPUT: true; the input reads as it did. -/
def consoleNobodySpec : ChangeSpec := { name := "consoleNobody", fn := fun _ => fun
  | [d] => { results := [.lit (.bool true)], args := [d] }
  | _ => none }
def consoleNobodyRow : OpenClaim := { program := "ytmlmmcfalglbhaa", sum := "0d1cc11fb461414d846f38a07d742e9eb65b5e06c54785312f1ec69961a9fed3", func := "palisade/palisadelaw14.ConsoleNobody", spec := "consoleNobody", apart := false }
def ConsoleNobodySaid : Prop := consoleNobodyRow.holds Try.pinned (OpenSpec.ofChange consoleNobodySpec)

/-- ITS FALSE NEIGHBOUR: 'it returns false'. Refute it at one input. -/
def consoleNobodyWrong : ChangeSpec := { name := "consoleNobody", fn := fun _ => fun
  | [d] => { results := [.lit (.bool false)], args := [d] }
  | _ => none }
def ConsoleNobodyWrongFalsely : Prop := consoleNobodyRow.holds Try.pinned (OpenSpec.ofChange consoleNobodyWrong)

/-- 'palisadelaw14.ConsolePlays': WHATEVER THE INPUT: true; the input reads as it did. -/
def consolePlaysSpec : ChangeSpec := { name := "consolePlays", fn := fun _ => fun
  | [d] => { results := [.lit (.bool true)], args := [d] }
  | _ => none }
def consolePlaysRow : OpenClaim := { program := "ytmlmmcfalglbhaa", sum := "0d1cc11fb461414d846f38a07d742e9eb65b5e06c54785312f1ec69961a9fed3", func := "palisade/palisadelaw14.ConsolePlays", spec := "consolePlays", apart := false }
def ConsolePlaysSaid : Prop := consolePlaysRow.holds Try.pinned (OpenSpec.ofChange consolePlaysSpec)

/-- ITS FALSE NEIGHBOUR: 'it returns false'. Refute it at one input. -/
def consolePlaysWrong : ChangeSpec := { name := "consolePlays", fn := fun _ => fun
  | [d] => { results := [.lit (.bool false)], args := [d] }
  | _ => none }
def ConsolePlaysWrongFalsely : Prop := consolePlaysRow.holds Try.pinned (OpenSpec.ofChange consolePlaysWrong)

/- THE SECOND FORM. 'bulk': how many values and letters a reading holds, each counted each time it is reached (what is shared counts as often as it is met; a slice's spare places count too). A statement '..UptoSaid' is the law's where the arguments, and the package variables that the reading takes, are together of bulk at most 1048576: NARROWER than '..Said'. Prove '..Said' where nothing that the law and all that it calls make is longer than what came in: it says more and counts as full. Else prove '..UptoSaid'. A law counts once. -/
mutual
def uptoBulk {H : Type} : DataW H → Nat
  | .lit (.string bytes) => bytes.length + 1
  | .lit _ => 1
  | .nil => 1
  | .ptr d => uptoBulk d + 1
  | .slice elems spare => uptoBulkAll elems + uptoBulkAll spare + 1
  | .agg parts => uptoBulkAll parts + 1
  | .iface _ d => uptoBulk d + 1
  | .map entries => uptoBulkEntries entries + 1
  | .held _ => 1
def uptoBulkAll {H : Type} : List (DataW H) → Nat
  | [] => 0
  | d :: r => uptoBulk d + uptoBulkAll r
def uptoBulkEntries {H : Type} : List (Lit × DataW H) → Nat
  | [] => 0
  | x :: r => uptoBulkEntry x + uptoBulkEntries r
def uptoBulkEntry {H : Type} : Lit × DataW H → Nat
  | (.string bytes, d) => bytes.length + uptoBulk d + 1
  | (_, d) => uptoBulk d + 1
 end
def uptoSmall : (H : Type) → List (DataW H) → Bool := fun _ ds => decide (uptoBulkAll ds ≤ 1048576)
def OpenSpec.upto (s : _root_.Go.ChangeSpec) : _root_.Go.OpenSpec := { _root_.Go.OpenSpec.ofChange s with cond := some uptoSmall }

/-- 'palisadelaw14.ConsoleBack', WHERE WHAT IT READS IS OF BULK AT MOST 1048576: true; the input reads as it did. -/
def consoleBackUptoRow : OpenClaim := { program := "ytmlmmcfalglbhaa", sum := "0d1cc11fb461414d846f38a07d742e9eb65b5e06c54785312f1ec69961a9fed3", func := "palisade/palisadelaw14.ConsoleBack", spec := "consoleBack", apart := false, narrowed := true }
def ConsoleBackUptoSaid : Prop := consoleBackUptoRow.holds Try.pinned (OpenSpec.upto consoleBackSpec)

/-- 'palisadelaw14.ConsoleRoom', WHERE WHAT IT READS IS OF BULK AT MOST 1048576: true; the input reads as it did. -/
def consoleRoomUptoRow : OpenClaim := { program := "ytmlmmcfalglbhaa", sum := "0d1cc11fb461414d846f38a07d742e9eb65b5e06c54785312f1ec69961a9fed3", func := "palisade/palisadelaw14.ConsoleRoom", spec := "consoleRoom", apart := false, narrowed := true }
def ConsoleRoomUptoSaid : Prop := consoleRoomUptoRow.holds Try.pinned (OpenSpec.upto consoleRoomSpec)

/-- 'palisadelaw14.ConsoleNobody', WHERE WHAT IT READS IS OF BULK AT MOST 1048576: true; the input reads as it did. -/
def consoleNobodyUptoRow : OpenClaim := { program := "ytmlmmcfalglbhaa", sum := "0d1cc11fb461414d846f38a07d742e9eb65b5e06c54785312f1ec69961a9fed3", func := "palisade/palisadelaw14.ConsoleNobody", spec := "consoleNobody", apart := false, narrowed := true }
def ConsoleNobodyUptoSaid : Prop := consoleNobodyUptoRow.holds Try.pinned (OpenSpec.upto consoleNobodySpec)

/-- 'palisadelaw14.ConsolePlays', WHERE WHAT IT READS IS OF BULK AT MOST 1048576: true; the input reads as it did. -/
def consolePlaysUptoRow : OpenClaim := { program := "ytmlmmcfalglbhaa", sum := "0d1cc11fb461414d846f38a07d742e9eb65b5e06c54785312f1ec69961a9fed3", func := "palisade/palisadelaw14.ConsolePlays", spec := "consolePlays", apart := false, narrowed := true }
def ConsolePlaysUptoSaid : Prop := consolePlaysUptoRow.holds Try.pinned (OpenSpec.upto consolePlaysSpec)

end Rows
end Go.Proofs.Ytmlmmcfalglbhaa

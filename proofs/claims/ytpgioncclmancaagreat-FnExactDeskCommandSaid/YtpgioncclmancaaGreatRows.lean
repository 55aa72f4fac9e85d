/-
  No cell of these rows narrows 'for every input' (looked for: loops, veiled, ifaces, maps, wideKeys, modest, calm, conditions, laid).
  DERIVED. THE GIVEN ROWS OF THIS SEAT. 3 by the template 'for every input the law returns true; each argument reads behind the call as it read before'; 0 by the template 'total and deterministic' (their statements: YtpgioncclmancaaGreatTotals.lean).
  GIVEN WITH THE SEED: the statements are not yours to turn. If you find one false, say at which input.
  Laid BY PROGRAM, IN A SANDBOX (cutbox-rows.mjs): the forced cells as the released guide's own fill.sh prints them over the translation 527253998b0059a6… (all of the seat's roots in one cut). By AI agents, Wed Nov 11 2026. No macro, syntax, notation, axiom, sorry.
-/
import Derived.Test.YtpgioncclmancaaGreatChecked
import GoSem.Claim
import GoSem.ClaimJoined
import GoSem.ClaimMapViews
import Derived.JoinedTies
import Derived.KernelRfl
namespace Go.Proofs.YtpgioncclmancaaGreat
/- THE CELL 'sum', in the pinned program and in every row, IS THE sha256 OF THE DUMP (.gsa) THAT YtpgioncclmancaaGreatProg.lean LOADS. Nothing in Lean hashes anything: it is a label: what it is worth is what the hold of that sum in a sandbox is worth. -/
noncomputable def Tryz.pinned : Pinned := { name := "ytpgioncclmancaagreat", sum := "527253998b0059a69cd8edea1376d5ead268d87cd9bf9d1c87dd16ce6a1b8a43", checked := Tryz.checked }
namespace Rows
def none {H : Type} : Left H := { results := [], args := [] }

/-- 'laws.FnConsole': WHATEVER THE INPUT: true; the input reads as it did. -/
def fnConsoleSpec : ChangeSpec := { name := "fnConsole", fn := fun _ => fun
  | [d] => { results := [.lit (.bool true)], args := [d] }
  | _ => none }
def fnConsoleRow : OpenClaim := { program := "ytpgioncclmancaagreat", sum := "527253998b0059a69cd8edea1376d5ead268d87cd9bf9d1c87dd16ce6a1b8a43", func := "loop.example/g00931/laws.FnConsole", spec := "fnConsole", inPlace := ["slices.overlaps[loop.example/g00931/impl.JournalStep]"], unfollowed := true, recurses := true, apart := false }
def FnConsoleSaid : Prop := fnConsoleRow.holds Tryz.pinned (OpenSpec.ofChange fnConsoleSpec)

/-- ITS FALSE NEIGHBOUR: 'it returns false'. Refute it at one input. -/
def fnConsoleWrong : ChangeSpec := { name := "fnConsole", fn := fun _ => fun
  | [d] => { results := [.lit (.bool false)], args := [d] }
  | _ => none }
def FnConsoleWrongFalsely : Prop := fnConsoleRow.holds Tryz.pinned (OpenSpec.ofChange fnConsoleWrong)

/-- 'laws.FnExactRunDesk': WHATEVER THE INPUT: true; the input reads as it did. -/
def fnExactRunDeskSpec : ChangeSpec := { name := "fnExactRunDesk", fn := fun _ => fun
  | [d] => { results := [.lit (.bool true)], args := [d] }
  | _ => none }
def fnExactRunDeskRow : OpenClaim := { program := "ytpgioncclmancaagreat", sum := "527253998b0059a69cd8edea1376d5ead268d87cd9bf9d1c87dd16ce6a1b8a43", func := "loop.example/g00931/laws.FnExactRunDesk", spec := "fnExactRunDesk", inPlace := ["slices.overlaps[loop.example/g00931/impl.JournalStep]"], unfollowed := true, recurses := true, apart := false }
def FnExactRunDeskSaid : Prop := fnExactRunDeskRow.holds Tryz.pinned (OpenSpec.ofChange fnExactRunDeskSpec)

/-- ITS FALSE NEIGHBOUR: 'it returns false'. Refute it at one input. -/
def fnExactRunDeskWrong : ChangeSpec := { name := "fnExactRunDesk", fn := fun _ => fun
  | [d] => { results := [.lit (.bool false)], args := [d] }
  | _ => none }
def FnExactRunDeskWrongFalsely : Prop := fnExactRunDeskRow.holds Tryz.pinned (OpenSpec.ofChange fnExactRunDeskWrong)

/-- 'laws.FnExactDeskCommand': WHATEVER THE INPUT: true; the input reads as it did. -/
def fnExactDeskCommandSpec : ChangeSpec := { name := "fnExactDeskCommand", fn := fun _ => fun
  | [d1, d2] => { results := [.lit (.bool true)], args := [d1, d2] }
  | _ => none }
def fnExactDeskCommandRow : OpenClaim := { program := "ytpgioncclmancaagreat", sum := "527253998b0059a69cd8edea1376d5ead268d87cd9bf9d1c87dd16ce6a1b8a43", func := "loop.example/g00931/laws.FnExactDeskCommand", spec := "fnExactDeskCommand", inPlace := ["slices.overlaps[loop.example/g00931/impl.JournalStep]"], unfollowed := true, recurses := true, apart := false }
def FnExactDeskCommandSaid : Prop := fnExactDeskCommandRow.holds Tryz.pinned (OpenSpec.ofChange fnExactDeskCommandSpec)

/-- ITS FALSE NEIGHBOUR: 'it returns false'. Refute it at one input. -/
def fnExactDeskCommandWrong : ChangeSpec := { name := "fnExactDeskCommand", fn := fun _ => fun
  | [d1, d2] => { results := [.lit (.bool false)], args := [d1, d2] }
  | _ => none }
def FnExactDeskCommandWrongFalsely : Prop := fnExactDeskCommandRow.holds Tryz.pinned (OpenSpec.ofChange fnExactDeskCommandWrong)

/- THE SECOND FORM. 'bulk': how many values and letters a reading holds, each counted each time it is reached (what is shared counts as often as it is met; a slice's spare places count too). A statement '..UptoSaid' is the law's where the arguments, and the package variables that the reading takes, are together of bulk at most 1048576: NARROWER than '..Said'. Prove '..Said' where nothing that the law and all that it calls make is longer than what came in: it says more and counts as full. Else prove '..UptoSaid'. A law counts once. -/
mutual
def uptoBulk {H : Type} : DataW H → Nat
  | .lit (.string bytes) => bytes.length + 1
  | .lit _ => 1
  | .nil => 1
  | .ptr d => uptoBulk d + 1
  | .slice elems spare => uptoBulkAll elems + uptoBulkAll spare + 1
  | .agg parts => uptoBulkAll parts + 1
  | .iface _ d => uptoBulk d + 1
  | .map entries => uptoBulkEntries entries + 1
  | .held _ => 1
def uptoBulkAll {H : Type} : List (DataW H) → Nat
  | [] => 0
  | d :: r => uptoBulk d + uptoBulkAll r
def uptoBulkEntries {H : Type} : List (Lit × DataW H) → Nat
  | [] => 0
  | x :: r => uptoBulkEntry x + uptoBulkEntries r
def uptoBulkEntry {H : Type} : Lit × DataW H → Nat
  | (.string bytes, d) => bytes.length + uptoBulk d + 1
  | (_, d) => uptoBulk d + 1
 end
def uptoSmall : (H : Type) → List (DataW H) → Bool := fun _ ds => decide (uptoBulkAll ds ≤ 1048576)
def OpenSpec.upto (s : _root_.Go.ChangeSpec) : _root_.Go.OpenSpec := { _root_.Go.OpenSpec.ofChange s with cond := some uptoSmall }

/-- 'laws.FnConsole', WHERE WHAT IT READS IS OF BULK AT MOST 1048576: true; the input reads as it did. -/
def fnConsoleUptoRow : OpenClaim := { program := "ytpgioncclmancaagreat", sum := "527253998b0059a69cd8edea1376d5ead268d87cd9bf9d1c87dd16ce6a1b8a43", func := "loop.example/g00931/laws.FnConsole", spec := "fnConsole", inPlace := ["slices.overlaps[loop.example/g00931/impl.JournalStep]"], unfollowed := true, recurses := true, apart := false, narrowed := true }
def FnConsoleUptoSaid : Prop := fnConsoleUptoRow.holds Tryz.pinned (OpenSpec.upto fnConsoleSpec)

/-- 'laws.FnExactRunDesk', WHERE WHAT IT READS IS OF BULK AT MOST 1048576: true; the input reads as it did. -/
def fnExactRunDeskUptoRow : OpenClaim := { program := "ytpgioncclmancaagreat", sum := "527253998b0059a69cd8edea1376d5ead268d87cd9bf9d1c87dd16ce6a1b8a43", func := "loop.example/g00931/laws.FnExactRunDesk", spec := "fnExactRunDesk", inPlace := ["slices.overlaps[loop.example/g00931/impl.JournalStep]"], unfollowed := true, recurses := true, apart := false, narrowed := true }
def FnExactRunDeskUptoSaid : Prop := fnExactRunDeskUptoRow.holds Tryz.pinned (OpenSpec.upto fnExactRunDeskSpec)

/-- 'laws.FnExactDeskCommand', WHERE WHAT IT READS IS OF BULK AT MOST 1048576: true; the input reads as it did. -/
def fnExactDeskCommandUptoRow : OpenClaim := { program := "ytpgioncclmancaagreat", sum := "527253998b0059a69cd8edea1376d5ead268d87cd9bf9d1c87dd16ce6a1b8a43", func := "loop.example/g00931/laws.FnExactDeskCommand", spec := "fnExactDeskCommand", inPlace := ["slices.overlaps[loop.example/g00931/impl.JournalStep]"], unfollowed := true, recurses := true, apart := false, narrowed := true }
def FnExactDeskCommandUptoSaid : Prop := fnExactDeskCommandUptoRow.holds Tryz.pinned (OpenSpec.upto fnExactDeskCommandSpec)

end Rows
end Go.Proofs.YtpgioncclmancaaGreat

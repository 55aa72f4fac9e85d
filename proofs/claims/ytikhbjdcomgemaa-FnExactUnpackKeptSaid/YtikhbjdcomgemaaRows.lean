/-
  No cell of these rows narrows 'for every input' (looked for: loops, veiled, ifaces, maps, wideKeys, modest, calm, conditions, laid).
  DERIVED. THE GIVEN ROWS OF THIS SEAT. 12 by the template 'for every input the law returns true; each argument reads behind the call as it read before'; 0 by the template 'total and deterministic' (their statements: YtikhbjdcomgemaaTotals.lean).
  GIVEN WITH THE SEED: the statements are not yours to turn. If you find one false, say at which input.
  Laid BY PROGRAM, IN A SANDBOX (cutbox-rows.mjs): the forced cells as the released guide's own fill.sh prints them over the translation 9ab787ab67b5b621… (all of the seat's roots in one cut). By AI agents, Wed Nov 11 2026. No macro, syntax, notation, axiom, sorry.
-/
import Derived.Test.YtikhbjdcomgemaaChecked
import GoSem.Claim
import GoSem.ClaimJoined
import GoSem.ClaimMapViews
import Derived.JoinedTies
import Derived.KernelRfl
namespace Go.Proofs.Ytikhbjdcomgemaa
/- THE CELL 'sum', in the pinned program and in every row, IS THE sha256 OF THE DUMP (.gsa) THAT YtikhbjdcomgemaaProg.lean LOADS. Nothing in Lean hashes anything: it is a label: what it is worth is what the hold of that sum in a sandbox is worth. -/
noncomputable def Try.pinned : Pinned := { name := "ytikhbjdcomgemaa", sum := "9ab787ab67b5b62148b1af399a0e32890a4d22aaa08e781d0e46419bad1a6b21", checked := Try.checked }
namespace Rows
def none {H : Type} : Left H := { results := [], args := [] }

/-- 'laws.FnExactStandardKept': WHATEVER THE INPUT: true; the input reads as it did. -/
def fnExactStandardKeptSpec : ChangeSpec := { name := "fnExactStandardKept", fn := fun _ => fun
  | [] => { results := [.lit (.bool true)], args := [] }
  | _ => none }
def fnExactStandardKeptRow : OpenClaim := { program := "ytikhbjdcomgemaa", sum := "9ab787ab67b5b62148b1af399a0e32890a4d22aaa08e781d0e46419bad1a6b21", func := "loop.example/g00931/laws.FnExactStandardKept", spec := "fnExactStandardKept", apart := false }
def FnExactStandardKeptSaid : Prop := fnExactStandardKeptRow.holds Try.pinned (OpenSpec.ofChange fnExactStandardKeptSpec)

/-- ITS FALSE NEIGHBOUR: 'it returns false'. Refute it at one input. -/
def fnExactStandardKeptWrong : ChangeSpec := { name := "fnExactStandardKept", fn := fun _ => fun
  | [] => { results := [.lit (.bool false)], args := [] }
  | _ => none }
def FnExactStandardKeptWrongFalsely : Prop := fnExactStandardKeptRow.holds Try.pinned (OpenSpec.ofChange fnExactStandardKeptWrong)

/-- 'laws.FnExactValidKept': WHATEVER THE INPUT: true; the input reads as it did. -/
def fnExactValidKeptSpec : ChangeSpec := { name := "fnExactValidKept", fn := fun _ => fun
  | [d] => { results := [.lit (.bool true)], args := [d] }
  | _ => none }
def fnExactValidKeptRow : OpenClaim := { program := "ytikhbjdcomgemaa", sum := "9ab787ab67b5b62148b1af399a0e32890a4d22aaa08e781d0e46419bad1a6b21", func := "loop.example/g00931/laws.FnExactValidKept", spec := "fnExactValidKept", unfollowed := true, recurses := true, apart := false }
def FnExactValidKeptSaid : Prop := fnExactValidKeptRow.holds Try.pinned (OpenSpec.ofChange fnExactValidKeptSpec)

/-- ITS FALSE NEIGHBOUR: 'it returns false'. Refute it at one input. -/
def fnExactValidKeptWrong : ChangeSpec := { name := "fnExactValidKept", fn := fun _ => fun
  | [d] => { results := [.lit (.bool false)], args := [d] }
  | _ => none }
def FnExactValidKeptWrongFalsely : Prop := fnExactValidKeptRow.holds Try.pinned (OpenSpec.ofChange fnExactValidKeptWrong)

/-- 'laws.FnExactNameOfPanel': WHATEVER THE INPUT: true; the input reads as it did. -/
def fnExactNameOfPanelSpec : ChangeSpec := { name := "fnExactNameOfPanel", fn := fun _ => fun
  | [d1, d2] => { results := [.lit (.bool true)], args := [d1, d2] }
  | _ => none }
def fnExactNameOfPanelRow : OpenClaim := { program := "ytikhbjdcomgemaa", sum := "9ab787ab67b5b62148b1af399a0e32890a4d22aaa08e781d0e46419bad1a6b21", func := "loop.example/g00931/laws.FnExactNameOfPanel", spec := "fnExactNameOfPanel", unfollowed := true, recurses := true, apart := false }
def FnExactNameOfPanelSaid : Prop := fnExactNameOfPanelRow.holds Try.pinned (OpenSpec.ofChange fnExactNameOfPanelSpec)

/-- ITS FALSE NEIGHBOUR: 'it returns false'. Refute it at one input. -/
def fnExactNameOfPanelWrong : ChangeSpec := { name := "fnExactNameOfPanel", fn := fun _ => fun
  | [d1, d2] => { results := [.lit (.bool false)], args := [d1, d2] }
  | _ => none }
def FnExactNameOfPanelWrongFalsely : Prop := fnExactNameOfPanelRow.holds Try.pinned (OpenSpec.ofChange fnExactNameOfPanelWrong)

/-- 'laws.FnExactPackKept': WHATEVER THE INPUT: true; the input reads as it did. -/
def fnExactPackKeptSpec : ChangeSpec := { name := "fnExactPackKept", fn := fun _ => fun
  | [d] => { results := [.lit (.bool true)], args := [d] }
  | _ => none }
def fnExactPackKeptRow : OpenClaim := { program := "ytikhbjdcomgemaa", sum := "9ab787ab67b5b62148b1af399a0e32890a4d22aaa08e781d0e46419bad1a6b21", func := "loop.example/g00931/laws.FnExactPackKept", spec := "fnExactPackKept", unfollowed := true, recurses := true, apart := false }
def FnExactPackKeptSaid : Prop := fnExactPackKeptRow.holds Try.pinned (OpenSpec.ofChange fnExactPackKeptSpec)

/-- ITS FALSE NEIGHBOUR: 'it returns false'. Refute it at one input. -/
def fnExactPackKeptWrong : ChangeSpec := { name := "fnExactPackKept", fn := fun _ => fun
  | [d] => { results := [.lit (.bool false)], args := [d] }
  | _ => none }
def FnExactPackKeptWrongFalsely : Prop := fnExactPackKeptRow.holds Try.pinned (OpenSpec.ofChange fnExactPackKeptWrong)

/-- 'laws.FnExactKeptText': WHATEVER THE INPUT: true; the input reads as it did. -/
def fnExactKeptTextSpec : ChangeSpec := { name := "fnExactKeptText", fn := fun _ => fun
  | [d] => { results := [.lit (.bool true)], args := [d] }
  | _ => none }
def fnExactKeptTextRow : OpenClaim := { program := "ytikhbjdcomgemaa", sum := "9ab787ab67b5b62148b1af399a0e32890a4d22aaa08e781d0e46419bad1a6b21", func := "loop.example/g00931/laws.FnExactKeptText", spec := "fnExactKeptText", unfollowed := true, recurses := true, apart := false }
def FnExactKeptTextSaid : Prop := fnExactKeptTextRow.holds Try.pinned (OpenSpec.ofChange fnExactKeptTextSpec)

/-- ITS FALSE NEIGHBOUR: 'it returns false'. Refute it at one input. -/
def fnExactKeptTextWrong : ChangeSpec := { name := "fnExactKeptText", fn := fun _ => fun
  | [d] => { results := [.lit (.bool false)], args := [d] }
  | _ => none }
def FnExactKeptTextWrongFalsely : Prop := fnExactKeptTextRow.holds Try.pinned (OpenSpec.ofChange fnExactKeptTextWrong)

/-- 'laws.FnExactKeptNamed': WHATEVER THE INPUT: true; the input reads as it did. -/
def fnExactKeptNamedSpec : ChangeSpec := { name := "fnExactKeptNamed", fn := fun _ => fun
  | [d1, d2] => { results := [.lit (.bool true)], args := [d1, d2] }
  | _ => none }
def fnExactKeptNamedRow : OpenClaim := { program := "ytikhbjdcomgemaa", sum := "9ab787ab67b5b62148b1af399a0e32890a4d22aaa08e781d0e46419bad1a6b21", func := "loop.example/g00931/laws.FnExactKeptNamed", spec := "fnExactKeptNamed", unfollowed := true, recurses := true, apart := false }
def FnExactKeptNamedSaid : Prop := fnExactKeptNamedRow.holds Try.pinned (OpenSpec.ofChange fnExactKeptNamedSpec)

/-- ITS FALSE NEIGHBOUR: 'it returns false'. Refute it at one input. -/
def fnExactKeptNamedWrong : ChangeSpec := { name := "fnExactKeptNamed", fn := fun _ => fun
  | [d1, d2] => { results := [.lit (.bool false)], args := [d1, d2] }
  | _ => none }
def FnExactKeptNamedWrongFalsely : Prop := fnExactKeptNamedRow.holds Try.pinned (OpenSpec.ofChange fnExactKeptNamedWrong)

/-- 'laws.FnExactRemoveKept': WHATEVER THE INPUT: true; the input reads as it did. -/
def fnExactRemoveKeptSpec : ChangeSpec := { name := "fnExactRemoveKept", fn := fun _ => fun
  | [d1, d2] => { results := [.lit (.bool true)], args := [d1, d2] }
  | _ => none }
def fnExactRemoveKeptRow : OpenClaim := { program := "ytikhbjdcomgemaa", sum := "9ab787ab67b5b62148b1af399a0e32890a4d22aaa08e781d0e46419bad1a6b21", func := "loop.example/g00931/laws.FnExactRemoveKept", spec := "fnExactRemoveKept", unfollowed := true, recurses := true, apart := false }
def FnExactRemoveKeptSaid : Prop := fnExactRemoveKeptRow.holds Try.pinned (OpenSpec.ofChange fnExactRemoveKeptSpec)

/-- ITS FALSE NEIGHBOUR: 'it returns false'. Refute it at one input. -/
def fnExactRemoveKeptWrong : ChangeSpec := { name := "fnExactRemoveKept", fn := fun _ => fun
  | [d1, d2] => { results := [.lit (.bool false)], args := [d1, d2] }
  | _ => none }
def FnExactRemoveKeptWrongFalsely : Prop := fnExactRemoveKeptRow.holds Try.pinned (OpenSpec.ofChange fnExactRemoveKeptWrong)

/-- 'laws.FnExactUnpackKept': WHATEVER THE INPUT: true; the input reads as it did. -/
def fnExactUnpackKeptSpec : ChangeSpec := { name := "fnExactUnpackKept", fn := fun _ => fun
  | [d] => { results := [.lit (.bool true)], args := [d] }
  | _ => none }
def fnExactUnpackKeptRow : OpenClaim := { program := "ytikhbjdcomgemaa", sum := "9ab787ab67b5b62148b1af399a0e32890a4d22aaa08e781d0e46419bad1a6b21", func := "loop.example/g00931/laws.FnExactUnpackKept", spec := "fnExactUnpackKept", unfollowed := true, recurses := true, apart := false }
def FnExactUnpackKeptSaid : Prop := fnExactUnpackKeptRow.holds Try.pinned (OpenSpec.ofChange fnExactUnpackKeptSpec)

/-- ITS FALSE NEIGHBOUR: 'it returns false'. Refute it at one input. -/
def fnExactUnpackKeptWrong : ChangeSpec := { name := "fnExactUnpackKept", fn := fun _ => fun
  | [d] => { results := [.lit (.bool false)], args := [d] }
  | _ => none }
def FnExactUnpackKeptWrongFalsely : Prop := fnExactUnpackKeptRow.holds Try.pinned (OpenSpec.ofChange fnExactUnpackKeptWrong)

/-- 'laws.FnExactKeptWith': WHATEVER THE INPUT: true; the input reads as it did. -/
def fnExactKeptWithSpec : ChangeSpec := { name := "fnExactKeptWith", fn := fun _ => fun
  | [d1, d2] => { results := [.lit (.bool true)], args := [d1, d2] }
  | _ => none }
def fnExactKeptWithRow : OpenClaim := { program := "ytikhbjdcomgemaa", sum := "9ab787ab67b5b62148b1af399a0e32890a4d22aaa08e781d0e46419bad1a6b21", func := "loop.example/g00931/laws.FnExactKeptWith", spec := "fnExactKeptWith", unfollowed := true, recurses := true, apart := false }
def FnExactKeptWithSaid : Prop := fnExactKeptWithRow.holds Try.pinned (OpenSpec.ofChange fnExactKeptWithSpec)

/-- ITS FALSE NEIGHBOUR: 'it returns false'. Refute it at one input. -/
def fnExactKeptWithWrong : ChangeSpec := { name := "fnExactKeptWith", fn := fun _ => fun
  | [d1, d2] => { results := [.lit (.bool false)], args := [d1, d2] }
  | _ => none }
def FnExactKeptWithWrongFalsely : Prop := fnExactKeptWithRow.holds Try.pinned (OpenSpec.ofChange fnExactKeptWithWrong)

/-- 'laws.FnExactReadKept': WHATEVER THE INPUT: true; the input reads as it did. -/
def fnExactReadKeptSpec : ChangeSpec := { name := "fnExactReadKept", fn := fun _ => fun
  | [d] => { results := [.lit (.bool true)], args := [d] }
  | _ => none }
def fnExactReadKeptRow : OpenClaim := { program := "ytikhbjdcomgemaa", sum := "9ab787ab67b5b62148b1af399a0e32890a4d22aaa08e781d0e46419bad1a6b21", func := "loop.example/g00931/laws.FnExactReadKept", spec := "fnExactReadKept", unfollowed := true, recurses := true, apart := false }
def FnExactReadKeptSaid : Prop := fnExactReadKeptRow.holds Try.pinned (OpenSpec.ofChange fnExactReadKeptSpec)

/-- ITS FALSE NEIGHBOUR: 'it returns false'. Refute it at one input. -/
def fnExactReadKeptWrong : ChangeSpec := { name := "fnExactReadKept", fn := fun _ => fun
  | [d] => { results := [.lit (.bool false)], args := [d] }
  | _ => none }
def FnExactReadKeptWrongFalsely : Prop := fnExactReadKeptRow.holds Try.pinned (OpenSpec.ofChange fnExactReadKeptWrong)

/-- 'laws.FnExactAddKept': WHATEVER THE INPUT: true; the input reads as it did. -/
def fnExactAddKeptSpec : ChangeSpec := { name := "fnExactAddKept", fn := fun _ => fun
  | [d1, d2, d3] => { results := [.lit (.bool true)], args := [d1, d2, d3] }
  | _ => none }
def fnExactAddKeptRow : OpenClaim := { program := "ytikhbjdcomgemaa", sum := "9ab787ab67b5b62148b1af399a0e32890a4d22aaa08e781d0e46419bad1a6b21", func := "loop.example/g00931/laws.FnExactAddKept", spec := "fnExactAddKept", inPlace := ["slices.overlaps[loop.example/g00931/impl.Kept]"], unfollowed := true, recurses := true, apart := false }
def FnExactAddKeptSaid : Prop := fnExactAddKeptRow.holds Try.pinned (OpenSpec.ofChange fnExactAddKeptSpec)

/-- ITS FALSE NEIGHBOUR: 'it returns false'. Refute it at one input. -/
def fnExactAddKeptWrong : ChangeSpec := { name := "fnExactAddKept", fn := fun _ => fun
  | [d1, d2, d3] => { results := [.lit (.bool false)], args := [d1, d2, d3] }
  | _ => none }
def FnExactAddKeptWrongFalsely : Prop := fnExactAddKeptRow.holds Try.pinned (OpenSpec.ofChange fnExactAddKeptWrong)

/-- 'laws.FnExactMergeKept': WHATEVER THE INPUT: true; the input reads as it did. -/
def fnExactMergeKeptSpec : ChangeSpec := { name := "fnExactMergeKept", fn := fun _ => fun
  | [d1, d2] => { results := [.lit (.bool true)], args := [d1, d2] }
  | _ => none }
def fnExactMergeKeptRow : OpenClaim := { program := "ytikhbjdcomgemaa", sum := "9ab787ab67b5b62148b1af399a0e32890a4d22aaa08e781d0e46419bad1a6b21", func := "loop.example/g00931/laws.FnExactMergeKept", spec := "fnExactMergeKept", inPlace := ["slices.overlaps[loop.example/g00931/impl.Kept]"], unfollowed := true, recurses := true, apart := false }
def FnExactMergeKeptSaid : Prop := fnExactMergeKeptRow.holds Try.pinned (OpenSpec.ofChange fnExactMergeKeptSpec)

/-- ITS FALSE NEIGHBOUR: 'it returns false'. Refute it at one input. -/
def fnExactMergeKeptWrong : ChangeSpec := { name := "fnExactMergeKept", fn := fun _ => fun
  | [d1, d2] => { results := [.lit (.bool false)], args := [d1, d2] }
  | _ => none }
def FnExactMergeKeptWrongFalsely : Prop := fnExactMergeKeptRow.holds Try.pinned (OpenSpec.ofChange fnExactMergeKeptWrong)

/- THE SECOND FORM. 'bulk': how many values and letters a reading holds, each counted each time it is reached (what is shared counts as often as it is met; a slice's spare places count too). A statement '..UptoSaid' is the law's where the arguments, and the package variables that the reading takes, are together of bulk at most 1048576: NARROWER than '..Said'. Prove '..Said' where nothing that the law and all that it calls make is longer than what came in: it says more and counts as full. Else prove '..UptoSaid'. A law counts once. -/
mutual
def uptoBulk {H : Type} : DataW H → Nat
  | .lit (.string bytes) => bytes.length + 1
  | .lit _ => 1
  | .nil => 1
  | .ptr d => uptoBulk d + 1
  | .slice elems spare => uptoBulkAll elems + uptoBulkAll spare + 1
  | .agg parts => uptoBulkAll parts + 1
  | .iface _ d => uptoBulk d + 1
  | .map entries => uptoBulkEntries entries + 1
  | .held _ => 1
def uptoBulkAll {H : Type} : List (DataW H) → Nat
  | [] => 0
  | d :: r => uptoBulk d + uptoBulkAll r
def uptoBulkEntries {H : Type} : List (Lit × DataW H) → Nat
  | [] => 0
  | x :: r => uptoBulkEntry x + uptoBulkEntries r
def uptoBulkEntry {H : Type} : Lit × DataW H → Nat
  | (.string bytes, d) => bytes.length + uptoBulk d + 1
  | (_, d) => uptoBulk d + 1
 end
def uptoSmall : (H : Type) → List (DataW H) → Bool := fun _ ds => decide (uptoBulkAll ds ≤ 1048576)
def OpenSpec.upto (s : _root_.Go.ChangeSpec) : _root_.Go.OpenSpec := { _root_.Go.OpenSpec.ofChange s with cond := some uptoSmall }

/-- 'laws.FnExactStandardKept', WHERE WHAT IT READS IS OF BULK AT MOST 1048576: true; the input reads as it did. -/
def fnExactStandardKeptUptoRow : OpenClaim := { program := "ytikhbjdcomgemaa", sum := "9ab787ab67b5b62148b1af399a0e32890a4d22aaa08e781d0e46419bad1a6b21", func := "loop.example/g00931/laws.FnExactStandardKept", spec := "fnExactStandardKept", apart := false, narrowed := true }
def FnExactStandardKeptUptoSaid : Prop := fnExactStandardKeptUptoRow.holds Try.pinned (OpenSpec.upto fnExactStandardKeptSpec)

/-- 'laws.FnExactValidKept', WHERE WHAT IT READS IS OF BULK AT MOST 1048576: true; the input reads as it did. -/
def fnExactValidKeptUptoRow : OpenClaim := { program := "ytikhbjdcomgemaa", sum := "9ab787ab67b5b62148b1af399a0e32890a4d22aaa08e781d0e46419bad1a6b21", func := "loop.example/g00931/laws.FnExactValidKept", spec := "fnExactValidKept", unfollowed := true, recurses := true, apart := false, narrowed := true }
def FnExactValidKeptUptoSaid : Prop := fnExactValidKeptUptoRow.holds Try.pinned (OpenSpec.upto fnExactValidKeptSpec)

/-- 'laws.FnExactNameOfPanel', WHERE WHAT IT READS IS OF BULK AT MOST 1048576: true; the input reads as it did. -/
def fnExactNameOfPanelUptoRow : OpenClaim := { program := "ytikhbjdcomgemaa", sum := "9ab787ab67b5b62148b1af399a0e32890a4d22aaa08e781d0e46419bad1a6b21", func := "loop.example/g00931/laws.FnExactNameOfPanel", spec := "fnExactNameOfPanel", unfollowed := true, recurses := true, apart := false, narrowed := true }
def FnExactNameOfPanelUptoSaid : Prop := fnExactNameOfPanelUptoRow.holds Try.pinned (OpenSpec.upto fnExactNameOfPanelSpec)

/-- 'laws.FnExactPackKept', WHERE WHAT IT READS IS OF BULK AT MOST 1048576: true; the input reads as it did. -/
def fnExactPackKeptUptoRow : OpenClaim := { program := "ytikhbjdcomgemaa", sum := "9ab787ab67b5b62148b1af399a0e32890a4d22aaa08e781d0e46419bad1a6b21", func := "loop.example/g00931/laws.FnExactPackKept", spec := "fnExactPackKept", unfollowed := true, recurses := true, apart := false, narrowed := true }
def FnExactPackKeptUptoSaid : Prop := fnExactPackKeptUptoRow.holds Try.pinned (OpenSpec.upto fnExactPackKeptSpec)

/-- 'laws.FnExactKeptText', WHERE WHAT IT READS IS OF BULK AT MOST 1048576: true; the input reads as it did. -/
def fnExactKeptTextUptoRow : OpenClaim := { program := "ytikhbjdcomgemaa", sum := "9ab787ab67b5b62148b1af399a0e32890a4d22aaa08e781d0e46419bad1a6b21", func := "loop.example/g00931/laws.FnExactKeptText", spec := "fnExactKeptText", unfollowed := true, recurses := true, apart := false, narrowed := true }
def FnExactKeptTextUptoSaid : Prop := fnExactKeptTextUptoRow.holds Try.pinned (OpenSpec.upto fnExactKeptTextSpec)

/-- 'laws.FnExactKeptNamed', WHERE WHAT IT READS IS OF BULK AT MOST 1048576: true; the input reads as it did. -/
def fnExactKeptNamedUptoRow : OpenClaim := { program := "ytikhbjdcomgemaa", sum := "9ab787ab67b5b62148b1af399a0e32890a4d22aaa08e781d0e46419bad1a6b21", func := "loop.example/g00931/laws.FnExactKeptNamed", spec := "fnExactKeptNamed", unfollowed := true, recurses := true, apart := false, narrowed := true }
def FnExactKeptNamedUptoSaid : Prop := fnExactKeptNamedUptoRow.holds Try.pinned (OpenSpec.upto fnExactKeptNamedSpec)

/-- 'laws.FnExactRemoveKept', WHERE WHAT IT READS IS OF BULK AT MOST 1048576: true; the input reads as it did. -/
def fnExactRemoveKeptUptoRow : OpenClaim := { program := "ytikhbjdcomgemaa", sum := "9ab787ab67b5b62148b1af399a0e32890a4d22aaa08e781d0e46419bad1a6b21", func := "loop.example/g00931/laws.FnExactRemoveKept", spec := "fnExactRemoveKept", unfollowed := true, recurses := true, apart := false, narrowed := true }
def FnExactRemoveKeptUptoSaid : Prop := fnExactRemoveKeptUptoRow.holds Try.pinned (OpenSpec.upto fnExactRemoveKeptSpec)

/-- 'laws.FnExactUnpackKept', WHERE WHAT IT READS IS OF BULK AT MOST 1048576: true; the input reads as it did. -/
def fnExactUnpackKeptUptoRow : OpenClaim := { program := "ytikhbjdcomgemaa", sum := "9ab787ab67b5b62148b1af399a0e32890a4d22aaa08e781d0e46419bad1a6b21", func := "loop.example/g00931/laws.FnExactUnpackKept", spec := "fnExactUnpackKept", unfollowed := true, recurses := true, apart := false, narrowed := true }
def FnExactUnpackKeptUptoSaid : Prop := fnExactUnpackKeptUptoRow.holds Try.pinned (OpenSpec.upto fnExactUnpackKeptSpec)

/-- 'laws.FnExactKeptWith', WHERE WHAT IT READS IS OF BULK AT MOST 1048576: true; the input reads as it did. -/
def fnExactKeptWithUptoRow : OpenClaim := { program := "ytikhbjdcomgemaa", sum := "9ab787ab67b5b62148b1af399a0e32890a4d22aaa08e781d0e46419bad1a6b21", func := "loop.example/g00931/laws.FnExactKeptWith", spec := "fnExactKeptWith", unfollowed := true, recurses := true, apart := false, narrowed := true }
def FnExactKeptWithUptoSaid : Prop := fnExactKeptWithUptoRow.holds Try.pinned (OpenSpec.upto fnExactKeptWithSpec)

/-- 'laws.FnExactReadKept', WHERE WHAT IT READS IS OF BULK AT MOST 1048576: true; the input reads as it did. -/
def fnExactReadKeptUptoRow : OpenClaim := { program := "ytikhbjdcomgemaa", sum := "9ab787ab67b5b62148b1af399a0e32890a4d22aaa08e781d0e46419bad1a6b21", func := "loop.example/g00931/laws.FnExactReadKept", spec := "fnExactReadKept", unfollowed := true, recurses := true, apart := false, narrowed := true }
def FnExactReadKeptUptoSaid : Prop := fnExactReadKeptUptoRow.holds Try.pinned (OpenSpec.upto fnExactReadKeptSpec)

/-- 'laws.FnExactAddKept', WHERE WHAT IT READS IS OF BULK AT MOST 1048576: true; the input reads as it did. -/
def fnExactAddKeptUptoRow : OpenClaim := { program := "ytikhbjdcomgemaa", sum := "9ab787ab67b5b62148b1af399a0e32890a4d22aaa08e781d0e46419bad1a6b21", func := "loop.example/g00931/laws.FnExactAddKept", spec := "fnExactAddKept", inPlace := ["slices.overlaps[loop.example/g00931/impl.Kept]"], unfollowed := true, recurses := true, apart := false, narrowed := true }
def FnExactAddKeptUptoSaid : Prop := fnExactAddKeptUptoRow.holds Try.pinned (OpenSpec.upto fnExactAddKeptSpec)

/-- 'laws.FnExactMergeKept', WHERE WHAT IT READS IS OF BULK AT MOST 1048576: true; the input reads as it did. -/
def fnExactMergeKeptUptoRow : OpenClaim := { program := "ytikhbjdcomgemaa", sum := "9ab787ab67b5b62148b1af399a0e32890a4d22aaa08e781d0e46419bad1a6b21", func := "loop.example/g00931/laws.FnExactMergeKept", spec := "fnExactMergeKept", inPlace := ["slices.overlaps[loop.example/g00931/impl.Kept]"], unfollowed := true, recurses := true, apart := false, narrowed := true }
def FnExactMergeKeptUptoSaid : Prop := fnExactMergeKeptUptoRow.holds Try.pinned (OpenSpec.upto fnExactMergeKeptSpec)

end Rows
end Go.Proofs.Ytikhbjdcomgemaa

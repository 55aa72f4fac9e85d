/-
  No cell of these rows narrows 'for every input' (looked for: loops, veiled, ifaces, maps, wideKeys, modest, calm, conditions, laid).
  DERIVED. THE GIVEN ROWS OF THIS SEAT. 7 by the template 'for every input the law returns true; each argument reads behind the call as it read before'; 0 by the template 'total and deterministic' (their statements: YtaeaaogpdipjfaaTotals.lean).
  GIVEN WITH THE SEED: the statements are not yours to turn. If you find one false, say at which input.
  Laid BY PROGRAM, IN A SANDBOX (cutbox-rows.mjs): the forced cells as the released guide's own fill.sh prints them over the translation fe79ae141ceab5d4… (all of the seat's roots in one cut). By AI agents, Wed Nov 11 2026. No macro, syntax, notation, axiom, sorry.
-/
import Derived.Test.YtaeaaogpdipjfaaChecked
import GoSem.Claim
import GoSem.ClaimJoined
import GoSem.ClaimMapViews
import Derived.JoinedTies
import Derived.KernelRfl
namespace Go.Proofs.Ytaeaaogpdipjfaa
/- THE CELL 'sum', in the pinned program and in every row, IS THE sha256 OF THE DUMP (.gsa) THAT YtaeaaogpdipjfaaProg.lean LOADS. Nothing in Lean hashes anything: it is a label: what it is worth is what the hold of that sum in a sandbox is worth. -/
noncomputable def Try.pinned : Pinned := { name := "ytaeaaogpdipjfaa", sum := "fe79ae141ceab5d457cd9320d78979981089e3aeb12f510fdc20b8dc81fbe478", checked := Try.checked }
namespace Rows
def none {H : Type} : Left H := { results := [], args := [] }

/-- 'laws.FnPacked': WHATEVER THE INPUT: true; the input reads as it did. -/
def fnPackedSpec : ChangeSpec := { name := "fnPacked", fn := fun _ => fun
  | [d] => { results := [.lit (.bool true)], args := [d] }
  | _ => none }
def fnPackedRow : OpenClaim := { program := "ytaeaaogpdipjfaa", sum := "fe79ae141ceab5d457cd9320d78979981089e3aeb12f510fdc20b8dc81fbe478", func := "loop.example/g00931/laws.FnPacked", spec := "fnPacked", apart := false }
def FnPackedSaid : Prop := fnPackedRow.holds Try.pinned (OpenSpec.ofChange fnPackedSpec)

/-- ITS FALSE NEIGHBOUR: 'it returns false'. Refute it at one input. -/
def fnPackedWrong : ChangeSpec := { name := "fnPacked", fn := fun _ => fun
  | [d] => { results := [.lit (.bool false)], args := [d] }
  | _ => none }
def FnPackedWrongFalsely : Prop := fnPackedRow.holds Try.pinned (OpenSpec.ofChange fnPackedWrong)

/-- 'laws.FnSquashed': WHATEVER THE INPUT: true; the input reads as it did. -/
def fnSquashedSpec : ChangeSpec := { name := "fnSquashed", fn := fun _ => fun
  | [d] => { results := [.lit (.bool true)], args := [d] }
  | _ => none }
def fnSquashedRow : OpenClaim := { program := "ytaeaaogpdipjfaa", sum := "fe79ae141ceab5d457cd9320d78979981089e3aeb12f510fdc20b8dc81fbe478", func := "loop.example/g00931/laws.FnSquashed", spec := "fnSquashed", apart := false }
def FnSquashedSaid : Prop := fnSquashedRow.holds Try.pinned (OpenSpec.ofChange fnSquashedSpec)

/-- ITS FALSE NEIGHBOUR: 'it returns false'. Refute it at one input. -/
def fnSquashedWrong : ChangeSpec := { name := "fnSquashed", fn := fun _ => fun
  | [d] => { results := [.lit (.bool false)], args := [d] }
  | _ => none }
def FnSquashedWrongFalsely : Prop := fnSquashedRow.holds Try.pinned (OpenSpec.ofChange fnSquashedWrong)

/-- 'laws.FnJournals': WHATEVER THE INPUT: true; the input reads as it did. -/
def fnJournalsSpec : ChangeSpec := { name := "fnJournals", fn := fun _ => fun
  | [d1, d2] => { results := [.lit (.bool true)], args := [d1, d2] }
  | _ => none }
def fnJournalsRow : OpenClaim := { program := "ytaeaaogpdipjfaa", sum := "fe79ae141ceab5d457cd9320d78979981089e3aeb12f510fdc20b8dc81fbe478", func := "loop.example/g00931/laws.FnJournals", spec := "fnJournals", inPlace := ["slices.overlaps[loop.example/g00931/impl.JournalStep]"], apart := false }
def FnJournalsSaid : Prop := fnJournalsRow.holds Try.pinned (OpenSpec.ofChange fnJournalsSpec)

/-- ITS FALSE NEIGHBOUR: 'it returns false'. Refute it at one input. -/
def fnJournalsWrong : ChangeSpec := { name := "fnJournals", fn := fun _ => fun
  | [d1, d2] => { results := [.lit (.bool false)], args := [d1, d2] }
  | _ => none }
def FnJournalsWrongFalsely : Prop := fnJournalsRow.holds Try.pinned (OpenSpec.ofChange fnJournalsWrong)

/-- 'laws.FnDiffs': WHATEVER THE INPUT: true; the input reads as it did. -/
def fnDiffsSpec : ChangeSpec := { name := "fnDiffs", fn := fun _ => fun
  | [d] => { results := [.lit (.bool true)], args := [d] }
  | _ => none }
def fnDiffsRow : OpenClaim := { program := "ytaeaaogpdipjfaa", sum := "fe79ae141ceab5d457cd9320d78979981089e3aeb12f510fdc20b8dc81fbe478", func := "loop.example/g00931/laws.FnDiffs", spec := "fnDiffs", apart := false }
def FnDiffsSaid : Prop := fnDiffsRow.holds Try.pinned (OpenSpec.ofChange fnDiffsSpec)

/-- ITS FALSE NEIGHBOUR: 'it returns false'. Refute it at one input. -/
def fnDiffsWrong : ChangeSpec := { name := "fnDiffs", fn := fun _ => fun
  | [d] => { results := [.lit (.bool false)], args := [d] }
  | _ => none }
def FnDiffsWrongFalsely : Prop := fnDiffsRow.holds Try.pinned (OpenSpec.ofChange fnDiffsWrong)

/-- 'laws.FnMergedPanels': WHATEVER THE INPUT: true; the input reads as it did. -/
def fnMergedPanelsSpec : ChangeSpec := { name := "fnMergedPanels", fn := fun _ => fun
  | [d] => { results := [.lit (.bool true)], args := [d] }
  | _ => none }
def fnMergedPanelsRow : OpenClaim := { program := "ytaeaaogpdipjfaa", sum := "fe79ae141ceab5d457cd9320d78979981089e3aeb12f510fdc20b8dc81fbe478", func := "loop.example/g00931/laws.FnMergedPanels", spec := "fnMergedPanels", apart := false }
def FnMergedPanelsSaid : Prop := fnMergedPanelsRow.holds Try.pinned (OpenSpec.ofChange fnMergedPanelsSpec)

/-- ITS FALSE NEIGHBOUR: 'it returns false'. Refute it at one input. -/
def fnMergedPanelsWrong : ChangeSpec := { name := "fnMergedPanels", fn := fun _ => fun
  | [d] => { results := [.lit (.bool false)], args := [d] }
  | _ => none }
def FnMergedPanelsWrongFalsely : Prop := fnMergedPanelsRow.holds Try.pinned (OpenSpec.ofChange fnMergedPanelsWrong)

/-- 'laws.FnExactCurvesAlong': WHATEVER THE INPUT: true; the input reads as it did. -/
def fnExactCurvesAlongSpec : ChangeSpec := { name := "fnExactCurvesAlong", fn := fun _ => fun
  | [d] => { results := [.lit (.bool true)], args := [d] }
  | _ => none }
def fnExactCurvesAlongRow : OpenClaim := { program := "ytaeaaogpdipjfaa", sum := "fe79ae141ceab5d457cd9320d78979981089e3aeb12f510fdc20b8dc81fbe478", func := "loop.example/g00931/laws.FnExactCurvesAlong", spec := "fnExactCurvesAlong", apart := false }
def FnExactCurvesAlongSaid : Prop := fnExactCurvesAlongRow.holds Try.pinned (OpenSpec.ofChange fnExactCurvesAlongSpec)

/-- ITS FALSE NEIGHBOUR: 'it returns false'. Refute it at one input. -/
def fnExactCurvesAlongWrong : ChangeSpec := { name := "fnExactCurvesAlong", fn := fun _ => fun
  | [d] => { results := [.lit (.bool false)], args := [d] }
  | _ => none }
def FnExactCurvesAlongWrongFalsely : Prop := fnExactCurvesAlongRow.holds Try.pinned (OpenSpec.ofChange fnExactCurvesAlongWrong)

/-- 'laws.FnRows': WHATEVER THE INPUT: true; the input reads as it did. -/
def fnRowsSpec : ChangeSpec := { name := "fnRows", fn := fun _ => fun
  | [d] => { results := [.lit (.bool true)], args := [d] }
  | _ => none }
def fnRowsRow : OpenClaim := { program := "ytaeaaogpdipjfaa", sum := "fe79ae141ceab5d457cd9320d78979981089e3aeb12f510fdc20b8dc81fbe478", func := "loop.example/g00931/laws.FnRows", spec := "fnRows", unfollowed := true, recurses := true, apart := false }
def FnRowsSaid : Prop := fnRowsRow.holds Try.pinned (OpenSpec.ofChange fnRowsSpec)

/-- ITS FALSE NEIGHBOUR: 'it returns false'. Refute it at one input. -/
def fnRowsWrong : ChangeSpec := { name := "fnRows", fn := fun _ => fun
  | [d] => { results := [.lit (.bool false)], args := [d] }
  | _ => none }
def FnRowsWrongFalsely : Prop := fnRowsRow.holds Try.pinned (OpenSpec.ofChange fnRowsWrong)

/- THE SECOND FORM. 'bulk': how many values and letters a reading holds, each counted each time it is reached (what is shared counts as often as it is met; a slice's spare places count too). A statement '..UptoSaid' is the law's where the arguments, and the package variables that the reading takes, are together of bulk at most 1048576: NARROWER than '..Said'. Prove '..Said' where nothing that the law and all that it calls make is longer than what came in: it says more and counts as full. Else prove '..UptoSaid'. A law counts once. -/
mutual
def uptoBulk {H : Type} : DataW H → Nat
  | .lit (.string bytes) => bytes.length + 1
  | .lit _ => 1
  | .nil => 1
  | .ptr d => uptoBulk d + 1
  | .slice elems spare => uptoBulkAll elems + uptoBulkAll spare + 1
  | .agg parts => uptoBulkAll parts + 1
  | .iface _ d => uptoBulk d + 1
  | .map entries => uptoBulkEntries entries + 1
  | .held _ => 1
def uptoBulkAll {H : Type} : List (DataW H) → Nat
  | [] => 0
  | d :: r => uptoBulk d + uptoBulkAll r
def uptoBulkEntries {H : Type} : List (Lit × DataW H) → Nat
  | [] => 0
  | x :: r => uptoBulkEntry x + uptoBulkEntries r
def uptoBulkEntry {H : Type} : Lit × DataW H → Nat
  | (.string bytes, d) => bytes.length + uptoBulk d + 1
  | (_, d) => uptoBulk d + 1
 end
def uptoSmall : (H : Type) → List (DataW H) → Bool := fun _ ds => decide (uptoBulkAll ds ≤ 1048576)
def OpenSpec.upto (s : _root_.Go.ChangeSpec) : _root_.Go.OpenSpec := { _root_.Go.OpenSpec.ofChange s with cond := some uptoSmall }

/-- 'laws.FnPacked', WHERE WHAT IT READS IS OF BULK AT MOST 1048576: true; the input reads as it did. -/
def fnPackedUptoRow : OpenClaim := { program := "ytaeaaogpdipjfaa", sum := "fe79ae141ceab5d457cd9320d78979981089e3aeb12f510fdc20b8dc81fbe478", func := "loop.example/g00931/laws.FnPacked", spec := "fnPacked", apart := false, narrowed := true }
def FnPackedUptoSaid : Prop := fnPackedUptoRow.holds Try.pinned (OpenSpec.upto fnPackedSpec)

/-- 'laws.FnSquashed', WHERE WHAT IT READS IS OF BULK AT MOST 1048576: true; the input reads as it did. -/
def fnSquashedUptoRow : OpenClaim := { program := "ytaeaaogpdipjfaa", sum := "fe79ae141ceab5d457cd9320d78979981089e3aeb12f510fdc20b8dc81fbe478", func := "loop.example/g00931/laws.FnSquashed", spec := "fnSquashed", apart := false, narrowed := true }
def FnSquashedUptoSaid : Prop := fnSquashedUptoRow.holds Try.pinned (OpenSpec.upto fnSquashedSpec)

/-- 'laws.FnJournals', WHERE WHAT IT READS IS OF BULK AT MOST 1048576: true; the input reads as it did. -/
def fnJournalsUptoRow : OpenClaim := { program := "ytaeaaogpdipjfaa", sum := "fe79ae141ceab5d457cd9320d78979981089e3aeb12f510fdc20b8dc81fbe478", func := "loop.example/g00931/laws.FnJournals", spec := "fnJournals", inPlace := ["slices.overlaps[loop.example/g00931/impl.JournalStep]"], apart := false, narrowed := true }
def FnJournalsUptoSaid : Prop := fnJournalsUptoRow.holds Try.pinned (OpenSpec.upto fnJournalsSpec)

/-- 'laws.FnDiffs', WHERE WHAT IT READS IS OF BULK AT MOST 1048576: true; the input reads as it did. -/
def fnDiffsUptoRow : OpenClaim := { program := "ytaeaaogpdipjfaa", sum := "fe79ae141ceab5d457cd9320d78979981089e3aeb12f510fdc20b8dc81fbe478", func := "loop.example/g00931/laws.FnDiffs", spec := "fnDiffs", apart := false, narrowed := true }
def FnDiffsUptoSaid : Prop := fnDiffsUptoRow.holds Try.pinned (OpenSpec.upto fnDiffsSpec)

/-- 'laws.FnMergedPanels', WHERE WHAT IT READS IS OF BULK AT MOST 1048576: true; the input reads as it did. -/
def fnMergedPanelsUptoRow : OpenClaim := { program := "ytaeaaogpdipjfaa", sum := "fe79ae141ceab5d457cd9320d78979981089e3aeb12f510fdc20b8dc81fbe478", func := "loop.example/g00931/laws.FnMergedPanels", spec := "fnMergedPanels", apart := false, narrowed := true }
def FnMergedPanelsUptoSaid : Prop := fnMergedPanelsUptoRow.holds Try.pinned (OpenSpec.upto fnMergedPanelsSpec)

/-- 'laws.FnExactCurvesAlong', WHERE WHAT IT READS IS OF BULK AT MOST 1048576: true; the input reads as it did. -/
def fnExactCurvesAlongUptoRow : OpenClaim := { program := "ytaeaaogpdipjfaa", sum := "fe79ae141ceab5d457cd9320d78979981089e3aeb12f510fdc20b8dc81fbe478", func := "loop.example/g00931/laws.FnExactCurvesAlong", spec := "fnExactCurvesAlong", apart := false, narrowed := true }
def FnExactCurvesAlongUptoSaid : Prop := fnExactCurvesAlongUptoRow.holds Try.pinned (OpenSpec.upto fnExactCurvesAlongSpec)

/-- 'laws.FnRows', WHERE WHAT IT READS IS OF BULK AT MOST 1048576: true; the input reads as it did. -/
def fnRowsUptoRow : OpenClaim := { program := "ytaeaaogpdipjfaa", sum := "fe79ae141ceab5d457cd9320d78979981089e3aeb12f510fdc20b8dc81fbe478", func := "loop.example/g00931/laws.FnRows", spec := "fnRows", unfollowed := true, recurses := true, apart := false, narrowed := true }
def FnRowsUptoSaid : Prop := fnRowsUptoRow.holds Try.pinned (OpenSpec.upto fnRowsSpec)

end Rows
end Go.Proofs.Ytaeaaogpdipjfaa

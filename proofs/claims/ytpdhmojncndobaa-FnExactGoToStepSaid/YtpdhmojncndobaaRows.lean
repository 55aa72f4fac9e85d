/-
  No cell of these rows narrows 'for every input' (looked for: loops, veiled, ifaces, maps, wideKeys, modest, calm, conditions, laid).
  DERIVED. THE GIVEN ROWS OF THIS SEAT. 12 by the template 'for every input the law returns true; each argument reads behind the call as it read before'; 0 by the template 'total and deterministic' (their statements: YtpdhmojncndobaaTotals.lean).
  GIVEN WITH THE SEED: the statements are not yours to turn. If you find one false, say at which input.
  Laid BY PROGRAM, IN A SANDBOX (cutbox-rows.mjs): the forced cells as the released guide's own fill.sh prints them over the translation a67d11fa0486a33a… (all of the seat's roots in one cut). By AI agents, Wed Nov 11 2026. No macro, syntax, notation, axiom, sorry.
-/
import Derived.Test.YtpdhmojncndobaaChecked
import GoSem.Claim
import GoSem.ClaimJoined
import GoSem.ClaimMapViews
import Derived.JoinedTies
import Derived.KernelRfl
namespace Go.Proofs.Ytpdhmojncndobaa
/- THE CELL 'sum', in the pinned program and in every row, IS THE sha256 OF THE DUMP (.gsa) THAT YtpdhmojncndobaaProg.lean LOADS. Nothing in Lean hashes anything: it is a label: what it is worth is what the hold of that sum in a sandbox is worth. -/
noncomputable def Try.pinned : Pinned := { name := "ytpdhmojncndobaa", sum := "a67d11fa0486a33aa2d45f828c92faabcc341c4507cd21d48262824d2953655a", checked := Try.checked }
namespace Rows
def none {H : Type} : Left H := { results := [], args := [] }

/-- 'laws.FnExactPastePart': WHATEVER THE INPUT: true; the input reads as it did. -/
def fnExactPastePartSpec : ChangeSpec := { name := "fnExactPastePart", fn := fun _ => fun
  | [d1, d2, d3, d4] => { results := [.lit (.bool true)], args := [d1, d2, d3, d4] }
  | _ => none }
def fnExactPastePartRow : OpenClaim := { program := "ytpdhmojncndobaa", sum := "a67d11fa0486a33aa2d45f828c92faabcc341c4507cd21d48262824d2953655a", func := "loop.example/g00931/laws.FnExactPastePart", spec := "fnExactPastePart", apart := false }
def FnExactPastePartSaid : Prop := fnExactPastePartRow.holds Try.pinned (OpenSpec.ofChange fnExactPastePartSpec)

/-- ITS FALSE NEIGHBOUR: 'it returns false'. Refute it at one input. -/
def fnExactPastePartWrong : ChangeSpec := { name := "fnExactPastePart", fn := fun _ => fun
  | [d1, d2, d3, d4] => { results := [.lit (.bool false)], args := [d1, d2, d3, d4] }
  | _ => none }
def FnExactPastePartWrongFalsely : Prop := fnExactPastePartRow.holds Try.pinned (OpenSpec.ofChange fnExactPastePartWrong)

/-- 'laws.FnExactApplyDiff': WHATEVER THE INPUT: true; the input reads as it did. -/
def fnExactApplyDiffSpec : ChangeSpec := { name := "fnExactApplyDiff", fn := fun _ => fun
  | [d1, d2] => { results := [.lit (.bool true)], args := [d1, d2] }
  | _ => none }
def fnExactApplyDiffRow : OpenClaim := { program := "ytpdhmojncndobaa", sum := "a67d11fa0486a33aa2d45f828c92faabcc341c4507cd21d48262824d2953655a", func := "loop.example/g00931/laws.FnExactApplyDiff", spec := "fnExactApplyDiff", apart := false }
def FnExactApplyDiffSaid : Prop := fnExactApplyDiffRow.holds Try.pinned (OpenSpec.ofChange fnExactApplyDiffSpec)

/-- ITS FALSE NEIGHBOUR: 'it returns false'. Refute it at one input. -/
def fnExactApplyDiffWrong : ChangeSpec := { name := "fnExactApplyDiff", fn := fun _ => fun
  | [d1, d2] => { results := [.lit (.bool false)], args := [d1, d2] }
  | _ => none }
def FnExactApplyDiffWrongFalsely : Prop := fnExactApplyDiffRow.holds Try.pinned (OpenSpec.ofChange fnExactApplyDiffWrong)

/-- 'laws.FnExactNewJournal': WHATEVER THE INPUT: true; the input reads as it did. -/
def fnExactNewJournalSpec : ChangeSpec := { name := "fnExactNewJournal", fn := fun _ => fun
  | [d] => { results := [.lit (.bool true)], args := [d] }
  | _ => none }
def fnExactNewJournalRow : OpenClaim := { program := "ytpdhmojncndobaa", sum := "a67d11fa0486a33aa2d45f828c92faabcc341c4507cd21d48262824d2953655a", func := "loop.example/g00931/laws.FnExactNewJournal", spec := "fnExactNewJournal", apart := false }
def FnExactNewJournalSaid : Prop := fnExactNewJournalRow.holds Try.pinned (OpenSpec.ofChange fnExactNewJournalSpec)

/-- ITS FALSE NEIGHBOUR: 'it returns false'. Refute it at one input. -/
def fnExactNewJournalWrong : ChangeSpec := { name := "fnExactNewJournal", fn := fun _ => fun
  | [d] => { results := [.lit (.bool false)], args := [d] }
  | _ => none }
def FnExactNewJournalWrongFalsely : Prop := fnExactNewJournalRow.holds Try.pinned (OpenSpec.ofChange fnExactNewJournalWrong)

/-- 'laws.FnExactValidJournal': WHATEVER THE INPUT: true; the input reads as it did. -/
def fnExactValidJournalSpec : ChangeSpec := { name := "fnExactValidJournal", fn := fun _ => fun
  | [d] => { results := [.lit (.bool true)], args := [d] }
  | _ => none }
def fnExactValidJournalRow : OpenClaim := { program := "ytpdhmojncndobaa", sum := "a67d11fa0486a33aa2d45f828c92faabcc341c4507cd21d48262824d2953655a", func := "loop.example/g00931/laws.FnExactValidJournal", spec := "fnExactValidJournal", apart := false }
def FnExactValidJournalSaid : Prop := fnExactValidJournalRow.holds Try.pinned (OpenSpec.ofChange fnExactValidJournalSpec)

/-- ITS FALSE NEIGHBOUR: 'it returns false'. Refute it at one input. -/
def fnExactValidJournalWrong : ChangeSpec := { name := "fnExactValidJournal", fn := fun _ => fun
  | [d] => { results := [.lit (.bool false)], args := [d] }
  | _ => none }
def FnExactValidJournalWrongFalsely : Prop := fnExactValidJournalRow.holds Try.pinned (OpenSpec.ofChange fnExactValidJournalWrong)

/-- 'laws.FnExactReadDiff': WHATEVER THE INPUT: true; the input reads as it did. -/
def fnExactReadDiffSpec : ChangeSpec := { name := "fnExactReadDiff", fn := fun _ => fun
  | [d] => { results := [.lit (.bool true)], args := [d] }
  | _ => none }
def fnExactReadDiffRow : OpenClaim := { program := "ytpdhmojncndobaa", sum := "a67d11fa0486a33aa2d45f828c92faabcc341c4507cd21d48262824d2953655a", func := "loop.example/g00931/laws.FnExactReadDiff", spec := "fnExactReadDiff", apart := false }
def FnExactReadDiffSaid : Prop := fnExactReadDiffRow.holds Try.pinned (OpenSpec.ofChange fnExactReadDiffSpec)

/-- ITS FALSE NEIGHBOUR: 'it returns false'. Refute it at one input. -/
def fnExactReadDiffWrong : ChangeSpec := { name := "fnExactReadDiff", fn := fun _ => fun
  | [d] => { results := [.lit (.bool false)], args := [d] }
  | _ => none }
def FnExactReadDiffWrongFalsely : Prop := fnExactReadDiffRow.holds Try.pinned (OpenSpec.ofChange fnExactReadDiffWrong)

/-- 'laws.FnExactStartOf': WHATEVER THE INPUT: true; the input reads as it did. -/
def fnExactStartOfSpec : ChangeSpec := { name := "fnExactStartOf", fn := fun _ => fun
  | [d] => { results := [.lit (.bool true)], args := [d] }
  | _ => none }
def fnExactStartOfRow : OpenClaim := { program := "ytpdhmojncndobaa", sum := "a67d11fa0486a33aa2d45f828c92faabcc341c4507cd21d48262824d2953655a", func := "loop.example/g00931/laws.FnExactStartOf", spec := "fnExactStartOf", apart := false }
def FnExactStartOfSaid : Prop := fnExactStartOfRow.holds Try.pinned (OpenSpec.ofChange fnExactStartOfSpec)

/-- ITS FALSE NEIGHBOUR: 'it returns false'. Refute it at one input. -/
def fnExactStartOfWrong : ChangeSpec := { name := "fnExactStartOf", fn := fun _ => fun
  | [d] => { results := [.lit (.bool false)], args := [d] }
  | _ => none }
def FnExactStartOfWrongFalsely : Prop := fnExactStartOfRow.holds Try.pinned (OpenSpec.ofChange fnExactStartOfWrong)

/-- 'laws.FnExactDeskText': WHATEVER THE INPUT: true; the input reads as it did. -/
def fnExactDeskTextSpec : ChangeSpec := { name := "fnExactDeskText", fn := fun _ => fun
  | [d] => { results := [.lit (.bool true)], args := [d] }
  | _ => none }
def fnExactDeskTextRow : OpenClaim := { program := "ytpdhmojncndobaa", sum := "a67d11fa0486a33aa2d45f828c92faabcc341c4507cd21d48262824d2953655a", func := "loop.example/g00931/laws.FnExactDeskText", spec := "fnExactDeskText", apart := false }
def FnExactDeskTextSaid : Prop := fnExactDeskTextRow.holds Try.pinned (OpenSpec.ofChange fnExactDeskTextSpec)

/-- ITS FALSE NEIGHBOUR: 'it returns false'. Refute it at one input. -/
def fnExactDeskTextWrong : ChangeSpec := { name := "fnExactDeskText", fn := fun _ => fun
  | [d] => { results := [.lit (.bool false)], args := [d] }
  | _ => none }
def FnExactDeskTextWrongFalsely : Prop := fnExactDeskTextRow.holds Try.pinned (OpenSpec.ofChange fnExactDeskTextWrong)

/-- 'laws.FnExactSquashJournal': WHATEVER THE INPUT: true; the input reads as it did. -/
def fnExactSquashJournalSpec : ChangeSpec := { name := "fnExactSquashJournal", fn := fun _ => fun
  | [d] => { results := [.lit (.bool true)], args := [d] }
  | _ => none }
def fnExactSquashJournalRow : OpenClaim := { program := "ytpdhmojncndobaa", sum := "a67d11fa0486a33aa2d45f828c92faabcc341c4507cd21d48262824d2953655a", func := "loop.example/g00931/laws.FnExactSquashJournal", spec := "fnExactSquashJournal", apart := false }
def FnExactSquashJournalSaid : Prop := fnExactSquashJournalRow.holds Try.pinned (OpenSpec.ofChange fnExactSquashJournalSpec)

/-- ITS FALSE NEIGHBOUR: 'it returns false'. Refute it at one input. -/
def fnExactSquashJournalWrong : ChangeSpec := { name := "fnExactSquashJournal", fn := fun _ => fun
  | [d] => { results := [.lit (.bool false)], args := [d] }
  | _ => none }
def FnExactSquashJournalWrongFalsely : Prop := fnExactSquashJournalRow.holds Try.pinned (OpenSpec.ofChange fnExactSquashJournalWrong)

/-- 'laws.FnExactDoStep': WHATEVER THE INPUT: true; the input reads as it did. -/
def fnExactDoStepSpec : ChangeSpec := { name := "fnExactDoStep", fn := fun _ => fun
  | [d1, d2, d3] => { results := [.lit (.bool true)], args := [d1, d2, d3] }
  | _ => none }
def fnExactDoStepRow : OpenClaim := { program := "ytpdhmojncndobaa", sum := "a67d11fa0486a33aa2d45f828c92faabcc341c4507cd21d48262824d2953655a", func := "loop.example/g00931/laws.FnExactDoStep", spec := "fnExactDoStep", apart := false }
def FnExactDoStepSaid : Prop := fnExactDoStepRow.holds Try.pinned (OpenSpec.ofChange fnExactDoStepSpec)

/-- ITS FALSE NEIGHBOUR: 'it returns false'. Refute it at one input. -/
def fnExactDoStepWrong : ChangeSpec := { name := "fnExactDoStep", fn := fun _ => fun
  | [d1, d2, d3] => { results := [.lit (.bool false)], args := [d1, d2, d3] }
  | _ => none }
def FnExactDoStepWrongFalsely : Prop := fnExactDoStepRow.holds Try.pinned (OpenSpec.ofChange fnExactDoStepWrong)

/-- 'laws.FnExactRedoStep': WHATEVER THE INPUT: true; the input reads as it did. -/
def fnExactRedoStepSpec : ChangeSpec := { name := "fnExactRedoStep", fn := fun _ => fun
  | [d] => { results := [.lit (.bool true)], args := [d] }
  | _ => none }
def fnExactRedoStepRow : OpenClaim := { program := "ytpdhmojncndobaa", sum := "a67d11fa0486a33aa2d45f828c92faabcc341c4507cd21d48262824d2953655a", func := "loop.example/g00931/laws.FnExactRedoStep", spec := "fnExactRedoStep", apart := false }
def FnExactRedoStepSaid : Prop := fnExactRedoStepRow.holds Try.pinned (OpenSpec.ofChange fnExactRedoStepSpec)

/-- ITS FALSE NEIGHBOUR: 'it returns false'. Refute it at one input. -/
def fnExactRedoStepWrong : ChangeSpec := { name := "fnExactRedoStep", fn := fun _ => fun
  | [d] => { results := [.lit (.bool false)], args := [d] }
  | _ => none }
def FnExactRedoStepWrongFalsely : Prop := fnExactRedoStepRow.holds Try.pinned (OpenSpec.ofChange fnExactRedoStepWrong)

/-- 'laws.FnExactUndoStep': WHATEVER THE INPUT: true; the input reads as it did. -/
def fnExactUndoStepSpec : ChangeSpec := { name := "fnExactUndoStep", fn := fun _ => fun
  | [d] => { results := [.lit (.bool true)], args := [d] }
  | _ => none }
def fnExactUndoStepRow : OpenClaim := { program := "ytpdhmojncndobaa", sum := "a67d11fa0486a33aa2d45f828c92faabcc341c4507cd21d48262824d2953655a", func := "loop.example/g00931/laws.FnExactUndoStep", spec := "fnExactUndoStep", inPlace := ["slices.overlaps[loop.example/g00931/impl.JournalStep]"], apart := false }
def FnExactUndoStepSaid : Prop := fnExactUndoStepRow.holds Try.pinned (OpenSpec.ofChange fnExactUndoStepSpec)

/-- ITS FALSE NEIGHBOUR: 'it returns false'. Refute it at one input. -/
def fnExactUndoStepWrong : ChangeSpec := { name := "fnExactUndoStep", fn := fun _ => fun
  | [d] => { results := [.lit (.bool false)], args := [d] }
  | _ => none }
def FnExactUndoStepWrongFalsely : Prop := fnExactUndoStepRow.holds Try.pinned (OpenSpec.ofChange fnExactUndoStepWrong)

/-- 'laws.FnExactGoToStep': WHATEVER THE INPUT: true; the input reads as it did. -/
def fnExactGoToStepSpec : ChangeSpec := { name := "fnExactGoToStep", fn := fun _ => fun
  | [d1, d2] => { results := [.lit (.bool true)], args := [d1, d2] }
  | _ => none }
def fnExactGoToStepRow : OpenClaim := { program := "ytpdhmojncndobaa", sum := "a67d11fa0486a33aa2d45f828c92faabcc341c4507cd21d48262824d2953655a", func := "loop.example/g00931/laws.FnExactGoToStep", spec := "fnExactGoToStep", inPlace := ["slices.overlaps[loop.example/g00931/impl.JournalStep]"], apart := false }
def FnExactGoToStepSaid : Prop := fnExactGoToStepRow.holds Try.pinned (OpenSpec.ofChange fnExactGoToStepSpec)

/-- ITS FALSE NEIGHBOUR: 'it returns false'. Refute it at one input. -/
def fnExactGoToStepWrong : ChangeSpec := { name := "fnExactGoToStep", fn := fun _ => fun
  | [d1, d2] => { results := [.lit (.bool false)], args := [d1, d2] }
  | _ => none }
def FnExactGoToStepWrongFalsely : Prop := fnExactGoToStepRow.holds Try.pinned (OpenSpec.ofChange fnExactGoToStepWrong)

/- THE SECOND FORM. 'bulk': how many values and letters a reading holds, each counted each time it is reached (what is shared counts as often as it is met; a slice's spare places count too). A statement '..UptoSaid' is the law's where the arguments, and the package variables that the reading takes, are together of bulk at most 1048576: NARROWER than '..Said'. Prove '..Said' where nothing that the law and all that it calls make is longer than what came in: it says more and counts as full. Else prove '..UptoSaid'. A law counts once. -/
mutual
def uptoBulk {H : Type} : DataW H → Nat
  | .lit (.string bytes) => bytes.length + 1
  | .lit _ => 1
  | .nil => 1
  | .ptr d => uptoBulk d + 1
  | .slice elems spare => uptoBulkAll elems + uptoBulkAll spare + 1
  | .agg parts => uptoBulkAll parts + 1
  | .iface _ d => uptoBulk d + 1
  | .map entries => uptoBulkEntries entries + 1
  | .held _ => 1
def uptoBulkAll {H : Type} : List (DataW H) → Nat
  | [] => 0
  | d :: r => uptoBulk d + uptoBulkAll r
def uptoBulkEntries {H : Type} : List (Lit × DataW H) → Nat
  | [] => 0
  | x :: r => uptoBulkEntry x + uptoBulkEntries r
def uptoBulkEntry {H : Type} : Lit × DataW H → Nat
  | (.string bytes, d) => bytes.length + uptoBulk d + 1
  | (_, d) => uptoBulk d + 1
 end
def uptoSmall : (H : Type) → List (DataW H) → Bool := fun _ ds => decide (uptoBulkAll ds ≤ 1048576)
def OpenSpec.upto (s : _root_.Go.ChangeSpec) : _root_.Go.OpenSpec := { _root_.Go.OpenSpec.ofChange s with cond := some uptoSmall }

/-- 'laws.FnExactPastePart', WHERE WHAT IT READS IS OF BULK AT MOST 1048576: true; the input reads as it did. -/
def fnExactPastePartUptoRow : OpenClaim := { program := "ytpdhmojncndobaa", sum := "a67d11fa0486a33aa2d45f828c92faabcc341c4507cd21d48262824d2953655a", func := "loop.example/g00931/laws.FnExactPastePart", spec := "fnExactPastePart", apart := false, narrowed := true }
def FnExactPastePartUptoSaid : Prop := fnExactPastePartUptoRow.holds Try.pinned (OpenSpec.upto fnExactPastePartSpec)

/-- 'laws.FnExactApplyDiff', WHERE WHAT IT READS IS OF BULK AT MOST 1048576: true; the input reads as it did. -/
def fnExactApplyDiffUptoRow : OpenClaim := { program := "ytpdhmojncndobaa", sum := "a67d11fa0486a33aa2d45f828c92faabcc341c4507cd21d48262824d2953655a", func := "loop.example/g00931/laws.FnExactApplyDiff", spec := "fnExactApplyDiff", apart := false, narrowed := true }
def FnExactApplyDiffUptoSaid : Prop := fnExactApplyDiffUptoRow.holds Try.pinned (OpenSpec.upto fnExactApplyDiffSpec)

/-- 'laws.FnExactNewJournal', WHERE WHAT IT READS IS OF BULK AT MOST 1048576: true; the input reads as it did. -/
def fnExactNewJournalUptoRow : OpenClaim := { program := "ytpdhmojncndobaa", sum := "a67d11fa0486a33aa2d45f828c92faabcc341c4507cd21d48262824d2953655a", func := "loop.example/g00931/laws.FnExactNewJournal", spec := "fnExactNewJournal", apart := false, narrowed := true }
def FnExactNewJournalUptoSaid : Prop := fnExactNewJournalUptoRow.holds Try.pinned (OpenSpec.upto fnExactNewJournalSpec)

/-- 'laws.FnExactValidJournal', WHERE WHAT IT READS IS OF BULK AT MOST 1048576: true; the input reads as it did. -/
def fnExactValidJournalUptoRow : OpenClaim := { program := "ytpdhmojncndobaa", sum := "a67d11fa0486a33aa2d45f828c92faabcc341c4507cd21d48262824d2953655a", func := "loop.example/g00931/laws.FnExactValidJournal", spec := "fnExactValidJournal", apart := false, narrowed := true }
def FnExactValidJournalUptoSaid : Prop := fnExactValidJournalUptoRow.holds Try.pinned (OpenSpec.upto fnExactValidJournalSpec)

/-- 'laws.FnExactReadDiff', WHERE WHAT IT READS IS OF BULK AT MOST 1048576: true; the input reads as it did. -/
def fnExactReadDiffUptoRow : OpenClaim := { program := "ytpdhmojncndobaa", sum := "a67d11fa0486a33aa2d45f828c92faabcc341c4507cd21d48262824d2953655a", func := "loop.example/g00931/laws.FnExactReadDiff", spec := "fnExactReadDiff", apart := false, narrowed := true }
def FnExactReadDiffUptoSaid : Prop := fnExactReadDiffUptoRow.holds Try.pinned (OpenSpec.upto fnExactReadDiffSpec)

/-- 'laws.FnExactStartOf', WHERE WHAT IT READS IS OF BULK AT MOST 1048576: true; the input reads as it did. -/
def fnExactStartOfUptoRow : OpenClaim := { program := "ytpdhmojncndobaa", sum := "a67d11fa0486a33aa2d45f828c92faabcc341c4507cd21d48262824d2953655a", func := "loop.example/g00931/laws.FnExactStartOf", spec := "fnExactStartOf", apart := false, narrowed := true }
def FnExactStartOfUptoSaid : Prop := fnExactStartOfUptoRow.holds Try.pinned (OpenSpec.upto fnExactStartOfSpec)

/-- 'laws.FnExactDeskText', WHERE WHAT IT READS IS OF BULK AT MOST 1048576: true; the input reads as it did. -/
def fnExactDeskTextUptoRow : OpenClaim := { program := "ytpdhmojncndobaa", sum := "a67d11fa0486a33aa2d45f828c92faabcc341c4507cd21d48262824d2953655a", func := "loop.example/g00931/laws.FnExactDeskText", spec := "fnExactDeskText", apart := false, narrowed := true }
def FnExactDeskTextUptoSaid : Prop := fnExactDeskTextUptoRow.holds Try.pinned (OpenSpec.upto fnExactDeskTextSpec)

/-- 'laws.FnExactSquashJournal', WHERE WHAT IT READS IS OF BULK AT MOST 1048576: true; the input reads as it did. -/
def fnExactSquashJournalUptoRow : OpenClaim := { program := "ytpdhmojncndobaa", sum := "a67d11fa0486a33aa2d45f828c92faabcc341c4507cd21d48262824d2953655a", func := "loop.example/g00931/laws.FnExactSquashJournal", spec := "fnExactSquashJournal", apart := false, narrowed := true }
def FnExactSquashJournalUptoSaid : Prop := fnExactSquashJournalUptoRow.holds Try.pinned (OpenSpec.upto fnExactSquashJournalSpec)

/-- 'laws.FnExactDoStep', WHERE WHAT IT READS IS OF BULK AT MOST 1048576: true; the input reads as it did. -/
def fnExactDoStepUptoRow : OpenClaim := { program := "ytpdhmojncndobaa", sum := "a67d11fa0486a33aa2d45f828c92faabcc341c4507cd21d48262824d2953655a", func := "loop.example/g00931/laws.FnExactDoStep", spec := "fnExactDoStep", apart := false, narrowed := true }
def FnExactDoStepUptoSaid : Prop := fnExactDoStepUptoRow.holds Try.pinned (OpenSpec.upto fnExactDoStepSpec)

/-- 'laws.FnExactRedoStep', WHERE WHAT IT READS IS OF BULK AT MOST 1048576: true; the input reads as it did. -/
def fnExactRedoStepUptoRow : OpenClaim := { program := "ytpdhmojncndobaa", sum := "a67d11fa0486a33aa2d45f828c92faabcc341c4507cd21d48262824d2953655a", func := "loop.example/g00931/laws.FnExactRedoStep", spec := "fnExactRedoStep", apart := false, narrowed := true }
def FnExactRedoStepUptoSaid : Prop := fnExactRedoStepUptoRow.holds Try.pinned (OpenSpec.upto fnExactRedoStepSpec)

/-- 'laws.FnExactUndoStep', WHERE WHAT IT READS IS OF BULK AT MOST 1048576: true; the input reads as it did. -/
def fnExactUndoStepUptoRow : OpenClaim := { program := "ytpdhmojncndobaa", sum := "a67d11fa0486a33aa2d45f828c92faabcc341c4507cd21d48262824d2953655a", func := "loop.example/g00931/laws.FnExactUndoStep", spec := "fnExactUndoStep", inPlace := ["slices.overlaps[loop.example/g00931/impl.JournalStep]"], apart := false, narrowed := true }
def FnExactUndoStepUptoSaid : Prop := fnExactUndoStepUptoRow.holds Try.pinned (OpenSpec.upto fnExactUndoStepSpec)

/-- 'laws.FnExactGoToStep', WHERE WHAT IT READS IS OF BULK AT MOST 1048576: true; the input reads as it did. -/
def fnExactGoToStepUptoRow : OpenClaim := { program := "ytpdhmojncndobaa", sum := "a67d11fa0486a33aa2d45f828c92faabcc341c4507cd21d48262824d2953655a", func := "loop.example/g00931/laws.FnExactGoToStep", spec := "fnExactGoToStep", inPlace := ["slices.overlaps[loop.example/g00931/impl.JournalStep]"], apart := false, narrowed := true }
def FnExactGoToStepUptoSaid : Prop := fnExactGoToStepUptoRow.holds Try.pinned (OpenSpec.upto fnExactGoToStepSpec)

end Rows
end Go.Proofs.Ytpdhmojncndobaa

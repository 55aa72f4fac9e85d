/-
  No cell of these rows narrows 'for every input' (looked for: loops, veiled, ifaces, maps, wideKeys, modest, calm, conditions, laid).
  DERIVED. THE GIVEN ROWS OF THIS SEAT. 12 by the template 'for every input the law returns true; each argument reads behind the call as it read before'; 0 by the template 'total and deterministic' (their statements: YtljclhpcpjkihaaTotals.lean).
  GIVEN WITH THE SEED: the statements are not yours to turn. If you find one false, say at which input.
  Laid BY PROGRAM, IN A SANDBOX (cutbox-rows.mjs): the forced cells as the released guide's own fill.sh prints them over the translation e89b36ef8d4d2728… (all of the seat's roots in one cut). By AI agents, Wed Nov 11 2026. No macro, syntax, notation, axiom, sorry.
-/
import Derived.Test.YtljclhpcpjkihaaChecked
import GoSem.Claim
import GoSem.ClaimJoined
import GoSem.ClaimMapViews
import Derived.JoinedTies
import Derived.KernelRfl
namespace Go.Proofs.Ytljclhpcpjkihaa
/- THE CELL 'sum', in the pinned program and in every row, IS THE sha256 OF THE DUMP (.gsa) THAT YtljclhpcpjkihaaProg.lean LOADS. Nothing in Lean hashes anything: it is a label: what it is worth is what the hold of that sum in a sandbox is worth. -/
noncomputable def Try.pinned : Pinned := { name := "ytljclhpcpjkihaa", sum := "e89b36ef8d4d2728c7a25a0f5bc56211a801070c3b086f97c8375aca4b9c47af", checked := Try.checked }
namespace Rows
def none {H : Type} : Left H := { results := [], args := [] }

/-- 'laws.FnExactImageFault': WHATEVER THE INPUT: true; the input reads as it did. -/
def fnExactImageFaultSpec : ChangeSpec := { name := "fnExactImageFault", fn := fun _ => fun
  | [d] => { results := [.lit (.bool true)], args := [d] }
  | _ => none }
def fnExactImageFaultRow : OpenClaim := { program := "ytljclhpcpjkihaa", sum := "e89b36ef8d4d2728c7a25a0f5bc56211a801070c3b086f97c8375aca4b9c47af", func := "loop.example/g00931/laws.FnExactImageFault", spec := "fnExactImageFault", apart := false }
def FnExactImageFaultSaid : Prop := fnExactImageFaultRow.holds Try.pinned (OpenSpec.ofChange fnExactImageFaultSpec)

/-- ITS FALSE NEIGHBOUR: 'it returns false'. Refute it at one input. -/
def fnExactImageFaultWrong : ChangeSpec := { name := "fnExactImageFault", fn := fun _ => fun
  | [d] => { results := [.lit (.bool false)], args := [d] }
  | _ => none }
def FnExactImageFaultWrongFalsely : Prop := fnExactImageFaultRow.holds Try.pinned (OpenSpec.ofChange fnExactImageFaultWrong)

/-- 'laws.FnExactNewDesk': WHATEVER THE INPUT: true; the input reads as it did. -/
def fnExactNewDeskSpec : ChangeSpec := { name := "fnExactNewDesk", fn := fun _ => fun
  | [] => { results := [.lit (.bool true)], args := [] }
  | _ => none }
def fnExactNewDeskRow : OpenClaim := { program := "ytljclhpcpjkihaa", sum := "e89b36ef8d4d2728c7a25a0f5bc56211a801070c3b086f97c8375aca4b9c47af", func := "loop.example/g00931/laws.FnExactNewDesk", spec := "fnExactNewDesk", apart := false }
def FnExactNewDeskSaid : Prop := fnExactNewDeskRow.holds Try.pinned (OpenSpec.ofChange fnExactNewDeskSpec)

/-- ITS FALSE NEIGHBOUR: 'it returns false'. Refute it at one input. -/
def fnExactNewDeskWrong : ChangeSpec := { name := "fnExactNewDesk", fn := fun _ => fun
  | [] => { results := [.lit (.bool false)], args := [] }
  | _ => none }
def FnExactNewDeskWrongFalsely : Prop := fnExactNewDeskRow.holds Try.pinned (OpenSpec.ofChange fnExactNewDeskWrong)

/-- 'laws.FnExactDiffText': WHATEVER THE INPUT: true; the input reads as it did. -/
def fnExactDiffTextSpec : ChangeSpec := { name := "fnExactDiffText", fn := fun _ => fun
  | [d] => { results := [.lit (.bool true)], args := [d] }
  | _ => none }
def fnExactDiffTextRow : OpenClaim := { program := "ytljclhpcpjkihaa", sum := "e89b36ef8d4d2728c7a25a0f5bc56211a801070c3b086f97c8375aca4b9c47af", func := "loop.example/g00931/laws.FnExactDiffText", spec := "fnExactDiffText", apart := false }
def FnExactDiffTextSaid : Prop := fnExactDiffTextRow.holds Try.pinned (OpenSpec.ofChange fnExactDiffTextSpec)

/-- ITS FALSE NEIGHBOUR: 'it returns false'. Refute it at one input. -/
def fnExactDiffTextWrong : ChangeSpec := { name := "fnExactDiffText", fn := fun _ => fun
  | [d] => { results := [.lit (.bool false)], args := [d] }
  | _ => none }
def FnExactDiffTextWrongFalsely : Prop := fnExactDiffTextRow.holds Try.pinned (OpenSpec.ofChange fnExactDiffTextWrong)

/-- 'laws.FnExactPackPanel': WHATEVER THE INPUT: true; the input reads as it did. -/
def fnExactPackPanelSpec : ChangeSpec := { name := "fnExactPackPanel", fn := fun _ => fun
  | [d] => { results := [.lit (.bool true)], args := [d] }
  | _ => none }
def fnExactPackPanelRow : OpenClaim := { program := "ytljclhpcpjkihaa", sum := "e89b36ef8d4d2728c7a25a0f5bc56211a801070c3b086f97c8375aca4b9c47af", func := "loop.example/g00931/laws.FnExactPackPanel", spec := "fnExactPackPanel", apart := false }
def FnExactPackPanelSaid : Prop := fnExactPackPanelRow.holds Try.pinned (OpenSpec.ofChange fnExactPackPanelSpec)

/-- ITS FALSE NEIGHBOUR: 'it returns false'. Refute it at one input. -/
def fnExactPackPanelWrong : ChangeSpec := { name := "fnExactPackPanel", fn := fun _ => fun
  | [d] => { results := [.lit (.bool false)], args := [d] }
  | _ => none }
def FnExactPackPanelWrongFalsely : Prop := fnExactPackPanelRow.holds Try.pinned (OpenSpec.ofChange fnExactPackPanelWrong)

/-- 'laws.FnExactClashesOf': WHATEVER THE INPUT: true; the input reads as it did. -/
def fnExactClashesOfSpec : ChangeSpec := { name := "fnExactClashesOf", fn := fun _ => fun
  | [d1, d2, d3] => { results := [.lit (.bool true)], args := [d1, d2, d3] }
  | _ => none }
def fnExactClashesOfRow : OpenClaim := { program := "ytljclhpcpjkihaa", sum := "e89b36ef8d4d2728c7a25a0f5bc56211a801070c3b086f97c8375aca4b9c47af", func := "loop.example/g00931/laws.FnExactClashesOf", spec := "fnExactClashesOf", apart := false }
def FnExactClashesOfSaid : Prop := fnExactClashesOfRow.holds Try.pinned (OpenSpec.ofChange fnExactClashesOfSpec)

/-- ITS FALSE NEIGHBOUR: 'it returns false'. Refute it at one input. -/
def fnExactClashesOfWrong : ChangeSpec := { name := "fnExactClashesOf", fn := fun _ => fun
  | [d1, d2, d3] => { results := [.lit (.bool false)], args := [d1, d2, d3] }
  | _ => none }
def FnExactClashesOfWrongFalsely : Prop := fnExactClashesOfRow.holds Try.pinned (OpenSpec.ofChange fnExactClashesOfWrong)

/-- 'laws.FnExactSameKept': WHATEVER THE INPUT: true; the input reads as it did. -/
def fnExactSameKeptSpec : ChangeSpec := { name := "fnExactSameKept", fn := fun _ => fun
  | [d1, d2] => { results := [.lit (.bool true)], args := [d1, d2] }
  | _ => none }
def fnExactSameKeptRow : OpenClaim := { program := "ytljclhpcpjkihaa", sum := "e89b36ef8d4d2728c7a25a0f5bc56211a801070c3b086f97c8375aca4b9c47af", func := "loop.example/g00931/laws.FnExactSameKept", spec := "fnExactSameKept", unfollowed := true, recurses := true, apart := false }
def FnExactSameKeptSaid : Prop := fnExactSameKeptRow.holds Try.pinned (OpenSpec.ofChange fnExactSameKeptSpec)

/-- ITS FALSE NEIGHBOUR: 'it returns false'. Refute it at one input. -/
def fnExactSameKeptWrong : ChangeSpec := { name := "fnExactSameKept", fn := fun _ => fun
  | [d1, d2] => { results := [.lit (.bool false)], args := [d1, d2] }
  | _ => none }
def FnExactSameKeptWrongFalsely : Prop := fnExactSameKeptRow.holds Try.pinned (OpenSpec.ofChange fnExactSameKeptWrong)

/-- 'laws.FnExactSameJournal': WHATEVER THE INPUT: true; the input reads as it did. -/
def fnExactSameJournalSpec : ChangeSpec := { name := "fnExactSameJournal", fn := fun _ => fun
  | [d1, d2] => { results := [.lit (.bool true)], args := [d1, d2] }
  | _ => none }
def fnExactSameJournalRow : OpenClaim := { program := "ytljclhpcpjkihaa", sum := "e89b36ef8d4d2728c7a25a0f5bc56211a801070c3b086f97c8375aca4b9c47af", func := "loop.example/g00931/laws.FnExactSameJournal", spec := "fnExactSameJournal", apart := false }
def FnExactSameJournalSaid : Prop := fnExactSameJournalRow.holds Try.pinned (OpenSpec.ofChange fnExactSameJournalSpec)

/-- ITS FALSE NEIGHBOUR: 'it returns false'. Refute it at one input. -/
def fnExactSameJournalWrong : ChangeSpec := { name := "fnExactSameJournal", fn := fun _ => fun
  | [d1, d2] => { results := [.lit (.bool false)], args := [d1, d2] }
  | _ => none }
def FnExactSameJournalWrongFalsely : Prop := fnExactSameJournalRow.holds Try.pinned (OpenSpec.ofChange fnExactSameJournalWrong)

/-- 'laws.FnExactUnpackPanel': WHATEVER THE INPUT: true; the input reads as it did. -/
def fnExactUnpackPanelSpec : ChangeSpec := { name := "fnExactUnpackPanel", fn := fun _ => fun
  | [d] => { results := [.lit (.bool true)], args := [d] }
  | _ => none }
def fnExactUnpackPanelRow : OpenClaim := { program := "ytljclhpcpjkihaa", sum := "e89b36ef8d4d2728c7a25a0f5bc56211a801070c3b086f97c8375aca4b9c47af", func := "loop.example/g00931/laws.FnExactUnpackPanel", spec := "fnExactUnpackPanel", apart := false }
def FnExactUnpackPanelSaid : Prop := fnExactUnpackPanelRow.holds Try.pinned (OpenSpec.ofChange fnExactUnpackPanelSpec)

/-- ITS FALSE NEIGHBOUR: 'it returns false'. Refute it at one input. -/
def fnExactUnpackPanelWrong : ChangeSpec := { name := "fnExactUnpackPanel", fn := fun _ => fun
  | [d] => { results := [.lit (.bool false)], args := [d] }
  | _ => none }
def FnExactUnpackPanelWrongFalsely : Prop := fnExactUnpackPanelRow.holds Try.pinned (OpenSpec.ofChange fnExactUnpackPanelWrong)

/-- 'laws.FnExactPartOf': WHATEVER THE INPUT: true; the input reads as it did. -/
def fnExactPartOfSpec : ChangeSpec := { name := "fnExactPartOf", fn := fun _ => fun
  | [d1, d2, d3, d4, d5] => { results := [.lit (.bool true)], args := [d1, d2, d3, d4, d5] }
  | _ => none }
def fnExactPartOfRow : OpenClaim := { program := "ytljclhpcpjkihaa", sum := "e89b36ef8d4d2728c7a25a0f5bc56211a801070c3b086f97c8375aca4b9c47af", func := "loop.example/g00931/laws.FnExactPartOf", spec := "fnExactPartOf", apart := false }
def FnExactPartOfSaid : Prop := fnExactPartOfRow.holds Try.pinned (OpenSpec.ofChange fnExactPartOfSpec)

/-- ITS FALSE NEIGHBOUR: 'it returns false'. Refute it at one input. -/
def fnExactPartOfWrong : ChangeSpec := { name := "fnExactPartOf", fn := fun _ => fun
  | [d1, d2, d3, d4, d5] => { results := [.lit (.bool false)], args := [d1, d2, d3, d4, d5] }
  | _ => none }
def FnExactPartOfWrongFalsely : Prop := fnExactPartOfRow.holds Try.pinned (OpenSpec.ofChange fnExactPartOfWrong)

/-- 'laws.FnExactDiffPanels': WHATEVER THE INPUT: true; the input reads as it did. -/
def fnExactDiffPanelsSpec : ChangeSpec := { name := "fnExactDiffPanels", fn := fun _ => fun
  | [d1, d2] => { results := [.lit (.bool true)], args := [d1, d2] }
  | _ => none }
def fnExactDiffPanelsRow : OpenClaim := { program := "ytljclhpcpjkihaa", sum := "e89b36ef8d4d2728c7a25a0f5bc56211a801070c3b086f97c8375aca4b9c47af", func := "loop.example/g00931/laws.FnExactDiffPanels", spec := "fnExactDiffPanels", apart := false }
def FnExactDiffPanelsSaid : Prop := fnExactDiffPanelsRow.holds Try.pinned (OpenSpec.ofChange fnExactDiffPanelsSpec)

/-- ITS FALSE NEIGHBOUR: 'it returns false'. Refute it at one input. -/
def fnExactDiffPanelsWrong : ChangeSpec := { name := "fnExactDiffPanels", fn := fun _ => fun
  | [d1, d2] => { results := [.lit (.bool false)], args := [d1, d2] }
  | _ => none }
def FnExactDiffPanelsWrongFalsely : Prop := fnExactDiffPanelsRow.holds Try.pinned (OpenSpec.ofChange fnExactDiffPanelsWrong)

/-- 'laws.FnExactMergePanels': WHATEVER THE INPUT: true; the input reads as it did. -/
def fnExactMergePanelsSpec : ChangeSpec := { name := "fnExactMergePanels", fn := fun _ => fun
  | [d1, d2, d3] => { results := [.lit (.bool true)], args := [d1, d2, d3] }
  | _ => none }
def fnExactMergePanelsRow : OpenClaim := { program := "ytljclhpcpjkihaa", sum := "e89b36ef8d4d2728c7a25a0f5bc56211a801070c3b086f97c8375aca4b9c47af", func := "loop.example/g00931/laws.FnExactMergePanels", spec := "fnExactMergePanels", apart := false }
def FnExactMergePanelsSaid : Prop := fnExactMergePanelsRow.holds Try.pinned (OpenSpec.ofChange fnExactMergePanelsSpec)

/-- ITS FALSE NEIGHBOUR: 'it returns false'. Refute it at one input. -/
def fnExactMergePanelsWrong : ChangeSpec := { name := "fnExactMergePanels", fn := fun _ => fun
  | [d1, d2, d3] => { results := [.lit (.bool false)], args := [d1, d2, d3] }
  | _ => none }
def FnExactMergePanelsWrongFalsely : Prop := fnExactMergePanelsRow.holds Try.pinned (OpenSpec.ofChange fnExactMergePanelsWrong)

/-- 'laws.FnExactJoinBeside': WHATEVER THE INPUT: true; the input reads as it did. -/
def fnExactJoinBesideSpec : ChangeSpec := { name := "fnExactJoinBeside", fn := fun _ => fun
  | [d1, d2] => { results := [.lit (.bool true)], args := [d1, d2] }
  | _ => none }
def fnExactJoinBesideRow : OpenClaim := { program := "ytljclhpcpjkihaa", sum := "e89b36ef8d4d2728c7a25a0f5bc56211a801070c3b086f97c8375aca4b9c47af", func := "loop.example/g00931/laws.FnExactJoinBeside", spec := "fnExactJoinBeside", apart := false }
def FnExactJoinBesideSaid : Prop := fnExactJoinBesideRow.holds Try.pinned (OpenSpec.ofChange fnExactJoinBesideSpec)

/-- ITS FALSE NEIGHBOUR: 'it returns false'. Refute it at one input. -/
def fnExactJoinBesideWrong : ChangeSpec := { name := "fnExactJoinBeside", fn := fun _ => fun
  | [d1, d2] => { results := [.lit (.bool false)], args := [d1, d2] }
  | _ => none }
def FnExactJoinBesideWrongFalsely : Prop := fnExactJoinBesideRow.holds Try.pinned (OpenSpec.ofChange fnExactJoinBesideWrong)

/- THE SECOND FORM. 'bulk': how many values and letters a reading holds, each counted each time it is reached (what is shared counts as often as it is met; a slice's spare places count too). A statement '..UptoSaid' is the law's where the arguments, and the package variables that the reading takes, are together of bulk at most 1048576: NARROWER than '..Said'. Prove '..Said' where nothing that the law and all that it calls make is longer than what came in: it says more and counts as full. Else prove '..UptoSaid'. A law counts once. -/
mutual
def uptoBulk {H : Type} : DataW H → Nat
  | .lit (.string bytes) => bytes.length + 1
  | .lit _ => 1
  | .nil => 1
  | .ptr d => uptoBulk d + 1
  | .slice elems spare => uptoBulkAll elems + uptoBulkAll spare + 1
  | .agg parts => uptoBulkAll parts + 1
  | .iface _ d => uptoBulk d + 1
  | .map entries => uptoBulkEntries entries + 1
  | .held _ => 1
def uptoBulkAll {H : Type} : List (DataW H) → Nat
  | [] => 0
  | d :: r => uptoBulk d + uptoBulkAll r
def uptoBulkEntries {H : Type} : List (Lit × DataW H) → Nat
  | [] => 0
  | x :: r => uptoBulkEntry x + uptoBulkEntries r
def uptoBulkEntry {H : Type} : Lit × DataW H → Nat
  | (.string bytes, d) => bytes.length + uptoBulk d + 1
  | (_, d) => uptoBulk d + 1
 end
def uptoSmall : (H : Type) → List (DataW H) → Bool := fun _ ds => decide (uptoBulkAll ds ≤ 1048576)
def OpenSpec.upto (s : _root_.Go.ChangeSpec) : _root_.Go.OpenSpec := { _root_.Go.OpenSpec.ofChange s with cond := some uptoSmall }

/-- 'laws.FnExactImageFault', WHERE WHAT IT READS IS OF BULK AT MOST 1048576: true; the input reads as it did. -/
def fnExactImageFaultUptoRow : OpenClaim := { program := "ytljclhpcpjkihaa", sum := "e89b36ef8d4d2728c7a25a0f5bc56211a801070c3b086f97c8375aca4b9c47af", func := "loop.example/g00931/laws.FnExactImageFault", spec := "fnExactImageFault", apart := false, narrowed := true }
def FnExactImageFaultUptoSaid : Prop := fnExactImageFaultUptoRow.holds Try.pinned (OpenSpec.upto fnExactImageFaultSpec)

/-- 'laws.FnExactNewDesk', WHERE WHAT IT READS IS OF BULK AT MOST 1048576: true; the input reads as it did. -/
def fnExactNewDeskUptoRow : OpenClaim := { program := "ytljclhpcpjkihaa", sum := "e89b36ef8d4d2728c7a25a0f5bc56211a801070c3b086f97c8375aca4b9c47af", func := "loop.example/g00931/laws.FnExactNewDesk", spec := "fnExactNewDesk", apart := false, narrowed := true }
def FnExactNewDeskUptoSaid : Prop := fnExactNewDeskUptoRow.holds Try.pinned (OpenSpec.upto fnExactNewDeskSpec)

/-- 'laws.FnExactDiffText', WHERE WHAT IT READS IS OF BULK AT MOST 1048576: true; the input reads as it did. -/
def fnExactDiffTextUptoRow : OpenClaim := { program := "ytljclhpcpjkihaa", sum := "e89b36ef8d4d2728c7a25a0f5bc56211a801070c3b086f97c8375aca4b9c47af", func := "loop.example/g00931/laws.FnExactDiffText", spec := "fnExactDiffText", apart := false, narrowed := true }
def FnExactDiffTextUptoSaid : Prop := fnExactDiffTextUptoRow.holds Try.pinned (OpenSpec.upto fnExactDiffTextSpec)

/-- 'laws.FnExactPackPanel', WHERE WHAT IT READS IS OF BULK AT MOST 1048576: true; the input reads as it did. -/
def fnExactPackPanelUptoRow : OpenClaim := { program := "ytljclhpcpjkihaa", sum := "e89b36ef8d4d2728c7a25a0f5bc56211a801070c3b086f97c8375aca4b9c47af", func := "loop.example/g00931/laws.FnExactPackPanel", spec := "fnExactPackPanel", apart := false, narrowed := true }
def FnExactPackPanelUptoSaid : Prop := fnExactPackPanelUptoRow.holds Try.pinned (OpenSpec.upto fnExactPackPanelSpec)

/-- 'laws.FnExactClashesOf', WHERE WHAT IT READS IS OF BULK AT MOST 1048576: true; the input reads as it did. -/
def fnExactClashesOfUptoRow : OpenClaim := { program := "ytljclhpcpjkihaa", sum := "e89b36ef8d4d2728c7a25a0f5bc56211a801070c3b086f97c8375aca4b9c47af", func := "loop.example/g00931/laws.FnExactClashesOf", spec := "fnExactClashesOf", apart := false, narrowed := true }
def FnExactClashesOfUptoSaid : Prop := fnExactClashesOfUptoRow.holds Try.pinned (OpenSpec.upto fnExactClashesOfSpec)

/-- 'laws.FnExactSameKept', WHERE WHAT IT READS IS OF BULK AT MOST 1048576: true; the input reads as it did. -/
def fnExactSameKeptUptoRow : OpenClaim := { program := "ytljclhpcpjkihaa", sum := "e89b36ef8d4d2728c7a25a0f5bc56211a801070c3b086f97c8375aca4b9c47af", func := "loop.example/g00931/laws.FnExactSameKept", spec := "fnExactSameKept", unfollowed := true, recurses := true, apart := false, narrowed := true }
def FnExactSameKeptUptoSaid : Prop := fnExactSameKeptUptoRow.holds Try.pinned (OpenSpec.upto fnExactSameKeptSpec)

/-- 'laws.FnExactSameJournal', WHERE WHAT IT READS IS OF BULK AT MOST 1048576: true; the input reads as it did. -/
def fnExactSameJournalUptoRow : OpenClaim := { program := "ytljclhpcpjkihaa", sum := "e89b36ef8d4d2728c7a25a0f5bc56211a801070c3b086f97c8375aca4b9c47af", func := "loop.example/g00931/laws.FnExactSameJournal", spec := "fnExactSameJournal", apart := false, narrowed := true }
def FnExactSameJournalUptoSaid : Prop := fnExactSameJournalUptoRow.holds Try.pinned (OpenSpec.upto fnExactSameJournalSpec)

/-- 'laws.FnExactUnpackPanel', WHERE WHAT IT READS IS OF BULK AT MOST 1048576: true; the input reads as it did. -/
def fnExactUnpackPanelUptoRow : OpenClaim := { program := "ytljclhpcpjkihaa", sum := "e89b36ef8d4d2728c7a25a0f5bc56211a801070c3b086f97c8375aca4b9c47af", func := "loop.example/g00931/laws.FnExactUnpackPanel", spec := "fnExactUnpackPanel", apart := false, narrowed := true }
def FnExactUnpackPanelUptoSaid : Prop := fnExactUnpackPanelUptoRow.holds Try.pinned (OpenSpec.upto fnExactUnpackPanelSpec)

/-- 'laws.FnExactPartOf', WHERE WHAT IT READS IS OF BULK AT MOST 1048576: true; the input reads as it did. -/
def fnExactPartOfUptoRow : OpenClaim := { program := "ytljclhpcpjkihaa", sum := "e89b36ef8d4d2728c7a25a0f5bc56211a801070c3b086f97c8375aca4b9c47af", func := "loop.example/g00931/laws.FnExactPartOf", spec := "fnExactPartOf", apart := false, narrowed := true }
def FnExactPartOfUptoSaid : Prop := fnExactPartOfUptoRow.holds Try.pinned (OpenSpec.upto fnExactPartOfSpec)

/-- 'laws.FnExactDiffPanels', WHERE WHAT IT READS IS OF BULK AT MOST 1048576: true; the input reads as it did. -/
def fnExactDiffPanelsUptoRow : OpenClaim := { program := "ytljclhpcpjkihaa", sum := "e89b36ef8d4d2728c7a25a0f5bc56211a801070c3b086f97c8375aca4b9c47af", func := "loop.example/g00931/laws.FnExactDiffPanels", spec := "fnExactDiffPanels", apart := false, narrowed := true }
def FnExactDiffPanelsUptoSaid : Prop := fnExactDiffPanelsUptoRow.holds Try.pinned (OpenSpec.upto fnExactDiffPanelsSpec)

/-- 'laws.FnExactMergePanels', WHERE WHAT IT READS IS OF BULK AT MOST 1048576: true; the input reads as it did. -/
def fnExactMergePanelsUptoRow : OpenClaim := { program := "ytljclhpcpjkihaa", sum := "e89b36ef8d4d2728c7a25a0f5bc56211a801070c3b086f97c8375aca4b9c47af", func := "loop.example/g00931/laws.FnExactMergePanels", spec := "fnExactMergePanels", apart := false, narrowed := true }
def FnExactMergePanelsUptoSaid : Prop := fnExactMergePanelsUptoRow.holds Try.pinned (OpenSpec.upto fnExactMergePanelsSpec)

/-- 'laws.FnExactJoinBeside', WHERE WHAT IT READS IS OF BULK AT MOST 1048576: true; the input reads as it did. -/
def fnExactJoinBesideUptoRow : OpenClaim := { program := "ytljclhpcpjkihaa", sum := "e89b36ef8d4d2728c7a25a0f5bc56211a801070c3b086f97c8375aca4b9c47af", func := "loop.example/g00931/laws.FnExactJoinBeside", spec := "fnExactJoinBeside", apart := false, narrowed := true }
def FnExactJoinBesideUptoSaid : Prop := fnExactJoinBesideUptoRow.holds Try.pinned (OpenSpec.upto fnExactJoinBesideSpec)

end Rows
end Go.Proofs.Ytljclhpcpjkihaa

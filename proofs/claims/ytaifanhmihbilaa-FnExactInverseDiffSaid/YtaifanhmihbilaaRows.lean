/-
  No cell of these rows narrows 'for every input' (looked for: loops, veiled, ifaces, maps, wideKeys, modest, calm, conditions, laid).
  DERIVED. THE GIVEN ROWS OF THIS SEAT. 6 by the template 'for every input the law returns true; each argument reads behind the call as it read before'; 0 by the template 'total and deterministic' (their statements: YtaifanhmihbilaaTotals.lean).
  GIVEN WITH THE SEED: the statements are not yours to turn. If you find one false, say at which input.
  Laid BY PROGRAM, IN A SANDBOX (cutbox-rows.mjs): the forced cells as the released guide's own fill.sh prints them over the translation 9132abc4f9ddc8f5… (all of the seat's roots in one cut). By AI agents, Wed Nov 11 2026. No macro, syntax, notation, axiom, sorry.
-/
import Derived.Test.YtaifanhmihbilaaChecked
import GoSem.Claim
import GoSem.ClaimJoined
import GoSem.ClaimMapViews
import Derived.JoinedTies
import Derived.KernelRfl
namespace Go.Proofs.Ytaifanhmihbilaa
/- THE CELL 'sum', in the pinned program and in every row, IS THE sha256 OF THE DUMP (.gsa) THAT YtaifanhmihbilaaProg.lean LOADS. Nothing in Lean hashes anything: it is a label: what it is worth is what the hold of that sum in a sandbox is worth. -/
noncomputable def Try.pinned : Pinned := { name := "ytaifanhmihbilaa", sum := "9132abc4f9ddc8f55746b91af460ae053f205cf6ec1af68317a171946bc56899", checked := Try.checked }
namespace Rows
def none {H : Type} : Left H := { results := [], args := [] }

/-- 'laws.FnExactHexText': WHATEVER THE INPUT: true; the input reads as it did. -/
def fnExactHexTextSpec : ChangeSpec := { name := "fnExactHexText", fn := fun _ => fun
  | [d] => { results := [.lit (.bool true)], args := [d] }
  | _ => none }
def fnExactHexTextRow : OpenClaim := { program := "ytaifanhmihbilaa", sum := "9132abc4f9ddc8f55746b91af460ae053f205cf6ec1af68317a171946bc56899", func := "loop.example/g00931/laws.FnExactHexText", spec := "fnExactHexText", apart := false }
def FnExactHexTextSaid : Prop := fnExactHexTextRow.holds Try.pinned (OpenSpec.ofChange fnExactHexTextSpec)

/-- ITS FALSE NEIGHBOUR: 'it returns false'. Refute it at one input. -/
def fnExactHexTextWrong : ChangeSpec := { name := "fnExactHexText", fn := fun _ => fun
  | [d] => { results := [.lit (.bool false)], args := [d] }
  | _ => none }
def FnExactHexTextWrongFalsely : Prop := fnExactHexTextRow.holds Try.pinned (OpenSpec.ofChange fnExactHexTextWrong)

/-- 'laws.FnExactChecksumOf': WHATEVER THE INPUT: true; the input reads as it did. -/
def fnExactChecksumOfSpec : ChangeSpec := { name := "fnExactChecksumOf", fn := fun _ => fun
  | [d] => { results := [.lit (.bool true)], args := [d] }
  | _ => none }
def fnExactChecksumOfRow : OpenClaim := { program := "ytaifanhmihbilaa", sum := "9132abc4f9ddc8f55746b91af460ae053f205cf6ec1af68317a171946bc56899", func := "loop.example/g00931/laws.FnExactChecksumOf", spec := "fnExactChecksumOf", apart := false }
def FnExactChecksumOfSaid : Prop := fnExactChecksumOfRow.holds Try.pinned (OpenSpec.ofChange fnExactChecksumOfSpec)

/-- ITS FALSE NEIGHBOUR: 'it returns false'. Refute it at one input. -/
def fnExactChecksumOfWrong : ChangeSpec := { name := "fnExactChecksumOf", fn := fun _ => fun
  | [d] => { results := [.lit (.bool false)], args := [d] }
  | _ => none }
def FnExactChecksumOfWrongFalsely : Prop := fnExactChecksumOfRow.holds Try.pinned (OpenSpec.ofChange fnExactChecksumOfWrong)

/-- 'laws.FnExactPackedSize': WHATEVER THE INPUT: true; the input reads as it did. -/
def fnExactPackedSizeSpec : ChangeSpec := { name := "fnExactPackedSize", fn := fun _ => fun
  | [d1, d2] => { results := [.lit (.bool true)], args := [d1, d2] }
  | _ => none }
def fnExactPackedSizeRow : OpenClaim := { program := "ytaifanhmihbilaa", sum := "9132abc4f9ddc8f55746b91af460ae053f205cf6ec1af68317a171946bc56899", func := "loop.example/g00931/laws.FnExactPackedSize", spec := "fnExactPackedSize", apart := false }
def FnExactPackedSizeSaid : Prop := fnExactPackedSizeRow.holds Try.pinned (OpenSpec.ofChange fnExactPackedSizeSpec)

/-- ITS FALSE NEIGHBOUR: 'it returns false'. Refute it at one input. -/
def fnExactPackedSizeWrong : ChangeSpec := { name := "fnExactPackedSize", fn := fun _ => fun
  | [d1, d2] => { results := [.lit (.bool false)], args := [d1, d2] }
  | _ => none }
def FnExactPackedSizeWrongFalsely : Prop := fnExactPackedSizeRow.holds Try.pinned (OpenSpec.ofChange fnExactPackedSizeWrong)

/-- 'laws.FnExactDeskWords': WHATEVER THE INPUT: true; the input reads as it did. -/
def fnExactDeskWordsSpec : ChangeSpec := { name := "fnExactDeskWords", fn := fun _ => fun
  | [] => { results := [.lit (.bool true)], args := [] }
  | _ => none }
def fnExactDeskWordsRow : OpenClaim := { program := "ytaifanhmihbilaa", sum := "9132abc4f9ddc8f55746b91af460ae053f205cf6ec1af68317a171946bc56899", func := "loop.example/g00931/laws.FnExactDeskWords", spec := "fnExactDeskWords", apart := false }
def FnExactDeskWordsSaid : Prop := fnExactDeskWordsRow.holds Try.pinned (OpenSpec.ofChange fnExactDeskWordsSpec)

/-- ITS FALSE NEIGHBOUR: 'it returns false'. Refute it at one input. -/
def fnExactDeskWordsWrong : ChangeSpec := { name := "fnExactDeskWords", fn := fun _ => fun
  | [] => { results := [.lit (.bool false)], args := [] }
  | _ => none }
def FnExactDeskWordsWrongFalsely : Prop := fnExactDeskWordsRow.holds Try.pinned (OpenSpec.ofChange fnExactDeskWordsWrong)

/-- 'laws.FnExactReadHex': WHATEVER THE INPUT: true; the input reads as it did. -/
def fnExactReadHexSpec : ChangeSpec := { name := "fnExactReadHex", fn := fun _ => fun
  | [d] => { results := [.lit (.bool true)], args := [d] }
  | _ => none }
def fnExactReadHexRow : OpenClaim := { program := "ytaifanhmihbilaa", sum := "9132abc4f9ddc8f55746b91af460ae053f205cf6ec1af68317a171946bc56899", func := "loop.example/g00931/laws.FnExactReadHex", spec := "fnExactReadHex", apart := false }
def FnExactReadHexSaid : Prop := fnExactReadHexRow.holds Try.pinned (OpenSpec.ofChange fnExactReadHexSpec)

/-- ITS FALSE NEIGHBOUR: 'it returns false'. Refute it at one input. -/
def fnExactReadHexWrong : ChangeSpec := { name := "fnExactReadHex", fn := fun _ => fun
  | [d] => { results := [.lit (.bool false)], args := [d] }
  | _ => none }
def FnExactReadHexWrongFalsely : Prop := fnExactReadHexRow.holds Try.pinned (OpenSpec.ofChange fnExactReadHexWrong)

/-- 'laws.FnExactInverseDiff': WHATEVER THE INPUT: true; the input reads as it did. -/
def fnExactInverseDiffSpec : ChangeSpec := { name := "fnExactInverseDiff", fn := fun _ => fun
  | [d] => { results := [.lit (.bool true)], args := [d] }
  | _ => none }
def fnExactInverseDiffRow : OpenClaim := { program := "ytaifanhmihbilaa", sum := "9132abc4f9ddc8f55746b91af460ae053f205cf6ec1af68317a171946bc56899", func := "loop.example/g00931/laws.FnExactInverseDiff", spec := "fnExactInverseDiff", apart := false }
def FnExactInverseDiffSaid : Prop := fnExactInverseDiffRow.holds Try.pinned (OpenSpec.ofChange fnExactInverseDiffSpec)

/-- ITS FALSE NEIGHBOUR: 'it returns false'. Refute it at one input. -/
def fnExactInverseDiffWrong : ChangeSpec := { name := "fnExactInverseDiff", fn := fun _ => fun
  | [d] => { results := [.lit (.bool false)], args := [d] }
  | _ => none }
def FnExactInverseDiffWrongFalsely : Prop := fnExactInverseDiffRow.holds Try.pinned (OpenSpec.ofChange fnExactInverseDiffWrong)

/- THE SECOND FORM. 'bulk': how many values and letters a reading holds, each counted each time it is reached (what is shared counts as often as it is met; a slice's spare places count too). A statement '..UptoSaid' is the law's where the arguments, and the package variables that the reading takes, are together of bulk at most 1048576: NARROWER than '..Said'. Prove '..Said' where nothing that the law and all that it calls make is longer than what came in: it says more and counts as full. Else prove '..UptoSaid'. A law counts once. -/
mutual
def uptoBulk {H : Type} : DataW H → Nat
  | .lit (.string bytes) => bytes.length + 1
  | .lit _ => 1
  | .nil => 1
  | .ptr d => uptoBulk d + 1
  | .slice elems spare => uptoBulkAll elems + uptoBulkAll spare + 1
  | .agg parts => uptoBulkAll parts + 1
  | .iface _ d => uptoBulk d + 1
  | .map entries => uptoBulkEntries entries + 1
  | .held _ => 1
def uptoBulkAll {H : Type} : List (DataW H) → Nat
  | [] => 0
  | d :: r => uptoBulk d + uptoBulkAll r
def uptoBulkEntries {H : Type} : List (Lit × DataW H) → Nat
  | [] => 0
  | x :: r => uptoBulkEntry x + uptoBulkEntries r
def uptoBulkEntry {H : Type} : Lit × DataW H → Nat
  | (.string bytes, d) => bytes.length + uptoBulk d + 1
  | (_, d) => uptoBulk d + 1
 end
def uptoSmall : (H : Type) → List (DataW H) → Bool := fun _ ds => decide (uptoBulkAll ds ≤ 1048576)
def OpenSpec.upto (s : _root_.Go.ChangeSpec) : _root_.Go.OpenSpec := { _root_.Go.OpenSpec.ofChange s with cond := some uptoSmall }

/-- 'laws.FnExactHexText', WHERE WHAT IT READS IS OF BULK AT MOST 1048576: true; the input reads as it did. -/
def fnExactHexTextUptoRow : OpenClaim := { program := "ytaifanhmihbilaa", sum := "9132abc4f9ddc8f55746b91af460ae053f205cf6ec1af68317a171946bc56899", func := "loop.example/g00931/laws.FnExactHexText", spec := "fnExactHexText", apart := false, narrowed := true }
def FnExactHexTextUptoSaid : Prop := fnExactHexTextUptoRow.holds Try.pinned (OpenSpec.upto fnExactHexTextSpec)

/-- 'laws.FnExactChecksumOf', WHERE WHAT IT READS IS OF BULK AT MOST 1048576: true; the input reads as it did. -/
def fnExactChecksumOfUptoRow : OpenClaim := { program := "ytaifanhmihbilaa", sum := "9132abc4f9ddc8f55746b91af460ae053f205cf6ec1af68317a171946bc56899", func := "loop.example/g00931/laws.FnExactChecksumOf", spec := "fnExactChecksumOf", apart := false, narrowed := true }
def FnExactChecksumOfUptoSaid : Prop := fnExactChecksumOfUptoRow.holds Try.pinned (OpenSpec.upto fnExactChecksumOfSpec)

/-- 'laws.FnExactPackedSize', WHERE WHAT IT READS IS OF BULK AT MOST 1048576: true; the input reads as it did. -/
def fnExactPackedSizeUptoRow : OpenClaim := { program := "ytaifanhmihbilaa", sum := "9132abc4f9ddc8f55746b91af460ae053f205cf6ec1af68317a171946bc56899", func := "loop.example/g00931/laws.FnExactPackedSize", spec := "fnExactPackedSize", apart := false, narrowed := true }
def FnExactPackedSizeUptoSaid : Prop := fnExactPackedSizeUptoRow.holds Try.pinned (OpenSpec.upto fnExactPackedSizeSpec)

/-- 'laws.FnExactDeskWords', WHERE WHAT IT READS IS OF BULK AT MOST 1048576: true; the input reads as it did. -/
def fnExactDeskWordsUptoRow : OpenClaim := { program := "ytaifanhmihbilaa", sum := "9132abc4f9ddc8f55746b91af460ae053f205cf6ec1af68317a171946bc56899", func := "loop.example/g00931/laws.FnExactDeskWords", spec := "fnExactDeskWords", apart := false, narrowed := true }
def FnExactDeskWordsUptoSaid : Prop := fnExactDeskWordsUptoRow.holds Try.pinned (OpenSpec.upto fnExactDeskWordsSpec)

/-- 'laws.FnExactReadHex', WHERE WHAT IT READS IS OF BULK AT MOST 1048576: true; the input reads as it did. -/
def fnExactReadHexUptoRow : OpenClaim := { program := "ytaifanhmihbilaa", sum := "9132abc4f9ddc8f55746b91af460ae053f205cf6ec1af68317a171946bc56899", func := "loop.example/g00931/laws.FnExactReadHex", spec := "fnExactReadHex", apart := false, narrowed := true }
def FnExactReadHexUptoSaid : Prop := fnExactReadHexUptoRow.holds Try.pinned (OpenSpec.upto fnExactReadHexSpec)

/-- 'laws.FnExactInverseDiff', WHERE WHAT IT READS IS OF BULK AT MOST 1048576: true; the input reads as it did. -/
def fnExactInverseDiffUptoRow : OpenClaim := { program := "ytaifanhmihbilaa", sum := "9132abc4f9ddc8f55746b91af460ae053f205cf6ec1af68317a171946bc56899", func := "loop.example/g00931/laws.FnExactInverseDiff", spec := "fnExactInverseDiff", apart := false, narrowed := true }
def FnExactInverseDiffUptoSaid : Prop := fnExactInverseDiffUptoRow.holds Try.pinned (OpenSpec.upto fnExactInverseDiffSpec)

end Rows
end Go.Proofs.Ytaifanhmihbilaa

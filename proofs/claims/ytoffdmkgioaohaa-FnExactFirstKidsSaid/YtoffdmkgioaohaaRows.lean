/-
  No cell of these rows narrows 'for every input' (looked for: loops, veiled, ifaces, maps, wideKeys, modest, calm, conditions, laid).
  DERIVED. THE GIVEN ROWS OF THIS SEAT. 10 by the template 'for every input the law returns true; each argument reads behind the call as it read before'; 0 by the template 'total and deterministic' (their statements: YtoffdmkgioaohaaTotals.lean).
  GIVEN WITH THE SEED: the statements are not yours to turn. If you find one false, say at which input.
  Laid BY PROGRAM, IN A SANDBOX (cutbox-rows.mjs): the forced cells as the released guide's own fill.sh prints them over the translation a0f6c724da7efd87… (all of the seat's roots in one cut). By AI agents, Wed Nov 11 2026. No macro, syntax, notation, axiom, sorry.
-/
import Derived.Test.YtoffdmkgioaohaaChecked
import GoSem.Claim
import GoSem.ClaimJoined
import GoSem.ClaimMapViews
import Derived.JoinedTies
import Derived.KernelRfl
namespace Go.Proofs.Ytoffdmkgioaohaa
/- THE CELL 'sum', in the pinned program and in every row, IS THE sha256 OF THE DUMP (.gsa) THAT YtoffdmkgioaohaaProg.lean LOADS. Nothing in Lean hashes anything: it is a label: what it is worth is what the hold of that sum in a sandbox is worth. -/
noncomputable def Try.pinned : Pinned := { name := "ytoffdmkgioaohaa", sum := "a0f6c724da7efd87f6822a603c7e6fb4216fe8a23eff164bd634832448b4e17c", checked := Try.checked }
namespace Rows
def none {H : Type} : Left H := { results := [], args := [] }

/-- 'laws.FnExactFirstKids': WHATEVER THE INPUT: true; the input reads as it did. -/
def fnExactFirstKidsSpec : ChangeSpec := { name := "fnExactFirstKids", fn := fun _ => fun
  | [d] => { results := [.lit (.bool true)], args := [d] }
  | _ => none }
def fnExactFirstKidsRow : OpenClaim := { program := "ytoffdmkgioaohaa", sum := "a0f6c724da7efd87f6822a603c7e6fb4216fe8a23eff164bd634832448b4e17c", func := "loop.example/g00701/laws.FnExactFirstKids", spec := "fnExactFirstKids", unfollowed := true, recurses := true, apart := false }
def FnExactFirstKidsSaid : Prop := fnExactFirstKidsRow.holds Try.pinned (OpenSpec.ofChange fnExactFirstKidsSpec)

/-- ITS FALSE NEIGHBOUR: 'it returns false'. Refute it at one input. -/
def fnExactFirstKidsWrong : ChangeSpec := { name := "fnExactFirstKids", fn := fun _ => fun
  | [d] => { results := [.lit (.bool false)], args := [d] }
  | _ => none }
def FnExactFirstKidsWrongFalsely : Prop := fnExactFirstKidsRow.holds Try.pinned (OpenSpec.ofChange fnExactFirstKidsWrong)

/-- 'laws.FnPaths': WHATEVER THE INPUT: true; the input reads as it did. -/
def fnPathsSpec : ChangeSpec := { name := "fnPaths", fn := fun _ => fun
  | [d1, d2] => { results := [.lit (.bool true)], args := [d1, d2] }
  | _ => none }
def fnPathsRow : OpenClaim := { program := "ytoffdmkgioaohaa", sum := "a0f6c724da7efd87f6822a603c7e6fb4216fe8a23eff164bd634832448b4e17c", func := "loop.example/g00701/laws.FnPaths", spec := "fnPaths", unfollowed := true, recurses := true, apart := false }
def FnPathsSaid : Prop := fnPathsRow.holds Try.pinned (OpenSpec.ofChange fnPathsSpec)

/-- ITS FALSE NEIGHBOUR: 'it returns false'. Refute it at one input. -/
def fnPathsWrong : ChangeSpec := { name := "fnPaths", fn := fun _ => fun
  | [d1, d2] => { results := [.lit (.bool false)], args := [d1, d2] }
  | _ => none }
def FnPathsWrongFalsely : Prop := fnPathsRow.holds Try.pinned (OpenSpec.ofChange fnPathsWrong)

/-- 'laws.FnExactCompileTerms': WHATEVER THE INPUT: true; the input reads as it did. -/
def fnExactCompileTermsSpec : ChangeSpec := { name := "fnExactCompileTerms", fn := fun _ => fun
  | [d] => { results := [.lit (.bool true)], args := [d] }
  | _ => none }
def fnExactCompileTermsRow : OpenClaim := { program := "ytoffdmkgioaohaa", sum := "a0f6c724da7efd87f6822a603c7e6fb4216fe8a23eff164bd634832448b4e17c", func := "loop.example/g00701/laws.FnExactCompileTerms", spec := "fnExactCompileTerms", unfollowed := true, recurses := true, apart := false }
def FnExactCompileTermsSaid : Prop := fnExactCompileTermsRow.holds Try.pinned (OpenSpec.ofChange fnExactCompileTermsSpec)

/-- ITS FALSE NEIGHBOUR: 'it returns false'. Refute it at one input. -/
def fnExactCompileTermsWrong : ChangeSpec := { name := "fnExactCompileTerms", fn := fun _ => fun
  | [d] => { results := [.lit (.bool false)], args := [d] }
  | _ => none }
def FnExactCompileTermsWrongFalsely : Prop := fnExactCompileTermsRow.holds Try.pinned (OpenSpec.ofChange fnExactCompileTermsWrong)

/-- 'laws.FnExactSchemaLines': WHATEVER THE INPUT: true; the input reads as it did. -/
def fnExactSchemaLinesSpec : ChangeSpec := { name := "fnExactSchemaLines", fn := fun _ => fun
  | [d] => { results := [.lit (.bool true)], args := [d] }
  | _ => none }
def fnExactSchemaLinesRow : OpenClaim := { program := "ytoffdmkgioaohaa", sum := "a0f6c724da7efd87f6822a603c7e6fb4216fe8a23eff164bd634832448b4e17c", func := "loop.example/g00701/laws.FnExactSchemaLines", spec := "fnExactSchemaLines", inPlace := ["internal/abi.NoEscape", "internal/bytealg.MakeNoZero"], unfollowed := true, recurses := true, apart := false }
def FnExactSchemaLinesSaid : Prop := fnExactSchemaLinesRow.holds Try.pinned (OpenSpec.ofChange fnExactSchemaLinesSpec)

/-- ITS FALSE NEIGHBOUR: 'it returns false'. Refute it at one input. -/
def fnExactSchemaLinesWrong : ChangeSpec := { name := "fnExactSchemaLines", fn := fun _ => fun
  | [d] => { results := [.lit (.bool false)], args := [d] }
  | _ => none }
def FnExactSchemaLinesWrongFalsely : Prop := fnExactSchemaLinesRow.holds Try.pinned (OpenSpec.ofChange fnExactSchemaLinesWrong)

/-- 'laws.FnMatch': WHATEVER THE INPUT: true; the input reads as it did. -/
def fnMatchSpec : ChangeSpec := { name := "fnMatch", fn := fun _ => fun
  | [d1, d2] => { results := [.lit (.bool true)], args := [d1, d2] }
  | _ => none }
def fnMatchRow : OpenClaim := { program := "ytoffdmkgioaohaa", sum := "a0f6c724da7efd87f6822a603c7e6fb4216fe8a23eff164bd634832448b4e17c", func := "loop.example/g00701/laws.FnMatch", spec := "fnMatch", unfollowed := true, recurses := true, apart := false }
def FnMatchSaid : Prop := fnMatchRow.holds Try.pinned (OpenSpec.ofChange fnMatchSpec)

/-- ITS FALSE NEIGHBOUR: 'it returns false'. Refute it at one input. -/
def fnMatchWrong : ChangeSpec := { name := "fnMatch", fn := fun _ => fun
  | [d1, d2] => { results := [.lit (.bool false)], args := [d1, d2] }
  | _ => none }
def FnMatchWrongFalsely : Prop := fnMatchRow.holds Try.pinned (OpenSpec.ofChange fnMatchWrong)

/-- 'laws.FnExactPutHold': WHATEVER THE INPUT: true; the input reads as it did. -/
def fnExactPutHoldSpec : ChangeSpec := { name := "fnExactPutHold", fn := fun _ => fun
  | [d1, d2, d3] => { results := [.lit (.bool true)], args := [d1, d2, d3] }
  | _ => none }
def fnExactPutHoldRow : OpenClaim := { program := "ytoffdmkgioaohaa", sum := "a0f6c724da7efd87f6822a603c7e6fb4216fe8a23eff164bd634832448b4e17c", func := "loop.example/g00701/laws.FnExactPutHold", spec := "fnExactPutHold", inPlace := ["slices.overlaps[loop.example/g00701/impl.Hold]"], unfollowed := true, recurses := true, apart := false }
def FnExactPutHoldSaid : Prop := fnExactPutHoldRow.holds Try.pinned (OpenSpec.ofChange fnExactPutHoldSpec)

/-- ITS FALSE NEIGHBOUR: 'it returns false'. Refute it at one input. -/
def fnExactPutHoldWrong : ChangeSpec := { name := "fnExactPutHold", fn := fun _ => fun
  | [d1, d2, d3] => { results := [.lit (.bool false)], args := [d1, d2, d3] }
  | _ => none }
def FnExactPutHoldWrongFalsely : Prop := fnExactPutHoldRow.holds Try.pinned (OpenSpec.ofChange fnExactPutHoldWrong)

/-- 'laws.FnExactLeastDoc': WHATEVER THE INPUT: true; the input reads as it did. -/
def fnExactLeastDocSpec : ChangeSpec := { name := "fnExactLeastDoc", fn := fun _ => fun
  | [d1, d2] => { results := [.lit (.bool true)], args := [d1, d2] }
  | _ => none }
def fnExactLeastDocRow : OpenClaim := { program := "ytoffdmkgioaohaa", sum := "a0f6c724da7efd87f6822a603c7e6fb4216fe8a23eff164bd634832448b4e17c", func := "loop.example/g00701/laws.FnExactLeastDoc", spec := "fnExactLeastDoc", unfollowed := true, recurses := true, apart := false }
def FnExactLeastDocSaid : Prop := fnExactLeastDocRow.holds Try.pinned (OpenSpec.ofChange fnExactLeastDocSpec)

/-- ITS FALSE NEIGHBOUR: 'it returns false'. Refute it at one input. -/
def fnExactLeastDocWrong : ChangeSpec := { name := "fnExactLeastDoc", fn := fun _ => fun
  | [d1, d2] => { results := [.lit (.bool false)], args := [d1, d2] }
  | _ => none }
def FnExactLeastDocWrongFalsely : Prop := fnExactLeastDocRow.holds Try.pinned (OpenSpec.ofChange fnExactLeastDocWrong)

/-- 'laws.FnCover': WHATEVER THE INPUT: true; the input reads as it did. -/
def fnCoverSpec : ChangeSpec := { name := "fnCover", fn := fun _ => fun
  | [d1, d2] => { results := [.lit (.bool true)], args := [d1, d2] }
  | _ => none }
def fnCoverRow : OpenClaim := { program := "ytoffdmkgioaohaa", sum := "a0f6c724da7efd87f6822a603c7e6fb4216fe8a23eff164bd634832448b4e17c", func := "loop.example/g00701/laws.FnCover", spec := "fnCover", unfollowed := true, recurses := true, apart := false }
def FnCoverSaid : Prop := fnCoverRow.holds Try.pinned (OpenSpec.ofChange fnCoverSpec)

/-- ITS FALSE NEIGHBOUR: 'it returns false'. Refute it at one input. -/
def fnCoverWrong : ChangeSpec := { name := "fnCover", fn := fun _ => fun
  | [d1, d2] => { results := [.lit (.bool false)], args := [d1, d2] }
  | _ => none }
def FnCoverWrongFalsely : Prop := fnCoverRow.holds Try.pinned (OpenSpec.ofChange fnCoverWrong)

/-- 'laws.FnExactMayInsert': WHATEVER THE INPUT: true; the input reads as it did. -/
def fnExactMayInsertSpec : ChangeSpec := { name := "fnExactMayInsert", fn := fun _ => fun
  | [d1, d2, d3] => { results := [.lit (.bool true)], args := [d1, d2, d3] }
  | _ => none }
def fnExactMayInsertRow : OpenClaim := { program := "ytoffdmkgioaohaa", sum := "a0f6c724da7efd87f6822a603c7e6fb4216fe8a23eff164bd634832448b4e17c", func := "loop.example/g00701/laws.FnExactMayInsert", spec := "fnExactMayInsert", inPlace := ["slices.overlaps[int]"], unfollowed := true, recurses := true, apart := false }
def FnExactMayInsertSaid : Prop := fnExactMayInsertRow.holds Try.pinned (OpenSpec.ofChange fnExactMayInsertSpec)

/-- ITS FALSE NEIGHBOUR: 'it returns false'. Refute it at one input. -/
def fnExactMayInsertWrong : ChangeSpec := { name := "fnExactMayInsert", fn := fun _ => fun
  | [d1, d2, d3] => { results := [.lit (.bool false)], args := [d1, d2, d3] }
  | _ => none }
def FnExactMayInsertWrongFalsely : Prop := fnExactMayInsertRow.holds Try.pinned (OpenSpec.ofChange fnExactMayInsertWrong)

/-- 'laws.FnExactSpliceSub': WHATEVER THE INPUT: true; the input reads as it did. -/
def fnExactSpliceSubSpec : ChangeSpec := { name := "fnExactSpliceSub", fn := fun _ => fun
  | [d1, d2] => { results := [.lit (.bool true)], args := [d1, d2] }
  | _ => none }
def fnExactSpliceSubRow : OpenClaim := { program := "ytoffdmkgioaohaa", sum := "a0f6c724da7efd87f6822a603c7e6fb4216fe8a23eff164bd634832448b4e17c", func := "loop.example/g00701/laws.FnExactSpliceSub", spec := "fnExactSpliceSub", unfollowed := true, recurses := true, apart := false }
def FnExactSpliceSubSaid : Prop := fnExactSpliceSubRow.holds Try.pinned (OpenSpec.ofChange fnExactSpliceSubSpec)

/-- ITS FALSE NEIGHBOUR: 'it returns false'. Refute it at one input. -/
def fnExactSpliceSubWrong : ChangeSpec := { name := "fnExactSpliceSub", fn := fun _ => fun
  | [d1, d2] => { results := [.lit (.bool false)], args := [d1, d2] }
  | _ => none }
def FnExactSpliceSubWrongFalsely : Prop := fnExactSpliceSubRow.holds Try.pinned (OpenSpec.ofChange fnExactSpliceSubWrong)

/- THE SECOND FORM. 'bulk': how many values and letters a reading holds, each counted each time it is reached (what is shared counts as often as it is met; a slice's spare places count too). A statement '..UptoSaid' is the law's where the arguments, and the package variables that the reading takes, are together of bulk at most 1048576: NARROWER than '..Said'. Prove '..Said' where nothing that the law and all that it calls make is longer than what came in: it says more and counts as full. Else prove '..UptoSaid'. A law counts once. -/
mutual
def uptoBulk {H : Type} : DataW H → Nat
  | .lit (.string bytes) => bytes.length + 1
  | .lit _ => 1
  | .nil => 1
  | .ptr d => uptoBulk d + 1
  | .slice elems spare => uptoBulkAll elems + uptoBulkAll spare + 1
  | .agg parts => uptoBulkAll parts + 1
  | .iface _ d => uptoBulk d + 1
  | .map entries => uptoBulkEntries entries + 1
  | .held _ => 1
def uptoBulkAll {H : Type} : List (DataW H) → Nat
  | [] => 0
  | d :: r => uptoBulk d + uptoBulkAll r
def uptoBulkEntries {H : Type} : List (Lit × DataW H) → Nat
  | [] => 0
  | x :: r => uptoBulkEntry x + uptoBulkEntries r
def uptoBulkEntry {H : Type} : Lit × DataW H → Nat
  | (.string bytes, d) => bytes.length + uptoBulk d + 1
  | (_, d) => uptoBulk d + 1
 end
def uptoSmall : (H : Type) → List (DataW H) → Bool := fun _ ds => decide (uptoBulkAll ds ≤ 1048576)
def OpenSpec.upto (s : _root_.Go.ChangeSpec) : _root_.Go.OpenSpec := { _root_.Go.OpenSpec.ofChange s with cond := some uptoSmall }

/-- 'laws.FnExactFirstKids', WHERE WHAT IT READS IS OF BULK AT MOST 1048576: true; the input reads as it did. -/
def fnExactFirstKidsUptoRow : OpenClaim := { program := "ytoffdmkgioaohaa", sum := "a0f6c724da7efd87f6822a603c7e6fb4216fe8a23eff164bd634832448b4e17c", func := "loop.example/g00701/laws.FnExactFirstKids", spec := "fnExactFirstKids", unfollowed := true, recurses := true, apart := false, narrowed := true }
def FnExactFirstKidsUptoSaid : Prop := fnExactFirstKidsUptoRow.holds Try.pinned (OpenSpec.upto fnExactFirstKidsSpec)

/-- 'laws.FnPaths', WHERE WHAT IT READS IS OF BULK AT MOST 1048576: true; the input reads as it did. -/
def fnPathsUptoRow : OpenClaim := { program := "ytoffdmkgioaohaa", sum := "a0f6c724da7efd87f6822a603c7e6fb4216fe8a23eff164bd634832448b4e17c", func := "loop.example/g00701/laws.FnPaths", spec := "fnPaths", unfollowed := true, recurses := true, apart := false, narrowed := true }
def FnPathsUptoSaid : Prop := fnPathsUptoRow.holds Try.pinned (OpenSpec.upto fnPathsSpec)

/-- 'laws.FnExactCompileTerms', WHERE WHAT IT READS IS OF BULK AT MOST 1048576: true; the input reads as it did. -/
def fnExactCompileTermsUptoRow : OpenClaim := { program := "ytoffdmkgioaohaa", sum := "a0f6c724da7efd87f6822a603c7e6fb4216fe8a23eff164bd634832448b4e17c", func := "loop.example/g00701/laws.FnExactCompileTerms", spec := "fnExactCompileTerms", unfollowed := true, recurses := true, apart := false, narrowed := true }
def FnExactCompileTermsUptoSaid : Prop := fnExactCompileTermsUptoRow.holds Try.pinned (OpenSpec.upto fnExactCompileTermsSpec)

/-- 'laws.FnExactSchemaLines', WHERE WHAT IT READS IS OF BULK AT MOST 1048576: true; the input reads as it did. -/
def fnExactSchemaLinesUptoRow : OpenClaim := { program := "ytoffdmkgioaohaa", sum := "a0f6c724da7efd87f6822a603c7e6fb4216fe8a23eff164bd634832448b4e17c", func := "loop.example/g00701/laws.FnExactSchemaLines", spec := "fnExactSchemaLines", inPlace := ["internal/abi.NoEscape", "internal/bytealg.MakeNoZero"], unfollowed := true, recurses := true, apart := false, narrowed := true }
def FnExactSchemaLinesUptoSaid : Prop := fnExactSchemaLinesUptoRow.holds Try.pinned (OpenSpec.upto fnExactSchemaLinesSpec)

/-- 'laws.FnMatch', WHERE WHAT IT READS IS OF BULK AT MOST 1048576: true; the input reads as it did. -/
def fnMatchUptoRow : OpenClaim := { program := "ytoffdmkgioaohaa", sum := "a0f6c724da7efd87f6822a603c7e6fb4216fe8a23eff164bd634832448b4e17c", func := "loop.example/g00701/laws.FnMatch", spec := "fnMatch", unfollowed := true, recurses := true, apart := false, narrowed := true }
def FnMatchUptoSaid : Prop := fnMatchUptoRow.holds Try.pinned (OpenSpec.upto fnMatchSpec)

/-- 'laws.FnExactPutHold', WHERE WHAT IT READS IS OF BULK AT MOST 1048576: true; the input reads as it did. -/
def fnExactPutHoldUptoRow : OpenClaim := { program := "ytoffdmkgioaohaa", sum := "a0f6c724da7efd87f6822a603c7e6fb4216fe8a23eff164bd634832448b4e17c", func := "loop.example/g00701/laws.FnExactPutHold", spec := "fnExactPutHold", inPlace := ["slices.overlaps[loop.example/g00701/impl.Hold]"], unfollowed := true, recurses := true, apart := false, narrowed := true }
def FnExactPutHoldUptoSaid : Prop := fnExactPutHoldUptoRow.holds Try.pinned (OpenSpec.upto fnExactPutHoldSpec)

/-- 'laws.FnExactLeastDoc', WHERE WHAT IT READS IS OF BULK AT MOST 1048576: true; the input reads as it did. -/
def fnExactLeastDocUptoRow : OpenClaim := { program := "ytoffdmkgioaohaa", sum := "a0f6c724da7efd87f6822a603c7e6fb4216fe8a23eff164bd634832448b4e17c", func := "loop.example/g00701/laws.FnExactLeastDoc", spec := "fnExactLeastDoc", unfollowed := true, recurses := true, apart := false, narrowed := true }
def FnExactLeastDocUptoSaid : Prop := fnExactLeastDocUptoRow.holds Try.pinned (OpenSpec.upto fnExactLeastDocSpec)

/-- 'laws.FnCover', WHERE WHAT IT READS IS OF BULK AT MOST 1048576: true; the input reads as it did. -/
def fnCoverUptoRow : OpenClaim := { program := "ytoffdmkgioaohaa", sum := "a0f6c724da7efd87f6822a603c7e6fb4216fe8a23eff164bd634832448b4e17c", func := "loop.example/g00701/laws.FnCover", spec := "fnCover", unfollowed := true, recurses := true, apart := false, narrowed := true }
def FnCoverUptoSaid : Prop := fnCoverUptoRow.holds Try.pinned (OpenSpec.upto fnCoverSpec)

/-- 'laws.FnExactMayInsert', WHERE WHAT IT READS IS OF BULK AT MOST 1048576: true; the input reads as it did. -/
def fnExactMayInsertUptoRow : OpenClaim := { program := "ytoffdmkgioaohaa", sum := "a0f6c724da7efd87f6822a603c7e6fb4216fe8a23eff164bd634832448b4e17c", func := "loop.example/g00701/laws.FnExactMayInsert", spec := "fnExactMayInsert", inPlace := ["slices.overlaps[int]"], unfollowed := true, recurses := true, apart := false, narrowed := true }
def FnExactMayInsertUptoSaid : Prop := fnExactMayInsertUptoRow.holds Try.pinned (OpenSpec.upto fnExactMayInsertSpec)

/-- 'laws.FnExactSpliceSub', WHERE WHAT IT READS IS OF BULK AT MOST 1048576: true; the input reads as it did. -/
def fnExactSpliceSubUptoRow : OpenClaim := { program := "ytoffdmkgioaohaa", sum := "a0f6c724da7efd87f6822a603c7e6fb4216fe8a23eff164bd634832448b4e17c", func := "loop.example/g00701/laws.FnExactSpliceSub", spec := "fnExactSpliceSub", unfollowed := true, recurses := true, apart := false, narrowed := true }
def FnExactSpliceSubUptoSaid : Prop := fnExactSpliceSubUptoRow.holds Try.pinned (OpenSpec.upto fnExactSpliceSubSpec)

end Rows
end Go.Proofs.Ytoffdmkgioaohaa

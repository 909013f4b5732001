/-
  No cell of these rows narrows 'for every input' (looked for: loops, veiled, ifaces, maps, wideKeys, modest, calm, conditions, laid).
  DERIVED. THE GIVEN ROWS OF THIS SEAT. 9 by the template 'for every input the law returns true; each argument reads behind the call as it read before'; 0 by the template 'total and deterministic' (their statements: YtampekcanmakkaaTotals.lean).
  GIVEN WITH THE SEED: the statements are not yours to turn. If you find one false, say at which input.
  Laid BY PROGRAM, IN A SANDBOX (cutbox-rows.mjs): the forced cells as the released guide's own fill.sh prints them over the translation 1a485319adde5bd6… (all of the seat's roots in one cut). By AI agents, Wed Nov 11 2026. No macro, syntax, notation, axiom, sorry.
-/
import Derived.Test.YtampekcanmakkaaChecked
import GoSem.Claim
import GoSem.ClaimJoined
import GoSem.ClaimMapViews
import Derived.JoinedTies
import Derived.KernelRfl
namespace Go.Proofs.Ytampekcanmakkaa
/- THE CELL 'sum', in the pinned program and in every row, IS THE sha256 OF THE DUMP (.gsa) THAT YtampekcanmakkaaProg.lean LOADS. Nothing in Lean hashes anything: it is a label: what it is worth is what the hold of that sum in a sandbox is worth. -/
noncomputable def Try.pinned : Pinned := { name := "ytampekcanmakkaa", sum := "1a485319adde5bd61726680d6e3a79ed8c65006049b91919c4451afcb50a0b26", checked := Try.checked }
namespace Rows
def none {H : Type} : Left H := { results := [], args := [] }

/-- 'dowellaw24.ActionParts': WHATEVER THE INPUT: true; the input reads as it did. -/
def actionPartsSpec : ChangeSpec := { name := "actionParts", fn := fun _ => fun
  | [d1, d2, d3] => { results := [.lit (.bool true)], args := [d1, d2, d3] }
  | _ => none }
def actionPartsRow : OpenClaim := { program := "ytampekcanmakkaa", sum := "1a485319adde5bd61726680d6e3a79ed8c65006049b91919c4451afcb50a0b26", func := "dowel/dowellaw24.ActionParts", spec := "actionParts", apart := false }
def ActionPartsSaid : Prop := actionPartsRow.holds Try.pinned (OpenSpec.ofChange actionPartsSpec)

/-- ITS FALSE NEIGHBOUR: 'it returns false'. Refute it at one input. -/
def actionPartsWrong : ChangeSpec := { name := "actionParts", fn := fun _ => fun
  | [d1, d2, d3] => { results := [.lit (.bool false)], args := [d1, d2, d3] }
  | _ => none }
def ActionPartsWrongFalsely : Prop := actionPartsRow.holds Try.pinned (OpenSpec.ofChange actionPartsWrong)

/-- 'dowellaw03.ClassTexts': WHATEVER THE INPUT: true; the input reads as it did. -/
def classTextsSpec : ChangeSpec := { name := "classTexts", fn := fun _ => fun
  | [d1, d2] => { results := [.lit (.bool true)], args := [d1, d2] }
  | _ => none }
def classTextsRow : OpenClaim := { program := "ytampekcanmakkaa", sum := "1a485319adde5bd61726680d6e3a79ed8c65006049b91919c4451afcb50a0b26", func := "dowel/dowellaw03.ClassTexts", spec := "classTexts", unfollowed := true, recurses := true, apart := false }
def ClassTextsSaid : Prop := classTextsRow.holds Try.pinned (OpenSpec.ofChange classTextsSpec)

/-- ITS FALSE NEIGHBOUR: 'it returns false'. Refute it at one input. -/
def classTextsWrong : ChangeSpec := { name := "classTexts", fn := fun _ => fun
  | [d1, d2] => { results := [.lit (.bool false)], args := [d1, d2] }
  | _ => none }
def ClassTextsWrongFalsely : Prop := classTextsRow.holds Try.pinned (OpenSpec.ofChange classTextsWrong)

/-- 'dowellaw25.TypedTexts': WHATEVER THE INPUT: true; the input reads as it did. -/
def typedTextsSpec : ChangeSpec := { name := "typedTexts", fn := fun _ => fun
  | [d1, d2] => { results := [.lit (.bool true)], args := [d1, d2] }
  | _ => none }
def typedTextsRow : OpenClaim := { program := "ytampekcanmakkaa", sum := "1a485319adde5bd61726680d6e3a79ed8c65006049b91919c4451afcb50a0b26", func := "dowel/dowellaw25.TypedTexts", spec := "typedTexts", inPlace := ["internal/abi.NoEscape", "internal/bytealg.MakeNoZero"], apart := false }
def TypedTextsSaid : Prop := typedTextsRow.holds Try.pinned (OpenSpec.ofChange typedTextsSpec)

/-- ITS FALSE NEIGHBOUR: 'it returns false'. Refute it at one input. -/
def typedTextsWrong : ChangeSpec := { name := "typedTexts", fn := fun _ => fun
  | [d1, d2] => { results := [.lit (.bool false)], args := [d1, d2] }
  | _ => none }
def TypedTextsWrongFalsely : Prop := typedTextsRow.holds Try.pinned (OpenSpec.ofChange typedTextsWrong)

/-- 'dowellaw22.PatternMatches': WHATEVER THE INPUT: true; the input reads as it did. -/
def patternMatchesSpec : ChangeSpec := { name := "patternMatches", fn := fun _ => fun
  | [d1, d2] => { results := [.lit (.bool true)], args := [d1, d2] }
  | _ => none }
def patternMatchesRow : OpenClaim := { program := "ytampekcanmakkaa", sum := "1a485319adde5bd61726680d6e3a79ed8c65006049b91919c4451afcb50a0b26", func := "dowel/dowellaw22.PatternMatches", spec := "patternMatches", unfollowed := true, recurses := true, apart := false }
def PatternMatchesSaid : Prop := patternMatchesRow.holds Try.pinned (OpenSpec.ofChange patternMatchesSpec)

/-- ITS FALSE NEIGHBOUR: 'it returns false'. Refute it at one input. -/
def patternMatchesWrong : ChangeSpec := { name := "patternMatches", fn := fun _ => fun
  | [d1, d2] => { results := [.lit (.bool false)], args := [d1, d2] }
  | _ => none }
def PatternMatchesWrongFalsely : Prop := patternMatchesRow.holds Try.pinned (OpenSpec.ofChange patternMatchesWrong)

/-- 'dowellaw03.ClassBack': WHATEVER THE INPUT: true; the input reads as it did. -/
def classBackSpec : ChangeSpec := { name := "classBack", fn := fun _ => fun
  | [d1, d2, d3] => { results := [.lit (.bool true)], args := [d1, d2, d3] }
  | _ => none }
def classBackRow : OpenClaim := { program := "ytampekcanmakkaa", sum := "1a485319adde5bd61726680d6e3a79ed8c65006049b91919c4451afcb50a0b26", func := "dowel/dowellaw03.ClassBack", spec := "classBack", unfollowed := true, recurses := true, apart := false }
def ClassBackSaid : Prop := classBackRow.holds Try.pinned (OpenSpec.ofChange classBackSpec)

/-- ITS FALSE NEIGHBOUR: 'it returns false'. Refute it at one input. -/
def classBackWrong : ChangeSpec := { name := "classBack", fn := fun _ => fun
  | [d1, d2, d3] => { results := [.lit (.bool false)], args := [d1, d2, d3] }
  | _ => none }
def ClassBackWrongFalsely : Prop := classBackRow.holds Try.pinned (OpenSpec.ofChange classBackWrong)

/-- 'dowellaw22.PatternChecks': WHATEVER THE INPUT: true; the input reads as it did. -/
def patternChecksSpec : ChangeSpec := { name := "patternChecks", fn := fun _ => fun
  | [d] => { results := [.lit (.bool true)], args := [d] }
  | _ => none }
def patternChecksRow : OpenClaim := { program := "ytampekcanmakkaa", sum := "1a485319adde5bd61726680d6e3a79ed8c65006049b91919c4451afcb50a0b26", func := "dowel/dowellaw22.PatternChecks", spec := "patternChecks", inPlace := ["internal/bytealg.IndexByteString"], unfollowed := true, recurses := true, apart := false }
def PatternChecksSaid : Prop := patternChecksRow.holds Try.pinned (OpenSpec.ofChange patternChecksSpec)

/-- ITS FALSE NEIGHBOUR: 'it returns false'. Refute it at one input. -/
def patternChecksWrong : ChangeSpec := { name := "patternChecks", fn := fun _ => fun
  | [d] => { results := [.lit (.bool false)], args := [d] }
  | _ => none }
def PatternChecksWrongFalsely : Prop := patternChecksRow.holds Try.pinned (OpenSpec.ofChange patternChecksWrong)

/-- 'dowellaw22.PatternDerives': WHATEVER THE INPUT: true; the input reads as it did. -/
def patternDerivesSpec : ChangeSpec := { name := "patternDerives", fn := fun _ => fun
  | [d1, d2, d3] => { results := [.lit (.bool true)], args := [d1, d2, d3] }
  | _ => none }
def patternDerivesRow : OpenClaim := { program := "ytampekcanmakkaa", sum := "1a485319adde5bd61726680d6e3a79ed8c65006049b91919c4451afcb50a0b26", func := "dowel/dowellaw22.PatternDerives", spec := "patternDerives", unfollowed := true, recurses := true, apart := false }
def PatternDerivesSaid : Prop := patternDerivesRow.holds Try.pinned (OpenSpec.ofChange patternDerivesSpec)

/-- ITS FALSE NEIGHBOUR: 'it returns false'. Refute it at one input. -/
def patternDerivesWrong : ChangeSpec := { name := "patternDerives", fn := fun _ => fun
  | [d1, d2, d3] => { results := [.lit (.bool false)], args := [d1, d2, d3] }
  | _ => none }
def PatternDerivesWrongFalsely : Prop := patternDerivesRow.holds Try.pinned (OpenSpec.ofChange patternDerivesWrong)

/-- 'dowellaw22.PatternReads': WHATEVER THE INPUT: true; the input reads as it did. -/
def patternReadsSpec : ChangeSpec := { name := "patternReads", fn := fun _ => fun
  | [d1, d2] => { results := [.lit (.bool true)], args := [d1, d2] }
  | _ => none }
def patternReadsRow : OpenClaim := { program := "ytampekcanmakkaa", sum := "1a485319adde5bd61726680d6e3a79ed8c65006049b91919c4451afcb50a0b26", func := "dowel/dowellaw22.PatternReads", spec := "patternReads", inPlace := ["internal/bytealg.IndexByteString"], unfollowed := true, recurses := true, apart := false }
def PatternReadsSaid : Prop := patternReadsRow.holds Try.pinned (OpenSpec.ofChange patternReadsSpec)

/-- ITS FALSE NEIGHBOUR: 'it returns false'. Refute it at one input. -/
def patternReadsWrong : ChangeSpec := { name := "patternReads", fn := fun _ => fun
  | [d1, d2] => { results := [.lit (.bool false)], args := [d1, d2] }
  | _ => none }
def PatternReadsWrongFalsely : Prop := patternReadsRow.holds Try.pinned (OpenSpec.ofChange patternReadsWrong)

/-- 'dowellaw04.LexisTokens': WHATEVER THE INPUT: true; the input reads as it did. -/
def lexisTokensSpec : ChangeSpec := { name := "lexisTokens", fn := fun _ => fun
  | [d1, d2] => { results := [.lit (.bool true)], args := [d1, d2] }
  | _ => none }
def lexisTokensRow : OpenClaim := { program := "ytampekcanmakkaa", sum := "1a485319adde5bd61726680d6e3a79ed8c65006049b91919c4451afcb50a0b26", func := "dowel/dowellaw04.LexisTokens", spec := "lexisTokens", inPlace := ["internal/bytealg.IndexByteString"], unfollowed := true, recurses := true, apart := false }
def LexisTokensSaid : Prop := lexisTokensRow.holds Try.pinned (OpenSpec.ofChange lexisTokensSpec)

/-- ITS FALSE NEIGHBOUR: 'it returns false'. Refute it at one input. -/
def lexisTokensWrong : ChangeSpec := { name := "lexisTokens", fn := fun _ => fun
  | [d1, d2] => { results := [.lit (.bool false)], args := [d1, d2] }
  | _ => none }
def LexisTokensWrongFalsely : Prop := lexisTokensRow.holds Try.pinned (OpenSpec.ofChange lexisTokensWrong)

/- THE SECOND FORM. 'bulk': how many values and letters a reading holds, each counted each time it is reached (what is shared counts as often as it is met; a slice's spare places count too). A statement '..UptoSaid' is the law's where the arguments, and the package variables that the reading takes, are together of bulk at most 1048576: NARROWER than '..Said'. Prove '..Said' where nothing that the law and all that it calls make is longer than what came in: it says more and counts as full. Else prove '..UptoSaid'. A law counts once. -/
mutual
def uptoBulk {H : Type} : DataW H → Nat
  | .lit (.string bytes) => bytes.length + 1
  | .lit _ => 1
  | .nil => 1
  | .ptr d => uptoBulk d + 1
  | .slice elems spare => uptoBulkAll elems + uptoBulkAll spare + 1
  | .agg parts => uptoBulkAll parts + 1
  | .iface _ d => uptoBulk d + 1
  | .map entries => uptoBulkEntries entries + 1
  | .held _ => 1
def uptoBulkAll {H : Type} : List (DataW H) → Nat
  | [] => 0
  | d :: r => uptoBulk d + uptoBulkAll r
def uptoBulkEntries {H : Type} : List (Lit × DataW H) → Nat
  | [] => 0
  | x :: r => uptoBulkEntry x + uptoBulkEntries r
def uptoBulkEntry {H : Type} : Lit × DataW H → Nat
  | (.string bytes, d) => bytes.length + uptoBulk d + 1
  | (_, d) => uptoBulk d + 1
 end
def uptoSmall : (H : Type) → List (DataW H) → Bool := fun _ ds => decide (uptoBulkAll ds ≤ 1048576)
def OpenSpec.upto (s : _root_.Go.ChangeSpec) : _root_.Go.OpenSpec := { _root_.Go.OpenSpec.ofChange s with cond := some uptoSmall }

/-- 'dowellaw24.ActionParts', WHERE WHAT IT READS IS OF BULK AT MOST 1048576: true; the input reads as it did. -/
def actionPartsUptoRow : OpenClaim := { program := "ytampekcanmakkaa", sum := "1a485319adde5bd61726680d6e3a79ed8c65006049b91919c4451afcb50a0b26", func := "dowel/dowellaw24.ActionParts", spec := "actionParts", apart := false, narrowed := true }
def ActionPartsUptoSaid : Prop := actionPartsUptoRow.holds Try.pinned (OpenSpec.upto actionPartsSpec)

/-- 'dowellaw03.ClassTexts', WHERE WHAT IT READS IS OF BULK AT MOST 1048576: true; the input reads as it did. -/
def classTextsUptoRow : OpenClaim := { program := "ytampekcanmakkaa", sum := "1a485319adde5bd61726680d6e3a79ed8c65006049b91919c4451afcb50a0b26", func := "dowel/dowellaw03.ClassTexts", spec := "classTexts", unfollowed := true, recurses := true, apart := false, narrowed := true }
def ClassTextsUptoSaid : Prop := classTextsUptoRow.holds Try.pinned (OpenSpec.upto classTextsSpec)

/-- 'dowellaw25.TypedTexts', WHERE WHAT IT READS IS OF BULK AT MOST 1048576: true; the input reads as it did. -/
def typedTextsUptoRow : OpenClaim := { program := "ytampekcanmakkaa", sum := "1a485319adde5bd61726680d6e3a79ed8c65006049b91919c4451afcb50a0b26", func := "dowel/dowellaw25.TypedTexts", spec := "typedTexts", inPlace := ["internal/abi.NoEscape", "internal/bytealg.MakeNoZero"], apart := false, narrowed := true }
def TypedTextsUptoSaid : Prop := typedTextsUptoRow.holds Try.pinned (OpenSpec.upto typedTextsSpec)

/-- 'dowellaw22.PatternMatches', WHERE WHAT IT READS IS OF BULK AT MOST 1048576: true; the input reads as it did. -/
def patternMatchesUptoRow : OpenClaim := { program := "ytampekcanmakkaa", sum := "1a485319adde5bd61726680d6e3a79ed8c65006049b91919c4451afcb50a0b26", func := "dowel/dowellaw22.PatternMatches", spec := "patternMatches", unfollowed := true, recurses := true, apart := false, narrowed := true }
def PatternMatchesUptoSaid : Prop := patternMatchesUptoRow.holds Try.pinned (OpenSpec.upto patternMatchesSpec)

/-- 'dowellaw03.ClassBack', WHERE WHAT IT READS IS OF BULK AT MOST 1048576: true; the input reads as it did. -/
def classBackUptoRow : OpenClaim := { program := "ytampekcanmakkaa", sum := "1a485319adde5bd61726680d6e3a79ed8c65006049b91919c4451afcb50a0b26", func := "dowel/dowellaw03.ClassBack", spec := "classBack", unfollowed := true, recurses := true, apart := false, narrowed := true }
def ClassBackUptoSaid : Prop := classBackUptoRow.holds Try.pinned (OpenSpec.upto classBackSpec)

/-- 'dowellaw22.PatternChecks', WHERE WHAT IT READS IS OF BULK AT MOST 1048576: true; the input reads as it did. -/
def patternChecksUptoRow : OpenClaim := { program := "ytampekcanmakkaa", sum := "1a485319adde5bd61726680d6e3a79ed8c65006049b91919c4451afcb50a0b26", func := "dowel/dowellaw22.PatternChecks", spec := "patternChecks", inPlace := ["internal/bytealg.IndexByteString"], unfollowed := true, recurses := true, apart := false, narrowed := true }
def PatternChecksUptoSaid : Prop := patternChecksUptoRow.holds Try.pinned (OpenSpec.upto patternChecksSpec)

/-- 'dowellaw22.PatternDerives', WHERE WHAT IT READS IS OF BULK AT MOST 1048576: true; the input reads as it did. -/
def patternDerivesUptoRow : OpenClaim := { program := "ytampekcanmakkaa", sum := "1a485319adde5bd61726680d6e3a79ed8c65006049b91919c4451afcb50a0b26", func := "dowel/dowellaw22.PatternDerives", spec := "patternDerives", unfollowed := true, recurses := true, apart := false, narrowed := true }
def PatternDerivesUptoSaid : Prop := patternDerivesUptoRow.holds Try.pinned (OpenSpec.upto patternDerivesSpec)

/-- 'dowellaw22.PatternReads', WHERE WHAT IT READS IS OF BULK AT MOST 1048576: true; the input reads as it did. -/
def patternReadsUptoRow : OpenClaim := { program := "ytampekcanmakkaa", sum := "1a485319adde5bd61726680d6e3a79ed8c65006049b91919c4451afcb50a0b26", func := "dowel/dowellaw22.PatternReads", spec := "patternReads", inPlace := ["internal/bytealg.IndexByteString"], unfollowed := true, recurses := true, apart := false, narrowed := true }
def PatternReadsUptoSaid : Prop := patternReadsUptoRow.holds Try.pinned (OpenSpec.upto patternReadsSpec)

/-- 'dowellaw04.LexisTokens', WHERE WHAT IT READS IS OF BULK AT MOST 1048576: true; the input reads as it did. -/
def lexisTokensUptoRow : OpenClaim := { program := "ytampekcanmakkaa", sum := "1a485319adde5bd61726680d6e3a79ed8c65006049b91919c4451afcb50a0b26", func := "dowel/dowellaw04.LexisTokens", spec := "lexisTokens", inPlace := ["internal/bytealg.IndexByteString"], unfollowed := true, recurses := true, apart := false, narrowed := true }
def LexisTokensUptoSaid : Prop := lexisTokensUptoRow.holds Try.pinned (OpenSpec.upto lexisTokensSpec)

end Rows
end Go.Proofs.Ytampekcanmakkaa

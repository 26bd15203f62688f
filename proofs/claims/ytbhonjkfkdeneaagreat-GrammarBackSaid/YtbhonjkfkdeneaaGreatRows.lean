/-
  No cell of these rows narrows 'for every input' (looked for: loops, veiled, ifaces, maps, wideKeys, modest, calm, conditions, laid).
  DERIVED. THE GIVEN ROWS OF THIS SEAT. 10 by the template 'for every input the law returns true; each argument reads behind the call as it read before'; 0 by the template 'total and deterministic' (their statements: YtbhonjkfkdeneaaGreatTotals.lean).
  GIVEN WITH THE SEED: the statements are not yours to turn. If you find one false, say at which input.
  Laid BY PROGRAM, IN A SANDBOX (cutbox-rows.mjs): the forced cells as the released guide's own fill.sh prints them over the translation 6fbafdf69912d8ee… (all of the seat's roots in one cut). By AI agents, Wed Nov 11 2026. No macro, syntax, notation, axiom, sorry.
-/
import Derived.Test.YtbhonjkfkdeneaaGreatChecked
import GoSem.Claim
import GoSem.ClaimJoined
import GoSem.ClaimMapViews
import Derived.JoinedTies
import Derived.KernelRfl
namespace Go.Proofs.YtbhonjkfkdeneaaGreat
/- THE CELL 'sum', in the pinned program and in every row, IS THE sha256 OF THE DUMP (.gsa) THAT YtbhonjkfkdeneaaGreatProg.lean LOADS. Nothing in Lean hashes anything: it is a label: what it is worth is what the hold of that sum in a sandbox is worth. -/
noncomputable def Tryz.pinned : Pinned := { name := "ytbhonjkfkdeneaagreat", sum := "6fbafdf69912d8ee8f234e6fe0022d9eb8bcebdb92c76ef518313d34503b8ef5", checked := Tryz.checked }
namespace Rows
def none {H : Type} : Left H := { results := [], args := [] }

/-- 'stenotypelaw09.GrammarChecks': WHATEVER THE INPUT: true; the input reads as it did. -/
def grammarChecksSpec : ChangeSpec := { name := "grammarChecks", fn := fun _ => fun
  | [d1, d2] => { results := [.lit (.bool true)], args := [d1, d2] }
  | _ => none }
def grammarChecksRow : OpenClaim := { program := "ytbhonjkfkdeneaagreat", sum := "6fbafdf69912d8ee8f234e6fe0022d9eb8bcebdb92c76ef518313d34503b8ef5", func := "stenotype/stenotypelaw09.GrammarChecks", spec := "grammarChecks", inPlace := ["internal/abi.NoEscape", "internal/bytealg.MakeNoZero"], unfollowed := true, recurses := true, apart := false }
def GrammarChecksSaid : Prop := grammarChecksRow.holds Tryz.pinned (OpenSpec.ofChange grammarChecksSpec)

/-- ITS FALSE NEIGHBOUR: 'it returns false'. Refute it at one input. -/
def grammarChecksWrong : ChangeSpec := { name := "grammarChecks", fn := fun _ => fun
  | [d1, d2] => { results := [.lit (.bool false)], args := [d1, d2] }
  | _ => none }
def GrammarChecksWrongFalsely : Prop := grammarChecksRow.holds Tryz.pinned (OpenSpec.ofChange grammarChecksWrong)

/-- 'stenotypelaw08.SourceParses': WHATEVER THE INPUT: true; the input reads as it did. -/
def sourceParsesSpec : ChangeSpec := { name := "sourceParses", fn := fun _ => fun
  | [d] => { results := [.lit (.bool true)], args := [d] }
  | _ => none }
def sourceParsesRow : OpenClaim := { program := "ytbhonjkfkdeneaagreat", sum := "6fbafdf69912d8ee8f234e6fe0022d9eb8bcebdb92c76ef518313d34503b8ef5", func := "stenotype/stenotypelaw08.SourceParses", spec := "sourceParses", inPlace := ["internal/abi.NoEscape", "internal/bytealg.MakeNoZero"], unfollowed := true, recurses := true, apart := false }
def SourceParsesSaid : Prop := sourceParsesRow.holds Tryz.pinned (OpenSpec.ofChange sourceParsesSpec)

/-- ITS FALSE NEIGHBOUR: 'it returns false'. Refute it at one input. -/
def sourceParsesWrong : ChangeSpec := { name := "sourceParses", fn := fun _ => fun
  | [d] => { results := [.lit (.bool false)], args := [d] }
  | _ => none }
def SourceParsesWrongFalsely : Prop := sourceParsesRow.holds Tryz.pinned (OpenSpec.ofChange sourceParsesWrong)

/-- 'stenotypelaw08.SourceBack': WHATEVER THE INPUT: true; the input reads as it did. -/
def sourceBackSpec : ChangeSpec := { name := "sourceBack", fn := fun _ => fun
  | [d1, d2] => { results := [.lit (.bool true)], args := [d1, d2] }
  | _ => none }
def sourceBackRow : OpenClaim := { program := "ytbhonjkfkdeneaagreat", sum := "6fbafdf69912d8ee8f234e6fe0022d9eb8bcebdb92c76ef518313d34503b8ef5", func := "stenotype/stenotypelaw08.SourceBack", spec := "sourceBack", inPlace := ["internal/abi.NoEscape", "internal/bytealg.MakeNoZero"], unfollowed := true, recurses := true, apart := false }
def SourceBackSaid : Prop := sourceBackRow.holds Tryz.pinned (OpenSpec.ofChange sourceBackSpec)

/-- ITS FALSE NEIGHBOUR: 'it returns false'. Refute it at one input. -/
def sourceBackWrong : ChangeSpec := { name := "sourceBack", fn := fun _ => fun
  | [d1, d2] => { results := [.lit (.bool false)], args := [d1, d2] }
  | _ => none }
def SourceBackWrongFalsely : Prop := sourceBackRow.holds Tryz.pinned (OpenSpec.ofChange sourceBackWrong)

/-- 'stenotypelaw08.SourceChecks': WHATEVER THE INPUT: true; the input reads as it did. -/
def sourceChecksSpec : ChangeSpec := { name := "sourceChecks", fn := fun _ => fun
  | [d1, d2] => { results := [.lit (.bool true)], args := [d1, d2] }
  | _ => none }
def sourceChecksRow : OpenClaim := { program := "ytbhonjkfkdeneaagreat", sum := "6fbafdf69912d8ee8f234e6fe0022d9eb8bcebdb92c76ef518313d34503b8ef5", func := "stenotype/stenotypelaw08.SourceChecks", spec := "sourceChecks", inPlace := ["internal/abi.NoEscape", "internal/bytealg.MakeNoZero"], unfollowed := true, recurses := true, apart := false }
def SourceChecksSaid : Prop := sourceChecksRow.holds Tryz.pinned (OpenSpec.ofChange sourceChecksSpec)

/-- ITS FALSE NEIGHBOUR: 'it returns false'. Refute it at one input. -/
def sourceChecksWrong : ChangeSpec := { name := "sourceChecks", fn := fun _ => fun
  | [d1, d2] => { results := [.lit (.bool false)], args := [d1, d2] }
  | _ => none }
def SourceChecksWrongFalsely : Prop := sourceChecksRow.holds Tryz.pinned (OpenSpec.ofChange sourceChecksWrong)

/-- 'stenotypelaw12.CanonTexts': WHATEVER THE INPUT: true; the input reads as it did. -/
def canonTextsSpec : ChangeSpec := { name := "canonTexts", fn := fun _ => fun
  | [d] => { results := [.lit (.bool true)], args := [d] }
  | _ => none }
def canonTextsRow : OpenClaim := { program := "ytbhonjkfkdeneaagreat", sum := "6fbafdf69912d8ee8f234e6fe0022d9eb8bcebdb92c76ef518313d34503b8ef5", func := "stenotype/stenotypelaw12.CanonTexts", spec := "canonTexts", unfollowed := true, recurses := true, apart := false }
def CanonTextsSaid : Prop := canonTextsRow.holds Tryz.pinned (OpenSpec.ofChange canonTextsSpec)

/-- ITS FALSE NEIGHBOUR: 'it returns false'. Refute it at one input. -/
def canonTextsWrong : ChangeSpec := { name := "canonTexts", fn := fun _ => fun
  | [d] => { results := [.lit (.bool false)], args := [d] }
  | _ => none }
def CanonTextsWrongFalsely : Prop := canonTextsRow.holds Tryz.pinned (OpenSpec.ofChange canonTextsWrong)

/-- 'stenotypelaw12.CanonBytes': WHATEVER THE INPUT: true; the input reads as it did. -/
def canonBytesSpec : ChangeSpec := { name := "canonBytes", fn := fun _ => fun
  | [d1, d2] => { results := [.lit (.bool true)], args := [d1, d2] }
  | _ => none }
def canonBytesRow : OpenClaim := { program := "ytbhonjkfkdeneaagreat", sum := "6fbafdf69912d8ee8f234e6fe0022d9eb8bcebdb92c76ef518313d34503b8ef5", func := "stenotype/stenotypelaw12.CanonBytes", spec := "canonBytes", unfollowed := true, recurses := true, apart := false }
def CanonBytesSaid : Prop := canonBytesRow.holds Tryz.pinned (OpenSpec.ofChange canonBytesSpec)

/-- ITS FALSE NEIGHBOUR: 'it returns false'. Refute it at one input. -/
def canonBytesWrong : ChangeSpec := { name := "canonBytes", fn := fun _ => fun
  | [d1, d2] => { results := [.lit (.bool false)], args := [d1, d2] }
  | _ => none }
def CanonBytesWrongFalsely : Prop := canonBytesRow.holds Tryz.pinned (OpenSpec.ofChange canonBytesWrong)

/-- 'stenotypelaw09.GrammarBack': WHATEVER THE INPUT: true; the input reads as it did. -/
def grammarBackSpec : ChangeSpec := { name := "grammarBack", fn := fun _ => fun
  | [d1, d2] => { results := [.lit (.bool true)], args := [d1, d2] }
  | _ => none }
def grammarBackRow : OpenClaim := { program := "ytbhonjkfkdeneaagreat", sum := "6fbafdf69912d8ee8f234e6fe0022d9eb8bcebdb92c76ef518313d34503b8ef5", func := "stenotype/stenotypelaw09.GrammarBack", spec := "grammarBack", inPlace := ["internal/abi.NoEscape", "internal/bytealg.MakeNoZero"], unfollowed := true, recurses := true, apart := false }
def GrammarBackSaid : Prop := grammarBackRow.holds Tryz.pinned (OpenSpec.ofChange grammarBackSpec)

/-- ITS FALSE NEIGHBOUR: 'it returns false'. Refute it at one input. -/
def grammarBackWrong : ChangeSpec := { name := "grammarBack", fn := fun _ => fun
  | [d1, d2] => { results := [.lit (.bool false)], args := [d1, d2] }
  | _ => none }
def GrammarBackWrongFalsely : Prop := grammarBackRow.holds Tryz.pinned (OpenSpec.ofChange grammarBackWrong)

/-- 'stenotypelaw12.CanonBack': WHATEVER THE INPUT: true; the input reads as it did. -/
def canonBackSpec : ChangeSpec := { name := "canonBack", fn := fun _ => fun
  | [d1, d2, d3] => { results := [.lit (.bool true)], args := [d1, d2, d3] }
  | _ => none }
def canonBackRow : OpenClaim := { program := "ytbhonjkfkdeneaagreat", sum := "6fbafdf69912d8ee8f234e6fe0022d9eb8bcebdb92c76ef518313d34503b8ef5", func := "stenotype/stenotypelaw12.CanonBack", spec := "canonBack", unfollowed := true, recurses := true, apart := false }
def CanonBackSaid : Prop := canonBackRow.holds Tryz.pinned (OpenSpec.ofChange canonBackSpec)

/-- ITS FALSE NEIGHBOUR: 'it returns false'. Refute it at one input. -/
def canonBackWrong : ChangeSpec := { name := "canonBack", fn := fun _ => fun
  | [d1, d2, d3] => { results := [.lit (.bool false)], args := [d1, d2, d3] }
  | _ => none }
def CanonBackWrongFalsely : Prop := canonBackRow.holds Tryz.pinned (OpenSpec.ofChange canonBackWrong)

/-- 'stenotypelaw12.CanonCuts': WHATEVER THE INPUT: true; the input reads as it did. -/
def canonCutsSpec : ChangeSpec := { name := "canonCuts", fn := fun _ => fun
  | [d1, d2, d3] => { results := [.lit (.bool true)], args := [d1, d2, d3] }
  | _ => none }
def canonCutsRow : OpenClaim := { program := "ytbhonjkfkdeneaagreat", sum := "6fbafdf69912d8ee8f234e6fe0022d9eb8bcebdb92c76ef518313d34503b8ef5", func := "stenotype/stenotypelaw12.CanonCuts", spec := "canonCuts", unfollowed := true, recurses := true, apart := false }
def CanonCutsSaid : Prop := canonCutsRow.holds Tryz.pinned (OpenSpec.ofChange canonCutsSpec)

/-- ITS FALSE NEIGHBOUR: 'it returns false'. Refute it at one input. -/
def canonCutsWrong : ChangeSpec := { name := "canonCuts", fn := fun _ => fun
  | [d1, d2, d3] => { results := [.lit (.bool false)], args := [d1, d2, d3] }
  | _ => none }
def CanonCutsWrongFalsely : Prop := canonCutsRow.holds Tryz.pinned (OpenSpec.ofChange canonCutsWrong)

/-- 'stenotypelaw12.CanonParses': WHATEVER THE INPUT: true; the input reads as it did. -/
def canonParsesSpec : ChangeSpec := { name := "canonParses", fn := fun _ => fun
  | [d1, d2, d3] => { results := [.lit (.bool true)], args := [d1, d2, d3] }
  | _ => none }
def canonParsesRow : OpenClaim := { program := "ytbhonjkfkdeneaagreat", sum := "6fbafdf69912d8ee8f234e6fe0022d9eb8bcebdb92c76ef518313d34503b8ef5", func := "stenotype/stenotypelaw12.CanonParses", spec := "canonParses", unfollowed := true, recurses := true, apart := false }
def CanonParsesSaid : Prop := canonParsesRow.holds Tryz.pinned (OpenSpec.ofChange canonParsesSpec)

/-- ITS FALSE NEIGHBOUR: 'it returns false'. Refute it at one input. -/
def canonParsesWrong : ChangeSpec := { name := "canonParses", fn := fun _ => fun
  | [d1, d2, d3] => { results := [.lit (.bool false)], args := [d1, d2, d3] }
  | _ => none }
def CanonParsesWrongFalsely : Prop := canonParsesRow.holds Tryz.pinned (OpenSpec.ofChange canonParsesWrong)

/- THE SECOND FORM. 'bulk': how many values and letters a reading holds, each counted each time it is reached (what is shared counts as often as it is met; a slice's spare places count too). A statement '..UptoSaid' is the law's where the arguments, and the package variables that the reading takes, are together of bulk at most 1048576: NARROWER than '..Said'. Prove '..Said' where nothing that the law and all that it calls make is longer than what came in: it says more and counts as full. Else prove '..UptoSaid'. A law counts once. -/
mutual
def uptoBulk {H : Type} : DataW H → Nat
  | .lit (.string bytes) => bytes.length + 1
  | .lit _ => 1
  | .nil => 1
  | .ptr d => uptoBulk d + 1
  | .slice elems spare => uptoBulkAll elems + uptoBulkAll spare + 1
  | .agg parts => uptoBulkAll parts + 1
  | .iface _ d => uptoBulk d + 1
  | .map entries => uptoBulkEntries entries + 1
  | .held _ => 1
def uptoBulkAll {H : Type} : List (DataW H) → Nat
  | [] => 0
  | d :: r => uptoBulk d + uptoBulkAll r
def uptoBulkEntries {H : Type} : List (Lit × DataW H) → Nat
  | [] => 0
  | x :: r => uptoBulkEntry x + uptoBulkEntries r
def uptoBulkEntry {H : Type} : Lit × DataW H → Nat
  | (.string bytes, d) => bytes.length + uptoBulk d + 1
  | (_, d) => uptoBulk d + 1
 end
def uptoSmall : (H : Type) → List (DataW H) → Bool := fun _ ds => decide (uptoBulkAll ds ≤ 1048576)
def OpenSpec.upto (s : _root_.Go.ChangeSpec) : _root_.Go.OpenSpec := { _root_.Go.OpenSpec.ofChange s with cond := some uptoSmall }

/-- 'stenotypelaw09.GrammarChecks', WHERE WHAT IT READS IS OF BULK AT MOST 1048576: true; the input reads as it did. -/
def grammarChecksUptoRow : OpenClaim := { program := "ytbhonjkfkdeneaagreat", sum := "6fbafdf69912d8ee8f234e6fe0022d9eb8bcebdb92c76ef518313d34503b8ef5", func := "stenotype/stenotypelaw09.GrammarChecks", spec := "grammarChecks", inPlace := ["internal/abi.NoEscape", "internal/bytealg.MakeNoZero"], unfollowed := true, recurses := true, apart := false, narrowed := true }
def GrammarChecksUptoSaid : Prop := grammarChecksUptoRow.holds Tryz.pinned (OpenSpec.upto grammarChecksSpec)

/-- 'stenotypelaw08.SourceParses', WHERE WHAT IT READS IS OF BULK AT MOST 1048576: true; the input reads as it did. -/
def sourceParsesUptoRow : OpenClaim := { program := "ytbhonjkfkdeneaagreat", sum := "6fbafdf69912d8ee8f234e6fe0022d9eb8bcebdb92c76ef518313d34503b8ef5", func := "stenotype/stenotypelaw08.SourceParses", spec := "sourceParses", inPlace := ["internal/abi.NoEscape", "internal/bytealg.MakeNoZero"], unfollowed := true, recurses := true, apart := false, narrowed := true }
def SourceParsesUptoSaid : Prop := sourceParsesUptoRow.holds Tryz.pinned (OpenSpec.upto sourceParsesSpec)

/-- 'stenotypelaw08.SourceBack', WHERE WHAT IT READS IS OF BULK AT MOST 1048576: true; the input reads as it did. -/
def sourceBackUptoRow : OpenClaim := { program := "ytbhonjkfkdeneaagreat", sum := "6fbafdf69912d8ee8f234e6fe0022d9eb8bcebdb92c76ef518313d34503b8ef5", func := "stenotype/stenotypelaw08.SourceBack", spec := "sourceBack", inPlace := ["internal/abi.NoEscape", "internal/bytealg.MakeNoZero"], unfollowed := true, recurses := true, apart := false, narrowed := true }
def SourceBackUptoSaid : Prop := sourceBackUptoRow.holds Tryz.pinned (OpenSpec.upto sourceBackSpec)

/-- 'stenotypelaw08.SourceChecks', WHERE WHAT IT READS IS OF BULK AT MOST 1048576: true; the input reads as it did. -/
def sourceChecksUptoRow : OpenClaim := { program := "ytbhonjkfkdeneaagreat", sum := "6fbafdf69912d8ee8f234e6fe0022d9eb8bcebdb92c76ef518313d34503b8ef5", func := "stenotype/stenotypelaw08.SourceChecks", spec := "sourceChecks", inPlace := ["internal/abi.NoEscape", "internal/bytealg.MakeNoZero"], unfollowed := true, recurses := true, apart := false, narrowed := true }
def SourceChecksUptoSaid : Prop := sourceChecksUptoRow.holds Tryz.pinned (OpenSpec.upto sourceChecksSpec)

/-- 'stenotypelaw12.CanonTexts', WHERE WHAT IT READS IS OF BULK AT MOST 1048576: true; the input reads as it did. -/
def canonTextsUptoRow : OpenClaim := { program := "ytbhonjkfkdeneaagreat", sum := "6fbafdf69912d8ee8f234e6fe0022d9eb8bcebdb92c76ef518313d34503b8ef5", func := "stenotype/stenotypelaw12.CanonTexts", spec := "canonTexts", unfollowed := true, recurses := true, apart := false, narrowed := true }
def CanonTextsUptoSaid : Prop := canonTextsUptoRow.holds Tryz.pinned (OpenSpec.upto canonTextsSpec)

/-- 'stenotypelaw12.CanonBytes', WHERE WHAT IT READS IS OF BULK AT MOST 1048576: true; the input reads as it did. -/
def canonBytesUptoRow : OpenClaim := { program := "ytbhonjkfkdeneaagreat", sum := "6fbafdf69912d8ee8f234e6fe0022d9eb8bcebdb92c76ef518313d34503b8ef5", func := "stenotype/stenotypelaw12.CanonBytes", spec := "canonBytes", unfollowed := true, recurses := true, apart := false, narrowed := true }
def CanonBytesUptoSaid : Prop := canonBytesUptoRow.holds Tryz.pinned (OpenSpec.upto canonBytesSpec)

/-- 'stenotypelaw09.GrammarBack', WHERE WHAT IT READS IS OF BULK AT MOST 1048576: true; the input reads as it did. -/
def grammarBackUptoRow : OpenClaim := { program := "ytbhonjkfkdeneaagreat", sum := "6fbafdf69912d8ee8f234e6fe0022d9eb8bcebdb92c76ef518313d34503b8ef5", func := "stenotype/stenotypelaw09.GrammarBack", spec := "grammarBack", inPlace := ["internal/abi.NoEscape", "internal/bytealg.MakeNoZero"], unfollowed := true, recurses := true, apart := false, narrowed := true }
def GrammarBackUptoSaid : Prop := grammarBackUptoRow.holds Tryz.pinned (OpenSpec.upto grammarBackSpec)

/-- 'stenotypelaw12.CanonBack', WHERE WHAT IT READS IS OF BULK AT MOST 1048576: true; the input reads as it did. -/
def canonBackUptoRow : OpenClaim := { program := "ytbhonjkfkdeneaagreat", sum := "6fbafdf69912d8ee8f234e6fe0022d9eb8bcebdb92c76ef518313d34503b8ef5", func := "stenotype/stenotypelaw12.CanonBack", spec := "canonBack", unfollowed := true, recurses := true, apart := false, narrowed := true }
def CanonBackUptoSaid : Prop := canonBackUptoRow.holds Tryz.pinned (OpenSpec.upto canonBackSpec)

/-- 'stenotypelaw12.CanonCuts', WHERE WHAT IT READS IS OF BULK AT MOST 1048576: true; the input reads as it did. -/
def canonCutsUptoRow : OpenClaim := { program := "ytbhonjkfkdeneaagreat", sum := "6fbafdf69912d8ee8f234e6fe0022d9eb8bcebdb92c76ef518313d34503b8ef5", func := "stenotype/stenotypelaw12.CanonCuts", spec := "canonCuts", unfollowed := true, recurses := true, apart := false, narrowed := true }
def CanonCutsUptoSaid : Prop := canonCutsUptoRow.holds Tryz.pinned (OpenSpec.upto canonCutsSpec)

/-- 'stenotypelaw12.CanonParses', WHERE WHAT IT READS IS OF BULK AT MOST 1048576: true; the input reads as it did. -/
def canonParsesUptoRow : OpenClaim := { program := "ytbhonjkfkdeneaagreat", sum := "6fbafdf69912d8ee8f234e6fe0022d9eb8bcebdb92c76ef518313d34503b8ef5", func := "stenotype/stenotypelaw12.CanonParses", spec := "canonParses", unfollowed := true, recurses := true, apart := false, narrowed := true }
def CanonParsesUptoSaid : Prop := canonParsesUptoRow.holds Tryz.pinned (OpenSpec.upto canonParsesSpec)

end Rows
end Go.Proofs.YtbhonjkfkdeneaaGreat

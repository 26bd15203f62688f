/-
  No cell of these rows narrows 'for every input' (looked for: loops, veiled, ifaces, maps, wideKeys, modest, calm, conditions, laid).
  DERIVED. THE GIVEN ROWS OF THIS SEAT. 5 by the template 'for every input the law returns true; each argument reads behind the call as it read before'; 0 by the template 'total and deterministic' (their statements: YtlbjfkncpabcaaaGreatTotals.lean).
  GIVEN WITH THE SEED: the statements are not yours to turn. If you find one false, say at which input.
  Laid BY PROGRAM, IN A SANDBOX (cutbox-rows.mjs): the forced cells as the released guide's own fill.sh prints them over the translation 5d2ad89192165271… (all of the seat's roots in one cut). By AI agents, Wed Nov 11 2026. No macro, syntax, notation, axiom, sorry.
-/
import Derived.Test.YtlbjfkncpabcaaaGreatChecked
import GoSem.Claim
import GoSem.ClaimJoined
import GoSem.ClaimMapViews
import Derived.JoinedTies
import Derived.KernelRfl
namespace Go.Proofs.YtlbjfkncpabcaaaGreat
/- THE CELL 'sum', in the pinned program and in every row, IS THE sha256 OF THE DUMP (.gsa) THAT YtlbjfkncpabcaaaGreatProg.lean LOADS. Nothing in Lean hashes anything: it is a label: what it is worth is what the hold of that sum in a sandbox is worth. -/
noncomputable def Tryz.pinned : Pinned := { name := "ytlbjfkncpabcaaagreat", sum := "5d2ad891921652713a4936edc562db7c9165474d88ba016e306dbc610da6e422", checked := Tryz.checked }
namespace Rows
def none {H : Type} : Left H := { results := [], args := [] }

/-- 'stenotypelaw08.SourceBack': WHATEVER THE INPUT: true; the input reads as it did. -/
def sourceBackSpec : ChangeSpec := { name := "sourceBack", fn := fun _ => fun
  | [d1, d2] => { results := [.lit (.bool true)], args := [d1, d2] }
  | _ => none }
def sourceBackRow : OpenClaim := { program := "ytlbjfkncpabcaaagreat", sum := "5d2ad891921652713a4936edc562db7c9165474d88ba016e306dbc610da6e422", func := "stenotype/stenotypelaw08.SourceBack", spec := "sourceBack", inPlace := ["internal/abi.NoEscape", "internal/bytealg.MakeNoZero"], unfollowed := true, recurses := true, plainKeys := false, apart := false }
def SourceBackSaid : Prop := sourceBackRow.holds Tryz.pinned (OpenSpec.ofChange sourceBackSpec)

/-- ITS FALSE NEIGHBOUR: 'it returns false'. Refute it at one input. -/
def sourceBackWrong : ChangeSpec := { name := "sourceBack", fn := fun _ => fun
  | [d1, d2] => { results := [.lit (.bool false)], args := [d1, d2] }
  | _ => none }
def SourceBackWrongFalsely : Prop := sourceBackRow.holds Tryz.pinned (OpenSpec.ofChange sourceBackWrong)

/-- 'stenotypelaw12.CanonTexts': WHATEVER THE INPUT: true; the input reads as it did. -/
def canonTextsSpec : ChangeSpec := { name := "canonTexts", fn := fun _ => fun
  | [d] => { results := [.lit (.bool true)], args := [d] }
  | _ => none }
def canonTextsRow : OpenClaim := { program := "ytlbjfkncpabcaaagreat", sum := "5d2ad891921652713a4936edc562db7c9165474d88ba016e306dbc610da6e422", func := "stenotype/stenotypelaw12.CanonTexts", spec := "canonTexts", unfollowed := true, recurses := true, plainKeys := false, apart := false }
def CanonTextsSaid : Prop := canonTextsRow.holds Tryz.pinned (OpenSpec.ofChange canonTextsSpec)

/-- ITS FALSE NEIGHBOUR: 'it returns false'. Refute it at one input. -/
def canonTextsWrong : ChangeSpec := { name := "canonTexts", fn := fun _ => fun
  | [d] => { results := [.lit (.bool false)], args := [d] }
  | _ => none }
def CanonTextsWrongFalsely : Prop := canonTextsRow.holds Tryz.pinned (OpenSpec.ofChange canonTextsWrong)

/-- 'stenotypelaw12.CanonKnown': WHATEVER THE INPUT: true; the input reads as it did. -/
def canonKnownSpec : ChangeSpec := { name := "canonKnown", fn := fun _ => fun
  | [] => { results := [.lit (.bool true)], args := [] }
  | _ => none }
def canonKnownRow : OpenClaim := { program := "ytlbjfkncpabcaaagreat", sum := "5d2ad891921652713a4936edc562db7c9165474d88ba016e306dbc610da6e422", func := "stenotype/stenotypelaw12.CanonKnown", spec := "canonKnown", unfollowed := true, recurses := true, plainKeys := false, apart := false }
def CanonKnownSaid : Prop := canonKnownRow.holds Tryz.pinned (OpenSpec.ofChange canonKnownSpec)

/-- ITS FALSE NEIGHBOUR: 'it returns false'. Refute it at one input. -/
def canonKnownWrong : ChangeSpec := { name := "canonKnown", fn := fun _ => fun
  | [] => { results := [.lit (.bool false)], args := [] }
  | _ => none }
def CanonKnownWrongFalsely : Prop := canonKnownRow.holds Tryz.pinned (OpenSpec.ofChange canonKnownWrong)

/-- 'stenotypelaw18.TriePredicts': WHATEVER THE INPUT: true; the input reads as it did. -/
def triePredictsSpec : ChangeSpec := { name := "triePredicts", fn := fun _ => fun
  | [d1, d2, d3] => { results := [.lit (.bool true)], args := [d1, d2, d3] }
  | _ => none }
def triePredictsRow : OpenClaim := { program := "ytlbjfkncpabcaaagreat", sum := "5d2ad891921652713a4936edc562db7c9165474d88ba016e306dbc610da6e422", func := "stenotype/stenotypelaw18.TriePredicts", spec := "triePredicts", unfollowed := true, recurses := true, plainKeys := false, apart := false }
def TriePredictsSaid : Prop := triePredictsRow.holds Tryz.pinned (OpenSpec.ofChange triePredictsSpec)

/-- ITS FALSE NEIGHBOUR: 'it returns false'. Refute it at one input. -/
def triePredictsWrong : ChangeSpec := { name := "triePredicts", fn := fun _ => fun
  | [d1, d2, d3] => { results := [.lit (.bool false)], args := [d1, d2, d3] }
  | _ => none }
def TriePredictsWrongFalsely : Prop := triePredictsRow.holds Tryz.pinned (OpenSpec.ofChange triePredictsWrong)

/-- 'stenotypelaw20.TreeKnown': WHATEVER THE INPUT: true; the input reads as it did. -/
def treeKnownSpec : ChangeSpec := { name := "treeKnown", fn := fun _ => fun
  | [] => { results := [.lit (.bool true)], args := [] }
  | _ => none }
def treeKnownRow : OpenClaim := { program := "ytlbjfkncpabcaaagreat", sum := "5d2ad891921652713a4936edc562db7c9165474d88ba016e306dbc610da6e422", func := "stenotype/stenotypelaw20.TreeKnown", spec := "treeKnown", unfollowed := true, recurses := true, plainKeys := false, apart := false }
def TreeKnownSaid : Prop := treeKnownRow.holds Tryz.pinned (OpenSpec.ofChange treeKnownSpec)

/-- ITS FALSE NEIGHBOUR: 'it returns false'. Refute it at one input. -/
def treeKnownWrong : ChangeSpec := { name := "treeKnown", fn := fun _ => fun
  | [] => { results := [.lit (.bool false)], args := [] }
  | _ => none }
def TreeKnownWrongFalsely : Prop := treeKnownRow.holds Tryz.pinned (OpenSpec.ofChange treeKnownWrong)

/- THE SECOND FORM. 'bulk': how many values and letters a reading holds, each counted each time it is reached (what is shared counts as often as it is met; a slice's spare places count too). A statement '..UptoSaid' is the law's where the arguments, and the package variables that the reading takes, are together of bulk at most 1048576: NARROWER than '..Said'. Prove '..Said' where nothing that the law and all that it calls make is longer than what came in: it says more and counts as full. Else prove '..UptoSaid'. A law counts once. -/
mutual
def uptoBulk {H : Type} : DataW H → Nat
  | .lit (.string bytes) => bytes.length + 1
  | .lit _ => 1
  | .nil => 1
  | .ptr d => uptoBulk d + 1
  | .slice elems spare => uptoBulkAll elems + uptoBulkAll spare + 1
  | .agg parts => uptoBulkAll parts + 1
  | .iface _ d => uptoBulk d + 1
  | .map entries => uptoBulkEntries entries + 1
  | .held _ => 1
def uptoBulkAll {H : Type} : List (DataW H) → Nat
  | [] => 0
  | d :: r => uptoBulk d + uptoBulkAll r
def uptoBulkEntries {H : Type} : List (Lit × DataW H) → Nat
  | [] => 0
  | x :: r => uptoBulkEntry x + uptoBulkEntries r
def uptoBulkEntry {H : Type} : Lit × DataW H → Nat
  | (.string bytes, d) => bytes.length + uptoBulk d + 1
  | (_, d) => uptoBulk d + 1
 end
def uptoSmall : (H : Type) → List (DataW H) → Bool := fun _ ds => decide (uptoBulkAll ds ≤ 1048576)
def OpenSpec.upto (s : _root_.Go.ChangeSpec) : _root_.Go.OpenSpec := { _root_.Go.OpenSpec.ofChange s with cond := some uptoSmall }

/-- 'stenotypelaw08.SourceBack', WHERE WHAT IT READS IS OF BULK AT MOST 1048576: true; the input reads as it did. -/
def sourceBackUptoRow : OpenClaim := { program := "ytlbjfkncpabcaaagreat", sum := "5d2ad891921652713a4936edc562db7c9165474d88ba016e306dbc610da6e422", func := "stenotype/stenotypelaw08.SourceBack", spec := "sourceBack", inPlace := ["internal/abi.NoEscape", "internal/bytealg.MakeNoZero"], unfollowed := true, recurses := true, plainKeys := false, apart := false, narrowed := true }
def SourceBackUptoSaid : Prop := sourceBackUptoRow.holds Tryz.pinned (OpenSpec.upto sourceBackSpec)

/-- 'stenotypelaw12.CanonTexts', WHERE WHAT IT READS IS OF BULK AT MOST 1048576: true; the input reads as it did. -/
def canonTextsUptoRow : OpenClaim := { program := "ytlbjfkncpabcaaagreat", sum := "5d2ad891921652713a4936edc562db7c9165474d88ba016e306dbc610da6e422", func := "stenotype/stenotypelaw12.CanonTexts", spec := "canonTexts", unfollowed := true, recurses := true, plainKeys := false, apart := false, narrowed := true }
def CanonTextsUptoSaid : Prop := canonTextsUptoRow.holds Tryz.pinned (OpenSpec.upto canonTextsSpec)

/-- 'stenotypelaw12.CanonKnown', WHERE WHAT IT READS IS OF BULK AT MOST 1048576: true; the input reads as it did. -/
def canonKnownUptoRow : OpenClaim := { program := "ytlbjfkncpabcaaagreat", sum := "5d2ad891921652713a4936edc562db7c9165474d88ba016e306dbc610da6e422", func := "stenotype/stenotypelaw12.CanonKnown", spec := "canonKnown", unfollowed := true, recurses := true, plainKeys := false, apart := false, narrowed := true }
def CanonKnownUptoSaid : Prop := canonKnownUptoRow.holds Tryz.pinned (OpenSpec.upto canonKnownSpec)

/-- 'stenotypelaw18.TriePredicts', WHERE WHAT IT READS IS OF BULK AT MOST 1048576: true; the input reads as it did. -/
def triePredictsUptoRow : OpenClaim := { program := "ytlbjfkncpabcaaagreat", sum := "5d2ad891921652713a4936edc562db7c9165474d88ba016e306dbc610da6e422", func := "stenotype/stenotypelaw18.TriePredicts", spec := "triePredicts", unfollowed := true, recurses := true, plainKeys := false, apart := false, narrowed := true }
def TriePredictsUptoSaid : Prop := triePredictsUptoRow.holds Tryz.pinned (OpenSpec.upto triePredictsSpec)

/-- 'stenotypelaw20.TreeKnown', WHERE WHAT IT READS IS OF BULK AT MOST 1048576: true; the input reads as it did. -/
def treeKnownUptoRow : OpenClaim := { program := "ytlbjfkncpabcaaagreat", sum := "5d2ad891921652713a4936edc562db7c9165474d88ba016e306dbc610da6e422", func := "stenotype/stenotypelaw20.TreeKnown", spec := "treeKnown", unfollowed := true, recurses := true, plainKeys := false, apart := false, narrowed := true }
def TreeKnownUptoSaid : Prop := treeKnownUptoRow.holds Tryz.pinned (OpenSpec.upto treeKnownSpec)

end Rows
end Go.Proofs.YtlbjfkncpabcaaaGreat

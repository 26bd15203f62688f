/-
  No cell of these rows narrows 'for every input' (looked for: loops, veiled, ifaces, maps, wideKeys, modest, calm, conditions, laid).
  DERIVED. THE GIVEN ROWS OF THIS SEAT. 5 by the template 'for every input the law returns true; each argument reads behind the call as it read before'; 0 by the template 'total and deterministic' (their statements: YtpcomlcjkdmggaaTotals.lean).
  GIVEN WITH THE SEED: the statements are not yours to turn. If you find one false, say at which input.
  Laid BY PROGRAM, IN A SANDBOX (cutbox-rows.mjs): the forced cells as the released guide's own fill.sh prints them over the translation 986e0fd2c72a8adf… (all of the seat's roots in one cut). By AI agents, Wed Nov 11 2026. No macro, syntax, notation, axiom, sorry.
-/
import Derived.Test.YtpcomlcjkdmggaaChecked
import GoSem.Claim
import GoSem.ClaimJoined
import GoSem.ClaimMapViews
import Derived.JoinedTies
import Derived.KernelRfl
namespace Go.Proofs.Ytpcomlcjkdmggaa
/- THE CELL 'sum', in the pinned program and in every row, IS THE sha256 OF THE DUMP (.gsa) THAT YtpcomlcjkdmggaaProg.lean LOADS. Nothing in Lean hashes anything: it is a label: what it is worth is what the hold of that sum in a sandbox is worth. -/
noncomputable def Try.pinned : Pinned := { name := "ytpcomlcjkdmggaa", sum := "986e0fd2c72a8adfe452b06fa3eec924ee3b0fc4026418f6e41cbe2016427469", checked := Try.checked }
namespace Rows
def none {H : Type} : Left H := { results := [], args := [] }

/-- 'stenotypelaw15.FirstStrings': WHATEVER THE INPUT: true; the input reads as it did. -/
def firstStringsSpec : ChangeSpec := { name := "firstStrings", fn := fun _ => fun
  | [d1, d2] => { results := [.lit (.bool true)], args := [d1, d2] }
  | _ => none }
def firstStringsRow : OpenClaim := { program := "ytpcomlcjkdmggaa", sum := "986e0fd2c72a8adfe452b06fa3eec924ee3b0fc4026418f6e41cbe2016427469", func := "stenotype/stenotypelaw15.FirstStrings", spec := "firstStrings", unfollowed := true, recurses := true, plainKeys := false, apart := false }
def FirstStringsSaid : Prop := firstStringsRow.holds Try.pinned (OpenSpec.ofChange firstStringsSpec)

/-- ITS FALSE NEIGHBOUR: 'it returns false'. Refute it at one input. -/
def firstStringsWrong : ChangeSpec := { name := "firstStrings", fn := fun _ => fun
  | [d1, d2] => { results := [.lit (.bool false)], args := [d1, d2] }
  | _ => none }
def FirstStringsWrongFalsely : Prop := firstStringsRow.holds Try.pinned (OpenSpec.ofChange firstStringsWrong)

/-- 'stenotypelaw15.FirstUnions': WHATEVER THE INPUT: true; the input reads as it did. -/
def firstUnionsSpec : ChangeSpec := { name := "firstUnions", fn := fun _ => fun
  | [d] => { results := [.lit (.bool true)], args := [d] }
  | _ => none }
def firstUnionsRow : OpenClaim := { program := "ytpcomlcjkdmggaa", sum := "986e0fd2c72a8adfe452b06fa3eec924ee3b0fc4026418f6e41cbe2016427469", func := "stenotype/stenotypelaw15.FirstUnions", spec := "firstUnions", unfollowed := true, recurses := true, plainKeys := false, apart := false }
def FirstUnionsSaid : Prop := firstUnionsRow.holds Try.pinned (OpenSpec.ofChange firstUnionsSpec)

/-- ITS FALSE NEIGHBOUR: 'it returns false'. Refute it at one input. -/
def firstUnionsWrong : ChangeSpec := { name := "firstUnions", fn := fun _ => fun
  | [d] => { results := [.lit (.bool false)], args := [d] }
  | _ => none }
def FirstUnionsWrongFalsely : Prop := firstUnionsRow.holds Try.pinned (OpenSpec.ofChange firstUnionsWrong)

/-- 'stenotypelaw15.FirstKnown': WHATEVER THE INPUT: true; the input reads as it did. -/
def firstKnownSpec : ChangeSpec := { name := "firstKnown", fn := fun _ => fun
  | [] => { results := [.lit (.bool true)], args := [] }
  | _ => none }
def firstKnownRow : OpenClaim := { program := "ytpcomlcjkdmggaa", sum := "986e0fd2c72a8adfe452b06fa3eec924ee3b0fc4026418f6e41cbe2016427469", func := "stenotype/stenotypelaw15.FirstKnown", spec := "firstKnown", unfollowed := true, recurses := true, plainKeys := false, apart := false }
def FirstKnownSaid : Prop := firstKnownRow.holds Try.pinned (OpenSpec.ofChange firstKnownSpec)

/-- ITS FALSE NEIGHBOUR: 'it returns false'. Refute it at one input. -/
def firstKnownWrong : ChangeSpec := { name := "firstKnown", fn := fun _ => fun
  | [] => { results := [.lit (.bool false)], args := [] }
  | _ => none }
def FirstKnownWrongFalsely : Prop := firstKnownRow.holds Try.pinned (OpenSpec.ofChange firstKnownWrong)

/-- 'stenotypelaw15.FirstCuts': WHATEVER THE INPUT: true; the input reads as it did. -/
def firstCutsSpec : ChangeSpec := { name := "firstCuts", fn := fun _ => fun
  | [d1, d2, d3, d4] => { results := [.lit (.bool true)], args := [d1, d2, d3, d4] }
  | _ => none }
def firstCutsRow : OpenClaim := { program := "ytpcomlcjkdmggaa", sum := "986e0fd2c72a8adfe452b06fa3eec924ee3b0fc4026418f6e41cbe2016427469", func := "stenotype/stenotypelaw15.FirstCuts", spec := "firstCuts", unfollowed := true, recurses := true, plainKeys := false, apart := false }
def FirstCutsSaid : Prop := firstCutsRow.holds Try.pinned (OpenSpec.ofChange firstCutsSpec)

/-- ITS FALSE NEIGHBOUR: 'it returns false'. Refute it at one input. -/
def firstCutsWrong : ChangeSpec := { name := "firstCuts", fn := fun _ => fun
  | [d1, d2, d3, d4] => { results := [.lit (.bool false)], args := [d1, d2, d3, d4] }
  | _ => none }
def FirstCutsWrongFalsely : Prop := firstCutsRow.holds Try.pinned (OpenSpec.ofChange firstCutsWrong)

/-- 'stenotypelaw15.FirstSums': WHATEVER THE INPUT: true; the input reads as it did. -/
def firstSumsSpec : ChangeSpec := { name := "firstSums", fn := fun _ => fun
  | [d1, d2, d3] => { results := [.lit (.bool true)], args := [d1, d2, d3] }
  | _ => none }
def firstSumsRow : OpenClaim := { program := "ytpcomlcjkdmggaa", sum := "986e0fd2c72a8adfe452b06fa3eec924ee3b0fc4026418f6e41cbe2016427469", func := "stenotype/stenotypelaw15.FirstSums", spec := "firstSums", unfollowed := true, recurses := true, plainKeys := false, apart := false }
def FirstSumsSaid : Prop := firstSumsRow.holds Try.pinned (OpenSpec.ofChange firstSumsSpec)

/-- ITS FALSE NEIGHBOUR: 'it returns false'. Refute it at one input. -/
def firstSumsWrong : ChangeSpec := { name := "firstSums", fn := fun _ => fun
  | [d1, d2, d3] => { results := [.lit (.bool false)], args := [d1, d2, d3] }
  | _ => none }
def FirstSumsWrongFalsely : Prop := firstSumsRow.holds Try.pinned (OpenSpec.ofChange firstSumsWrong)

/- THE SECOND FORM. 'bulk': how many values and letters a reading holds, each counted each time it is reached (what is shared counts as often as it is met; a slice's spare places count too). A statement '..UptoSaid' is the law's where the arguments, and the package variables that the reading takes, are together of bulk at most 1048576: NARROWER than '..Said'. Prove '..Said' where nothing that the law and all that it calls make is longer than what came in: it says more and counts as full. Else prove '..UptoSaid'. A law counts once. -/
mutual
def uptoBulk {H : Type} : DataW H → Nat
  | .lit (.string bytes) => bytes.length + 1
  | .lit _ => 1
  | .nil => 1
  | .ptr d => uptoBulk d + 1
  | .slice elems spare => uptoBulkAll elems + uptoBulkAll spare + 1
  | .agg parts => uptoBulkAll parts + 1
  | .iface _ d => uptoBulk d + 1
  | .map entries => uptoBulkEntries entries + 1
  | .held _ => 1
def uptoBulkAll {H : Type} : List (DataW H) → Nat
  | [] => 0
  | d :: r => uptoBulk d + uptoBulkAll r
def uptoBulkEntries {H : Type} : List (Lit × DataW H) → Nat
  | [] => 0
  | x :: r => uptoBulkEntry x + uptoBulkEntries r
def uptoBulkEntry {H : Type} : Lit × DataW H → Nat
  | (.string bytes, d) => bytes.length + uptoBulk d + 1
  | (_, d) => uptoBulk d + 1
 end
def uptoSmall : (H : Type) → List (DataW H) → Bool := fun _ ds => decide (uptoBulkAll ds ≤ 1048576)
def OpenSpec.upto (s : _root_.Go.ChangeSpec) : _root_.Go.OpenSpec := { _root_.Go.OpenSpec.ofChange s with cond := some uptoSmall }

/-- 'stenotypelaw15.FirstStrings', WHERE WHAT IT READS IS OF BULK AT MOST 1048576: true; the input reads as it did. -/
def firstStringsUptoRow : OpenClaim := { program := "ytpcomlcjkdmggaa", sum := "986e0fd2c72a8adfe452b06fa3eec924ee3b0fc4026418f6e41cbe2016427469", func := "stenotype/stenotypelaw15.FirstStrings", spec := "firstStrings", unfollowed := true, recurses := true, plainKeys := false, apart := false, narrowed := true }
def FirstStringsUptoSaid : Prop := firstStringsUptoRow.holds Try.pinned (OpenSpec.upto firstStringsSpec)

/-- 'stenotypelaw15.FirstUnions', WHERE WHAT IT READS IS OF BULK AT MOST 1048576: true; the input reads as it did. -/
def firstUnionsUptoRow : OpenClaim := { program := "ytpcomlcjkdmggaa", sum := "986e0fd2c72a8adfe452b06fa3eec924ee3b0fc4026418f6e41cbe2016427469", func := "stenotype/stenotypelaw15.FirstUnions", spec := "firstUnions", unfollowed := true, recurses := true, plainKeys := false, apart := false, narrowed := true }
def FirstUnionsUptoSaid : Prop := firstUnionsUptoRow.holds Try.pinned (OpenSpec.upto firstUnionsSpec)

/-- 'stenotypelaw15.FirstKnown', WHERE WHAT IT READS IS OF BULK AT MOST 1048576: true; the input reads as it did. -/
def firstKnownUptoRow : OpenClaim := { program := "ytpcomlcjkdmggaa", sum := "986e0fd2c72a8adfe452b06fa3eec924ee3b0fc4026418f6e41cbe2016427469", func := "stenotype/stenotypelaw15.FirstKnown", spec := "firstKnown", unfollowed := true, recurses := true, plainKeys := false, apart := false, narrowed := true }
def FirstKnownUptoSaid : Prop := firstKnownUptoRow.holds Try.pinned (OpenSpec.upto firstKnownSpec)

/-- 'stenotypelaw15.FirstCuts', WHERE WHAT IT READS IS OF BULK AT MOST 1048576: true; the input reads as it did. -/
def firstCutsUptoRow : OpenClaim := { program := "ytpcomlcjkdmggaa", sum := "986e0fd2c72a8adfe452b06fa3eec924ee3b0fc4026418f6e41cbe2016427469", func := "stenotype/stenotypelaw15.FirstCuts", spec := "firstCuts", unfollowed := true, recurses := true, plainKeys := false, apart := false, narrowed := true }
def FirstCutsUptoSaid : Prop := firstCutsUptoRow.holds Try.pinned (OpenSpec.upto firstCutsSpec)

/-- 'stenotypelaw15.FirstSums', WHERE WHAT IT READS IS OF BULK AT MOST 1048576: true; the input reads as it did. -/
def firstSumsUptoRow : OpenClaim := { program := "ytpcomlcjkdmggaa", sum := "986e0fd2c72a8adfe452b06fa3eec924ee3b0fc4026418f6e41cbe2016427469", func := "stenotype/stenotypelaw15.FirstSums", spec := "firstSums", unfollowed := true, recurses := true, plainKeys := false, apart := false, narrowed := true }
def FirstSumsUptoSaid : Prop := firstSumsUptoRow.holds Try.pinned (OpenSpec.upto firstSumsSpec)

end Rows
end Go.Proofs.Ytpcomlcjkdmggaa

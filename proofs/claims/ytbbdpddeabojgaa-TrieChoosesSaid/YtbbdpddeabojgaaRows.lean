/-
  No cell of these rows narrows 'for every input' (looked for: loops, veiled, ifaces, maps, wideKeys, modest, calm, conditions, laid).
  DERIVED. THE GIVEN ROWS OF THIS SEAT. 8 by the template 'for every input the law returns true; each argument reads behind the call as it read before'; 0 by the template 'total and deterministic' (their statements: YtbbdpddeabojgaaTotals.lean).
  GIVEN WITH THE SEED: the statements are not yours to turn. If you find one false, say at which input.
  Laid BY PROGRAM, IN A SANDBOX (cutbox-rows.mjs): the forced cells as the released guide's own fill.sh prints them over the translation 1d8d1c733fea3aa9… (all of the seat's roots in one cut). By AI agents, Wed Nov 11 2026. No macro, syntax, notation, axiom, sorry.
-/
import Derived.Test.YtbbdpddeabojgaaChecked
import GoSem.Claim
import GoSem.ClaimJoined
import GoSem.ClaimMapViews
import Derived.JoinedTies
import Derived.KernelRfl
namespace Go.Proofs.Ytbbdpddeabojgaa
/- THE CELL 'sum', in the pinned program and in every row, IS THE sha256 OF THE DUMP (.gsa) THAT YtbbdpddeabojgaaProg.lean LOADS. Nothing in Lean hashes anything: it is a label: what it is worth is what the hold of that sum in a sandbox is worth. -/
noncomputable def Try.pinned : Pinned := { name := "ytbbdpddeabojgaa", sum := "1d8d1c733fea3aa9304b68aa346ff947030c67d001c0a17ead76f36f3301f670", checked := Try.checked }
namespace Rows
def none {H : Type} : Left H := { results := [], args := [] }

/-- 'stenotypelaw18.TrieMakes': WHATEVER THE INPUT: true; the input reads as it did. -/
def trieMakesSpec : ChangeSpec := { name := "trieMakes", fn := fun _ => fun
  | [d1, d2, d3, d4] => { results := [.lit (.bool true)], args := [d1, d2, d3, d4] }
  | _ => none }
def trieMakesRow : OpenClaim := { program := "ytbbdpddeabojgaa", sum := "1d8d1c733fea3aa9304b68aa346ff947030c67d001c0a17ead76f36f3301f670", func := "stenotype/stenotypelaw18.TrieMakes", spec := "trieMakes", unfollowed := true, recurses := true, plainKeys := false, apart := false }
def TrieMakesSaid : Prop := trieMakesRow.holds Try.pinned (OpenSpec.ofChange trieMakesSpec)

/-- ITS FALSE NEIGHBOUR: 'it returns false'. Refute it at one input. -/
def trieMakesWrong : ChangeSpec := { name := "trieMakes", fn := fun _ => fun
  | [d1, d2, d3, d4] => { results := [.lit (.bool false)], args := [d1, d2, d3, d4] }
  | _ => none }
def TrieMakesWrongFalsely : Prop := trieMakesRow.holds Try.pinned (OpenSpec.ofChange trieMakesWrong)

/-- 'stenotypelaw18.TrieChooses': WHATEVER THE INPUT: true; the input reads as it did. -/
def trieChoosesSpec : ChangeSpec := { name := "trieChooses", fn := fun _ => fun
  | [d1, d2, d3] => { results := [.lit (.bool true)], args := [d1, d2, d3] }
  | _ => none }
def trieChoosesRow : OpenClaim := { program := "ytbbdpddeabojgaa", sum := "1d8d1c733fea3aa9304b68aa346ff947030c67d001c0a17ead76f36f3301f670", func := "stenotype/stenotypelaw18.TrieChooses", spec := "trieChooses", unfollowed := true, recurses := true, plainKeys := false, apart := false }
def TrieChoosesSaid : Prop := trieChoosesRow.holds Try.pinned (OpenSpec.ofChange trieChoosesSpec)

/-- ITS FALSE NEIGHBOUR: 'it returns false'. Refute it at one input. -/
def trieChoosesWrong : ChangeSpec := { name := "trieChooses", fn := fun _ => fun
  | [d1, d2, d3] => { results := [.lit (.bool false)], args := [d1, d2, d3] }
  | _ => none }
def TrieChoosesWrongFalsely : Prop := trieChoosesRow.holds Try.pinned (OpenSpec.ofChange trieChoosesWrong)

/-- 'stenotypelaw18.TrieSets': WHATEVER THE INPUT: true; the input reads as it did. -/
def trieSetsSpec : ChangeSpec := { name := "trieSets", fn := fun _ => fun
  | [d1, d2, d3, d4] => { results := [.lit (.bool true)], args := [d1, d2, d3, d4] }
  | _ => none }
def trieSetsRow : OpenClaim := { program := "ytbbdpddeabojgaa", sum := "1d8d1c733fea3aa9304b68aa346ff947030c67d001c0a17ead76f36f3301f670", func := "stenotype/stenotypelaw18.TrieSets", spec := "trieSets", unfollowed := true, recurses := true, plainKeys := false, apart := false }
def TrieSetsSaid : Prop := trieSetsRow.holds Try.pinned (OpenSpec.ofChange trieSetsSpec)

/-- ITS FALSE NEIGHBOUR: 'it returns false'. Refute it at one input. -/
def trieSetsWrong : ChangeSpec := { name := "trieSets", fn := fun _ => fun
  | [d1, d2, d3, d4] => { results := [.lit (.bool false)], args := [d1, d2, d3, d4] }
  | _ => none }
def TrieSetsWrongFalsely : Prop := trieSetsRow.holds Try.pinned (OpenSpec.ofChange trieSetsWrong)

/-- 'stenotypelaw18.TrieBack': WHATEVER THE INPUT: true; the input reads as it did. -/
def trieBackSpec : ChangeSpec := { name := "trieBack", fn := fun _ => fun
  | [d1, d2] => { results := [.lit (.bool true)], args := [d1, d2] }
  | _ => none }
def trieBackRow : OpenClaim := { program := "ytbbdpddeabojgaa", sum := "1d8d1c733fea3aa9304b68aa346ff947030c67d001c0a17ead76f36f3301f670", func := "stenotype/stenotypelaw18.TrieBack", spec := "trieBack", unfollowed := true, recurses := true, plainKeys := false, apart := false }
def TrieBackSaid : Prop := trieBackRow.holds Try.pinned (OpenSpec.ofChange trieBackSpec)

/-- ITS FALSE NEIGHBOUR: 'it returns false'. Refute it at one input. -/
def trieBackWrong : ChangeSpec := { name := "trieBack", fn := fun _ => fun
  | [d1, d2] => { results := [.lit (.bool false)], args := [d1, d2] }
  | _ => none }
def TrieBackWrongFalsely : Prop := trieBackRow.holds Try.pinned (OpenSpec.ofChange trieBackWrong)

/-- 'stenotypelaw14.LooksetSums': WHATEVER THE INPUT: true; the input reads as it did. -/
def looksetSumsSpec : ChangeSpec := { name := "looksetSums", fn := fun _ => fun
  | [d1, d2, d3, d4] => { results := [.lit (.bool true)], args := [d1, d2, d3, d4] }
  | _ => none }
def looksetSumsRow : OpenClaim := { program := "ytbbdpddeabojgaa", sum := "1d8d1c733fea3aa9304b68aa346ff947030c67d001c0a17ead76f36f3301f670", func := "stenotype/stenotypelaw14.LooksetSums", spec := "looksetSums", unfollowed := true, recurses := true, plainKeys := false, apart := false }
def LooksetSumsSaid : Prop := looksetSumsRow.holds Try.pinned (OpenSpec.ofChange looksetSumsSpec)

/-- ITS FALSE NEIGHBOUR: 'it returns false'. Refute it at one input. -/
def looksetSumsWrong : ChangeSpec := { name := "looksetSums", fn := fun _ => fun
  | [d1, d2, d3, d4] => { results := [.lit (.bool false)], args := [d1, d2, d3, d4] }
  | _ => none }
def LooksetSumsWrongFalsely : Prop := looksetSumsRow.holds Try.pinned (OpenSpec.ofChange looksetSumsWrong)

/-- 'stenotypelaw14.LooksetJoins': WHATEVER THE INPUT: true; the input reads as it did. -/
def looksetJoinsSpec : ChangeSpec := { name := "looksetJoins", fn := fun _ => fun
  | [d1, d2, d3] => { results := [.lit (.bool true)], args := [d1, d2, d3] }
  | _ => none }
def looksetJoinsRow : OpenClaim := { program := "ytbbdpddeabojgaa", sum := "1d8d1c733fea3aa9304b68aa346ff947030c67d001c0a17ead76f36f3301f670", func := "stenotype/stenotypelaw14.LooksetJoins", spec := "looksetJoins", unfollowed := true, recurses := true, plainKeys := false, apart := false }
def LooksetJoinsSaid : Prop := looksetJoinsRow.holds Try.pinned (OpenSpec.ofChange looksetJoinsSpec)

/-- ITS FALSE NEIGHBOUR: 'it returns false'. Refute it at one input. -/
def looksetJoinsWrong : ChangeSpec := { name := "looksetJoins", fn := fun _ => fun
  | [d1, d2, d3] => { results := [.lit (.bool false)], args := [d1, d2, d3] }
  | _ => none }
def LooksetJoinsWrongFalsely : Prop := looksetJoinsRow.holds Try.pinned (OpenSpec.ofChange looksetJoinsWrong)

/-- 'stenotypelaw14.LooksetParts': WHATEVER THE INPUT: true; the input reads as it did. -/
def looksetPartsSpec : ChangeSpec := { name := "looksetParts", fn := fun _ => fun
  | [d1, d2, d3, d4] => { results := [.lit (.bool true)], args := [d1, d2, d3, d4] }
  | _ => none }
def looksetPartsRow : OpenClaim := { program := "ytbbdpddeabojgaa", sum := "1d8d1c733fea3aa9304b68aa346ff947030c67d001c0a17ead76f36f3301f670", func := "stenotype/stenotypelaw14.LooksetParts", spec := "looksetParts", unfollowed := true, recurses := true, plainKeys := false, apart := false }
def LooksetPartsSaid : Prop := looksetPartsRow.holds Try.pinned (OpenSpec.ofChange looksetPartsSpec)

/-- ITS FALSE NEIGHBOUR: 'it returns false'. Refute it at one input. -/
def looksetPartsWrong : ChangeSpec := { name := "looksetParts", fn := fun _ => fun
  | [d1, d2, d3, d4] => { results := [.lit (.bool false)], args := [d1, d2, d3, d4] }
  | _ => none }
def LooksetPartsWrongFalsely : Prop := looksetPartsRow.holds Try.pinned (OpenSpec.ofChange looksetPartsWrong)

/-- 'stenotypelaw14.LooksetCuts': WHATEVER THE INPUT: true; the input reads as it did. -/
def looksetCutsSpec : ChangeSpec := { name := "looksetCuts", fn := fun _ => fun
  | [d1, d2, d3, d4] => { results := [.lit (.bool true)], args := [d1, d2, d3, d4] }
  | _ => none }
def looksetCutsRow : OpenClaim := { program := "ytbbdpddeabojgaa", sum := "1d8d1c733fea3aa9304b68aa346ff947030c67d001c0a17ead76f36f3301f670", func := "stenotype/stenotypelaw14.LooksetCuts", spec := "looksetCuts", unfollowed := true, recurses := true, plainKeys := false, apart := false }
def LooksetCutsSaid : Prop := looksetCutsRow.holds Try.pinned (OpenSpec.ofChange looksetCutsSpec)

/-- ITS FALSE NEIGHBOUR: 'it returns false'. Refute it at one input. -/
def looksetCutsWrong : ChangeSpec := { name := "looksetCuts", fn := fun _ => fun
  | [d1, d2, d3, d4] => { results := [.lit (.bool false)], args := [d1, d2, d3, d4] }
  | _ => none }
def LooksetCutsWrongFalsely : Prop := looksetCutsRow.holds Try.pinned (OpenSpec.ofChange looksetCutsWrong)

/- THE SECOND FORM. 'bulk': how many values and letters a reading holds, each counted each time it is reached (what is shared counts as often as it is met; a slice's spare places count too). A statement '..UptoSaid' is the law's where the arguments, and the package variables that the reading takes, are together of bulk at most 1048576: NARROWER than '..Said'. Prove '..Said' where nothing that the law and all that it calls make is longer than what came in: it says more and counts as full. Else prove '..UptoSaid'. A law counts once. -/
mutual
def uptoBulk {H : Type} : DataW H → Nat
  | .lit (.string bytes) => bytes.length + 1
  | .lit _ => 1
  | .nil => 1
  | .ptr d => uptoBulk d + 1
  | .slice elems spare => uptoBulkAll elems + uptoBulkAll spare + 1
  | .agg parts => uptoBulkAll parts + 1
  | .iface _ d => uptoBulk d + 1
  | .map entries => uptoBulkEntries entries + 1
  | .held _ => 1
def uptoBulkAll {H : Type} : List (DataW H) → Nat
  | [] => 0
  | d :: r => uptoBulk d + uptoBulkAll r
def uptoBulkEntries {H : Type} : List (Lit × DataW H) → Nat
  | [] => 0
  | x :: r => uptoBulkEntry x + uptoBulkEntries r
def uptoBulkEntry {H : Type} : Lit × DataW H → Nat
  | (.string bytes, d) => bytes.length + uptoBulk d + 1
  | (_, d) => uptoBulk d + 1
 end
def uptoSmall : (H : Type) → List (DataW H) → Bool := fun _ ds => decide (uptoBulkAll ds ≤ 1048576)
def OpenSpec.upto (s : _root_.Go.ChangeSpec) : _root_.Go.OpenSpec := { _root_.Go.OpenSpec.ofChange s with cond := some uptoSmall }

/-- 'stenotypelaw18.TrieMakes', WHERE WHAT IT READS IS OF BULK AT MOST 1048576: true; the input reads as it did. -/
def trieMakesUptoRow : OpenClaim := { program := "ytbbdpddeabojgaa", sum := "1d8d1c733fea3aa9304b68aa346ff947030c67d001c0a17ead76f36f3301f670", func := "stenotype/stenotypelaw18.TrieMakes", spec := "trieMakes", unfollowed := true, recurses := true, plainKeys := false, apart := false, narrowed := true }
def TrieMakesUptoSaid : Prop := trieMakesUptoRow.holds Try.pinned (OpenSpec.upto trieMakesSpec)

/-- 'stenotypelaw18.TrieChooses', WHERE WHAT IT READS IS OF BULK AT MOST 1048576: true; the input reads as it did. -/
def trieChoosesUptoRow : OpenClaim := { program := "ytbbdpddeabojgaa", sum := "1d8d1c733fea3aa9304b68aa346ff947030c67d001c0a17ead76f36f3301f670", func := "stenotype/stenotypelaw18.TrieChooses", spec := "trieChooses", unfollowed := true, recurses := true, plainKeys := false, apart := false, narrowed := true }
def TrieChoosesUptoSaid : Prop := trieChoosesUptoRow.holds Try.pinned (OpenSpec.upto trieChoosesSpec)

/-- 'stenotypelaw18.TrieSets', WHERE WHAT IT READS IS OF BULK AT MOST 1048576: true; the input reads as it did. -/
def trieSetsUptoRow : OpenClaim := { program := "ytbbdpddeabojgaa", sum := "1d8d1c733fea3aa9304b68aa346ff947030c67d001c0a17ead76f36f3301f670", func := "stenotype/stenotypelaw18.TrieSets", spec := "trieSets", unfollowed := true, recurses := true, plainKeys := false, apart := false, narrowed := true }
def TrieSetsUptoSaid : Prop := trieSetsUptoRow.holds Try.pinned (OpenSpec.upto trieSetsSpec)

/-- 'stenotypelaw18.TrieBack', WHERE WHAT IT READS IS OF BULK AT MOST 1048576: true; the input reads as it did. -/
def trieBackUptoRow : OpenClaim := { program := "ytbbdpddeabojgaa", sum := "1d8d1c733fea3aa9304b68aa346ff947030c67d001c0a17ead76f36f3301f670", func := "stenotype/stenotypelaw18.TrieBack", spec := "trieBack", unfollowed := true, recurses := true, plainKeys := false, apart := false, narrowed := true }
def TrieBackUptoSaid : Prop := trieBackUptoRow.holds Try.pinned (OpenSpec.upto trieBackSpec)

/-- 'stenotypelaw14.LooksetSums', WHERE WHAT IT READS IS OF BULK AT MOST 1048576: true; the input reads as it did. -/
def looksetSumsUptoRow : OpenClaim := { program := "ytbbdpddeabojgaa", sum := "1d8d1c733fea3aa9304b68aa346ff947030c67d001c0a17ead76f36f3301f670", func := "stenotype/stenotypelaw14.LooksetSums", spec := "looksetSums", unfollowed := true, recurses := true, plainKeys := false, apart := false, narrowed := true }
def LooksetSumsUptoSaid : Prop := looksetSumsUptoRow.holds Try.pinned (OpenSpec.upto looksetSumsSpec)

/-- 'stenotypelaw14.LooksetJoins', WHERE WHAT IT READS IS OF BULK AT MOST 1048576: true; the input reads as it did. -/
def looksetJoinsUptoRow : OpenClaim := { program := "ytbbdpddeabojgaa", sum := "1d8d1c733fea3aa9304b68aa346ff947030c67d001c0a17ead76f36f3301f670", func := "stenotype/stenotypelaw14.LooksetJoins", spec := "looksetJoins", unfollowed := true, recurses := true, plainKeys := false, apart := false, narrowed := true }
def LooksetJoinsUptoSaid : Prop := looksetJoinsUptoRow.holds Try.pinned (OpenSpec.upto looksetJoinsSpec)

/-- 'stenotypelaw14.LooksetParts', WHERE WHAT IT READS IS OF BULK AT MOST 1048576: true; the input reads as it did. -/
def looksetPartsUptoRow : OpenClaim := { program := "ytbbdpddeabojgaa", sum := "1d8d1c733fea3aa9304b68aa346ff947030c67d001c0a17ead76f36f3301f670", func := "stenotype/stenotypelaw14.LooksetParts", spec := "looksetParts", unfollowed := true, recurses := true, plainKeys := false, apart := false, narrowed := true }
def LooksetPartsUptoSaid : Prop := looksetPartsUptoRow.holds Try.pinned (OpenSpec.upto looksetPartsSpec)

/-- 'stenotypelaw14.LooksetCuts', WHERE WHAT IT READS IS OF BULK AT MOST 1048576: true; the input reads as it did. -/
def looksetCutsUptoRow : OpenClaim := { program := "ytbbdpddeabojgaa", sum := "1d8d1c733fea3aa9304b68aa346ff947030c67d001c0a17ead76f36f3301f670", func := "stenotype/stenotypelaw14.LooksetCuts", spec := "looksetCuts", unfollowed := true, recurses := true, plainKeys := false, apart := false, narrowed := true }
def LooksetCutsUptoSaid : Prop := looksetCutsUptoRow.holds Try.pinned (OpenSpec.upto looksetCutsSpec)

end Rows
end Go.Proofs.Ytbbdpddeabojgaa

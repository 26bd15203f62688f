/-
  No cell of these rows narrows 'for every input' (looked for: loops, veiled, ifaces, maps, wideKeys, modest, calm, conditions, laid).
  DERIVED. THE GIVEN ROWS OF THIS SEAT. 5 by the template 'for every input the law returns true; each argument reads behind the call as it read before'; 0 by the template 'total and deterministic' (their statements: YteljgidchamnaaaTotals.lean).
  GIVEN WITH THE SEED: the statements are not yours to turn. If you find one false, say at which input.
  Laid BY PROGRAM, IN A SANDBOX (cutbox-rows.mjs): the forced cells as the released guide's own fill.sh prints them over the translation 3e92c8adb028dd05… (all of the seat's roots in one cut). By AI agents, Wed Nov 11 2026. No macro, syntax, notation, axiom, sorry.
-/
import Derived.Test.YteljgidchamnaaaChecked
import GoSem.Claim
import GoSem.ClaimJoined
import GoSem.ClaimMapViews
import Derived.JoinedTies
import Derived.KernelRfl
namespace Go.Proofs.Yteljgidchamnaaa
/- THE CELL 'sum', in the pinned program and in every row, IS THE sha256 OF THE DUMP (.gsa) THAT YteljgidchamnaaaProg.lean LOADS. Nothing in Lean hashes anything: it is a label: what it is worth is what the hold of that sum in a sandbox is worth. -/
noncomputable def Try.pinned : Pinned := { name := "yteljgidchamnaaa", sum := "3e92c8adb028dd055976c10459b581d11c6f71c3fc6ba066f9a02ed3a484f08d", checked := Try.checked }
namespace Rows
def none {H : Type} : Left H := { results := [], args := [] }

/-- 'stenotypelaw09.GrammarKnown': WHATEVER THE INPUT: true; the input reads as it did. -/
def grammarKnownSpec : ChangeSpec := { name := "grammarKnown", fn := fun _ => fun
  | [] => { results := [.lit (.bool true)], args := [] }
  | _ => none }
def grammarKnownRow : OpenClaim := { program := "yteljgidchamnaaa", sum := "3e92c8adb028dd055976c10459b581d11c6f71c3fc6ba066f9a02ed3a484f08d", func := "stenotype/stenotypelaw09.GrammarKnown", spec := "grammarKnown", unfollowed := true, recurses := true, plainKeys := false, apart := false }
def GrammarKnownSaid : Prop := grammarKnownRow.holds Try.pinned (OpenSpec.ofChange grammarKnownSpec)

/-- ITS FALSE NEIGHBOUR: 'it returns false'. Refute it at one input. -/
def grammarKnownWrong : ChangeSpec := { name := "grammarKnown", fn := fun _ => fun
  | [] => { results := [.lit (.bool false)], args := [] }
  | _ => none }
def GrammarKnownWrongFalsely : Prop := grammarKnownRow.holds Try.pinned (OpenSpec.ofChange grammarKnownWrong)

/-- 'stenotypelaw18.TrieKnown': WHATEVER THE INPUT: true; the input reads as it did. -/
def trieKnownSpec : ChangeSpec := { name := "trieKnown", fn := fun _ => fun
  | [] => { results := [.lit (.bool true)], args := [] }
  | _ => none }
def trieKnownRow : OpenClaim := { program := "yteljgidchamnaaa", sum := "3e92c8adb028dd055976c10459b581d11c6f71c3fc6ba066f9a02ed3a484f08d", func := "stenotype/stenotypelaw18.TrieKnown", spec := "trieKnown", unfollowed := true, recurses := true, plainKeys := false, apart := false }
def TrieKnownSaid : Prop := trieKnownRow.holds Try.pinned (OpenSpec.ofChange trieKnownSpec)

/-- ITS FALSE NEIGHBOUR: 'it returns false'. Refute it at one input. -/
def trieKnownWrong : ChangeSpec := { name := "trieKnown", fn := fun _ => fun
  | [] => { results := [.lit (.bool false)], args := [] }
  | _ => none }
def TrieKnownWrongFalsely : Prop := trieKnownRow.holds Try.pinned (OpenSpec.ofChange trieKnownWrong)

/-- 'stenotypelaw08.SourceKnown': WHATEVER THE INPUT: true; the input reads as it did. -/
def sourceKnownSpec : ChangeSpec := { name := "sourceKnown", fn := fun _ => fun
  | [] => { results := [.lit (.bool true)], args := [] }
  | _ => none }
def sourceKnownRow : OpenClaim := { program := "yteljgidchamnaaa", sum := "3e92c8adb028dd055976c10459b581d11c6f71c3fc6ba066f9a02ed3a484f08d", func := "stenotype/stenotypelaw08.SourceKnown", spec := "sourceKnown", inPlace := ["internal/abi.NoEscape", "internal/bytealg.MakeNoZero"], unfollowed := true, recurses := true, plainKeys := false, apart := false }
def SourceKnownSaid : Prop := sourceKnownRow.holds Try.pinned (OpenSpec.ofChange sourceKnownSpec)

/-- ITS FALSE NEIGHBOUR: 'it returns false'. Refute it at one input. -/
def sourceKnownWrong : ChangeSpec := { name := "sourceKnown", fn := fun _ => fun
  | [] => { results := [.lit (.bool false)], args := [] }
  | _ => none }
def SourceKnownWrongFalsely : Prop := sourceKnownRow.holds Try.pinned (OpenSpec.ofChange sourceKnownWrong)

/-- 'stenotypelaw14.LooksetKnown': WHATEVER THE INPUT: true; the input reads as it did. -/
def looksetKnownSpec : ChangeSpec := { name := "looksetKnown", fn := fun _ => fun
  | [] => { results := [.lit (.bool true)], args := [] }
  | _ => none }
def looksetKnownRow : OpenClaim := { program := "yteljgidchamnaaa", sum := "3e92c8adb028dd055976c10459b581d11c6f71c3fc6ba066f9a02ed3a484f08d", func := "stenotype/stenotypelaw14.LooksetKnown", spec := "looksetKnown", unfollowed := true, recurses := true, plainKeys := false, apart := false }
def LooksetKnownSaid : Prop := looksetKnownRow.holds Try.pinned (OpenSpec.ofChange looksetKnownSpec)

/-- ITS FALSE NEIGHBOUR: 'it returns false'. Refute it at one input. -/
def looksetKnownWrong : ChangeSpec := { name := "looksetKnown", fn := fun _ => fun
  | [] => { results := [.lit (.bool false)], args := [] }
  | _ => none }
def LooksetKnownWrongFalsely : Prop := looksetKnownRow.holds Try.pinned (OpenSpec.ofChange looksetKnownWrong)

/-- 'stenotypelaw15.FirstKnown': WHATEVER THE INPUT: true; the input reads as it did. -/
def firstKnownSpec : ChangeSpec := { name := "firstKnown", fn := fun _ => fun
  | [] => { results := [.lit (.bool true)], args := [] }
  | _ => none }
def firstKnownRow : OpenClaim := { program := "yteljgidchamnaaa", sum := "3e92c8adb028dd055976c10459b581d11c6f71c3fc6ba066f9a02ed3a484f08d", func := "stenotype/stenotypelaw15.FirstKnown", spec := "firstKnown", unfollowed := true, recurses := true, plainKeys := false, apart := false }
def FirstKnownSaid : Prop := firstKnownRow.holds Try.pinned (OpenSpec.ofChange firstKnownSpec)

/-- ITS FALSE NEIGHBOUR: 'it returns false'. Refute it at one input. -/
def firstKnownWrong : ChangeSpec := { name := "firstKnown", fn := fun _ => fun
  | [] => { results := [.lit (.bool false)], args := [] }
  | _ => none }
def FirstKnownWrongFalsely : Prop := firstKnownRow.holds Try.pinned (OpenSpec.ofChange firstKnownWrong)

/- THE SECOND FORM. 'bulk': how many values and letters a reading holds, each counted each time it is reached (what is shared counts as often as it is met; a slice's spare places count too). A statement '..UptoSaid' is the law's where the arguments, and the package variables that the reading takes, are together of bulk at most 1048576: NARROWER than '..Said'. Prove '..Said' where nothing that the law and all that it calls make is longer than what came in: it says more and counts as full. Else prove '..UptoSaid'. A law counts once. -/
mutual
def uptoBulk {H : Type} : DataW H → Nat
  | .lit (.string bytes) => bytes.length + 1
  | .lit _ => 1
  | .nil => 1
  | .ptr d => uptoBulk d + 1
  | .slice elems spare => uptoBulkAll elems + uptoBulkAll spare + 1
  | .agg parts => uptoBulkAll parts + 1
  | .iface _ d => uptoBulk d + 1
  | .map entries => uptoBulkEntries entries + 1
  | .held _ => 1
def uptoBulkAll {H : Type} : List (DataW H) → Nat
  | [] => 0
  | d :: r => uptoBulk d + uptoBulkAll r
def uptoBulkEntries {H : Type} : List (Lit × DataW H) → Nat
  | [] => 0
  | x :: r => uptoBulkEntry x + uptoBulkEntries r
def uptoBulkEntry {H : Type} : Lit × DataW H → Nat
  | (.string bytes, d) => bytes.length + uptoBulk d + 1
  | (_, d) => uptoBulk d + 1
 end
def uptoSmall : (H : Type) → List (DataW H) → Bool := fun _ ds => decide (uptoBulkAll ds ≤ 1048576)
def OpenSpec.upto (s : _root_.Go.ChangeSpec) : _root_.Go.OpenSpec := { _root_.Go.OpenSpec.ofChange s with cond := some uptoSmall }

/-- 'stenotypelaw09.GrammarKnown', WHERE WHAT IT READS IS OF BULK AT MOST 1048576: true; the input reads as it did. -/
def grammarKnownUptoRow : OpenClaim := { program := "yteljgidchamnaaa", sum := "3e92c8adb028dd055976c10459b581d11c6f71c3fc6ba066f9a02ed3a484f08d", func := "stenotype/stenotypelaw09.GrammarKnown", spec := "grammarKnown", unfollowed := true, recurses := true, plainKeys := false, apart := false, narrowed := true }
def GrammarKnownUptoSaid : Prop := grammarKnownUptoRow.holds Try.pinned (OpenSpec.upto grammarKnownSpec)

/-- 'stenotypelaw18.TrieKnown', WHERE WHAT IT READS IS OF BULK AT MOST 1048576: true; the input reads as it did. -/
def trieKnownUptoRow : OpenClaim := { program := "yteljgidchamnaaa", sum := "3e92c8adb028dd055976c10459b581d11c6f71c3fc6ba066f9a02ed3a484f08d", func := "stenotype/stenotypelaw18.TrieKnown", spec := "trieKnown", unfollowed := true, recurses := true, plainKeys := false, apart := false, narrowed := true }
def TrieKnownUptoSaid : Prop := trieKnownUptoRow.holds Try.pinned (OpenSpec.upto trieKnownSpec)

/-- 'stenotypelaw08.SourceKnown', WHERE WHAT IT READS IS OF BULK AT MOST 1048576: true; the input reads as it did. -/
def sourceKnownUptoRow : OpenClaim := { program := "yteljgidchamnaaa", sum := "3e92c8adb028dd055976c10459b581d11c6f71c3fc6ba066f9a02ed3a484f08d", func := "stenotype/stenotypelaw08.SourceKnown", spec := "sourceKnown", inPlace := ["internal/abi.NoEscape", "internal/bytealg.MakeNoZero"], unfollowed := true, recurses := true, plainKeys := false, apart := false, narrowed := true }
def SourceKnownUptoSaid : Prop := sourceKnownUptoRow.holds Try.pinned (OpenSpec.upto sourceKnownSpec)

/-- 'stenotypelaw14.LooksetKnown', WHERE WHAT IT READS IS OF BULK AT MOST 1048576: true; the input reads as it did. -/
def looksetKnownUptoRow : OpenClaim := { program := "yteljgidchamnaaa", sum := "3e92c8adb028dd055976c10459b581d11c6f71c3fc6ba066f9a02ed3a484f08d", func := "stenotype/stenotypelaw14.LooksetKnown", spec := "looksetKnown", unfollowed := true, recurses := true, plainKeys := false, apart := false, narrowed := true }
def LooksetKnownUptoSaid : Prop := looksetKnownUptoRow.holds Try.pinned (OpenSpec.upto looksetKnownSpec)

/-- 'stenotypelaw15.FirstKnown', WHERE WHAT IT READS IS OF BULK AT MOST 1048576: true; the input reads as it did. -/
def firstKnownUptoRow : OpenClaim := { program := "yteljgidchamnaaa", sum := "3e92c8adb028dd055976c10459b581d11c6f71c3fc6ba066f9a02ed3a484f08d", func := "stenotype/stenotypelaw15.FirstKnown", spec := "firstKnown", unfollowed := true, recurses := true, plainKeys := false, apart := false, narrowed := true }
def FirstKnownUptoSaid : Prop := firstKnownUptoRow.holds Try.pinned (OpenSpec.upto firstKnownSpec)

end Rows
end Go.Proofs.Yteljgidchamnaaa

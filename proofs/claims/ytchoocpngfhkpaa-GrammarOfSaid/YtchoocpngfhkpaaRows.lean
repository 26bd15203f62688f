/-
  No cell of these rows narrows 'for every input' (looked for: loops, veiled, ifaces, maps, wideKeys, modest, calm, conditions, laid).
  DERIVED. THE GIVEN ROWS OF THIS SEAT. 4 by the template 'for every input the law returns true; each argument reads behind the call as it read before'; 0 by the template 'total and deterministic' (their statements: YtchoocpngfhkpaaTotals.lean).
  GIVEN WITH THE SEED: the statements are not yours to turn. If you find one false, say at which input.
  Laid BY PROGRAM, IN A SANDBOX (cutbox-rows.mjs): the forced cells as the released guide's own fill.sh prints them over the translation 1c834fc6dfdfedf8… (all of the seat's roots in one cut). By AI agents, Wed Nov 11 2026. No macro, syntax, notation, axiom, sorry.
-/
import Derived.Test.YtchoocpngfhkpaaChecked
import GoSem.Claim
import GoSem.ClaimJoined
import GoSem.ClaimMapViews
import Derived.JoinedTies
import Derived.KernelRfl
namespace Go.Proofs.Ytchoocpngfhkpaa
/- THE CELL 'sum', in the pinned program and in every row, IS THE sha256 OF THE DUMP (.gsa) THAT YtchoocpngfhkpaaProg.lean LOADS. Nothing in Lean hashes anything: it is a label: what it is worth is what the hold of that sum in a sandbox is worth. -/
noncomputable def Try.pinned : Pinned := { name := "ytchoocpngfhkpaa", sum := "1c834fc6dfdfedf8e5fc2a50e949863d6ef58bfc6eaa8acba8c53a7063e42163", checked := Try.checked }
namespace Rows
def none {H : Type} : Left H := { results := [], args := [] }

/-- 'stenotypelaw09.GrammarAsks': WHATEVER THE INPUT: true; the input reads as it did. -/
def grammarAsksSpec : ChangeSpec := { name := "grammarAsks", fn := fun _ => fun
  | [d1, d2, d3, d4] => { results := [.lit (.bool true)], args := [d1, d2, d3, d4] }
  | _ => none }
def grammarAsksRow : OpenClaim := { program := "ytchoocpngfhkpaa", sum := "1c834fc6dfdfedf8e5fc2a50e949863d6ef58bfc6eaa8acba8c53a7063e42163", func := "stenotype/stenotypelaw09.GrammarAsks", spec := "grammarAsks", unfollowed := true, recurses := true, apart := false }
def GrammarAsksSaid : Prop := grammarAsksRow.holds Try.pinned (OpenSpec.ofChange grammarAsksSpec)

/-- ITS FALSE NEIGHBOUR: 'it returns false'. Refute it at one input. -/
def grammarAsksWrong : ChangeSpec := { name := "grammarAsks", fn := fun _ => fun
  | [d1, d2, d3, d4] => { results := [.lit (.bool false)], args := [d1, d2, d3, d4] }
  | _ => none }
def GrammarAsksWrongFalsely : Prop := grammarAsksRow.holds Try.pinned (OpenSpec.ofChange grammarAsksWrong)

/-- 'stenotypelaw09.GrammarKnown': WHATEVER THE INPUT: true; the input reads as it did. -/
def grammarKnownSpec : ChangeSpec := { name := "grammarKnown", fn := fun _ => fun
  | [] => { results := [.lit (.bool true)], args := [] }
  | _ => none }
def grammarKnownRow : OpenClaim := { program := "ytchoocpngfhkpaa", sum := "1c834fc6dfdfedf8e5fc2a50e949863d6ef58bfc6eaa8acba8c53a7063e42163", func := "stenotype/stenotypelaw09.GrammarKnown", spec := "grammarKnown", unfollowed := true, recurses := true, apart := false }
def GrammarKnownSaid : Prop := grammarKnownRow.holds Try.pinned (OpenSpec.ofChange grammarKnownSpec)

/-- ITS FALSE NEIGHBOUR: 'it returns false'. Refute it at one input. -/
def grammarKnownWrong : ChangeSpec := { name := "grammarKnown", fn := fun _ => fun
  | [] => { results := [.lit (.bool false)], args := [] }
  | _ => none }
def GrammarKnownWrongFalsely : Prop := grammarKnownRow.holds Try.pinned (OpenSpec.ofChange grammarKnownWrong)

/-- 'stenotypelaw09.GrammarParts': WHATEVER THE INPUT: true; the input reads as it did. -/
def grammarPartsSpec : ChangeSpec := { name := "grammarParts", fn := fun _ => fun
  | [d] => { results := [.lit (.bool true)], args := [d] }
  | _ => none }
def grammarPartsRow : OpenClaim := { program := "ytchoocpngfhkpaa", sum := "1c834fc6dfdfedf8e5fc2a50e949863d6ef58bfc6eaa8acba8c53a7063e42163", func := "stenotype/stenotypelaw09.GrammarParts", spec := "grammarParts", unfollowed := true, recurses := true, apart := false }
def GrammarPartsSaid : Prop := grammarPartsRow.holds Try.pinned (OpenSpec.ofChange grammarPartsSpec)

/-- ITS FALSE NEIGHBOUR: 'it returns false'. Refute it at one input. -/
def grammarPartsWrong : ChangeSpec := { name := "grammarParts", fn := fun _ => fun
  | [d] => { results := [.lit (.bool false)], args := [d] }
  | _ => none }
def GrammarPartsWrongFalsely : Prop := grammarPartsRow.holds Try.pinned (OpenSpec.ofChange grammarPartsWrong)

/-- 'stenotypelaw09.GrammarOf': WHATEVER THE INPUT: true; the input reads as it did. -/
def grammarOfSpec : ChangeSpec := { name := "grammarOf", fn := fun _ => fun
  | [d] => { results := [.lit (.bool true)], args := [d] }
  | _ => none }
def grammarOfRow : OpenClaim := { program := "ytchoocpngfhkpaa", sum := "1c834fc6dfdfedf8e5fc2a50e949863d6ef58bfc6eaa8acba8c53a7063e42163", func := "stenotype/stenotypelaw09.GrammarOf", spec := "grammarOf", unfollowed := true, recurses := true, apart := false }
def GrammarOfSaid : Prop := grammarOfRow.holds Try.pinned (OpenSpec.ofChange grammarOfSpec)

/-- ITS FALSE NEIGHBOUR: 'it returns false'. Refute it at one input. -/
def grammarOfWrong : ChangeSpec := { name := "grammarOf", fn := fun _ => fun
  | [d] => { results := [.lit (.bool false)], args := [d] }
  | _ => none }
def GrammarOfWrongFalsely : Prop := grammarOfRow.holds Try.pinned (OpenSpec.ofChange grammarOfWrong)

/- THE SECOND FORM. 'bulk': how many values and letters a reading holds, each counted each time it is reached (what is shared counts as often as it is met; a slice's spare places count too). A statement '..UptoSaid' is the law's where the arguments, and the package variables that the reading takes, are together of bulk at most 1048576: NARROWER than '..Said'. Prove '..Said' where nothing that the law and all that it calls make is longer than what came in: it says more and counts as full. Else prove '..UptoSaid'. A law counts once. -/
mutual
def uptoBulk {H : Type} : DataW H → Nat
  | .lit (.string bytes) => bytes.length + 1
  | .lit _ => 1
  | .nil => 1
  | .ptr d => uptoBulk d + 1
  | .slice elems spare => uptoBulkAll elems + uptoBulkAll spare + 1
  | .agg parts => uptoBulkAll parts + 1
  | .iface _ d => uptoBulk d + 1
  | .map entries => uptoBulkEntries entries + 1
  | .held _ => 1
def uptoBulkAll {H : Type} : List (DataW H) → Nat
  | [] => 0
  | d :: r => uptoBulk d + uptoBulkAll r
def uptoBulkEntries {H : Type} : List (Lit × DataW H) → Nat
  | [] => 0
  | x :: r => uptoBulkEntry x + uptoBulkEntries r
def uptoBulkEntry {H : Type} : Lit × DataW H → Nat
  | (.string bytes, d) => bytes.length + uptoBulk d + 1
  | (_, d) => uptoBulk d + 1
 end
def uptoSmall : (H : Type) → List (DataW H) → Bool := fun _ ds => decide (uptoBulkAll ds ≤ 1048576)
def OpenSpec.upto (s : _root_.Go.ChangeSpec) : _root_.Go.OpenSpec := { _root_.Go.OpenSpec.ofChange s with cond := some uptoSmall }

/-- 'stenotypelaw09.GrammarAsks', WHERE WHAT IT READS IS OF BULK AT MOST 1048576: true; the input reads as it did. -/
def grammarAsksUptoRow : OpenClaim := { program := "ytchoocpngfhkpaa", sum := "1c834fc6dfdfedf8e5fc2a50e949863d6ef58bfc6eaa8acba8c53a7063e42163", func := "stenotype/stenotypelaw09.GrammarAsks", spec := "grammarAsks", unfollowed := true, recurses := true, apart := false, narrowed := true }
def GrammarAsksUptoSaid : Prop := grammarAsksUptoRow.holds Try.pinned (OpenSpec.upto grammarAsksSpec)

/-- 'stenotypelaw09.GrammarKnown', WHERE WHAT IT READS IS OF BULK AT MOST 1048576: true; the input reads as it did. -/
def grammarKnownUptoRow : OpenClaim := { program := "ytchoocpngfhkpaa", sum := "1c834fc6dfdfedf8e5fc2a50e949863d6ef58bfc6eaa8acba8c53a7063e42163", func := "stenotype/stenotypelaw09.GrammarKnown", spec := "grammarKnown", unfollowed := true, recurses := true, apart := false, narrowed := true }
def GrammarKnownUptoSaid : Prop := grammarKnownUptoRow.holds Try.pinned (OpenSpec.upto grammarKnownSpec)

/-- 'stenotypelaw09.GrammarParts', WHERE WHAT IT READS IS OF BULK AT MOST 1048576: true; the input reads as it did. -/
def grammarPartsUptoRow : OpenClaim := { program := "ytchoocpngfhkpaa", sum := "1c834fc6dfdfedf8e5fc2a50e949863d6ef58bfc6eaa8acba8c53a7063e42163", func := "stenotype/stenotypelaw09.GrammarParts", spec := "grammarParts", unfollowed := true, recurses := true, apart := false, narrowed := true }
def GrammarPartsUptoSaid : Prop := grammarPartsUptoRow.holds Try.pinned (OpenSpec.upto grammarPartsSpec)

/-- 'stenotypelaw09.GrammarOf', WHERE WHAT IT READS IS OF BULK AT MOST 1048576: true; the input reads as it did. -/
def grammarOfUptoRow : OpenClaim := { program := "ytchoocpngfhkpaa", sum := "1c834fc6dfdfedf8e5fc2a50e949863d6ef58bfc6eaa8acba8c53a7063e42163", func := "stenotype/stenotypelaw09.GrammarOf", spec := "grammarOf", unfollowed := true, recurses := true, apart := false, narrowed := true }
def GrammarOfUptoSaid : Prop := grammarOfUptoRow.holds Try.pinned (OpenSpec.upto grammarOfSpec)

end Rows
end Go.Proofs.Ytchoocpngfhkpaa

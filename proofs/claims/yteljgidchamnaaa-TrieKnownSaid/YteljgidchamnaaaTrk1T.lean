/- The table of the known calls of the stages up to 1. Printed by memogen.py. -/
import Derived.Test.YteljgidchamnaaaTrk1
noncomputable section
namespace Go.Av
open Go Go.Proofs

def T1 : Memo := (.node (.node (.node (.node (.node .nil none (.node .nil none (.node (.node .nil (some [e5]) .nil) none .nil))) none .nil) none (.node (.node .nil none (.node (.node (.node .nil (some [e0, e2]) .nil) none .nil) none .nil)) none .nil)) none .nil) none .nil)
theorem T1_ok : MemoOK Try.prog T1 := ⟨trivial, ⟨trivial, ⟨trivial, ⟨trivial, ⟨trivial, trivial, ⟨trivial, trivial, ⟨trivial, ⟨⟨k5, trivial⟩, trivial, trivial⟩, trivial⟩⟩⟩, trivial⟩, ⟨trivial, ⟨trivial, trivial, ⟨trivial, ⟨trivial, ⟨⟨k0, k2, trivial⟩, trivial, trivial⟩, trivial⟩, trivial⟩⟩, trivial⟩⟩, trivial⟩, trivial⟩
end Go.Av

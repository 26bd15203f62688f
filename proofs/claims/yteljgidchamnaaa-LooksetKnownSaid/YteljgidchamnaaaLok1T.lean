/- The table of the known calls of the stages up to 1. Printed by memogen.py. -/
import Derived.Test.YteljgidchamnaaaLok1
noncomputable section
namespace Go.Av
open Go Go.Proofs

def T1 : Memo := (.node (.node (.node (.node .nil none (.node .nil none (.node (.node .nil (some [e10, e15, e17]) .nil) none .nil))) none (.node (.node .nil none (.node (.node (.node .nil (some [e0, e2, e4, e5, e7, e9]) .nil) none .nil) none .nil)) none .nil)) none .nil) none (.node (.node .nil none (.node (.node (.node .nil (some [e8, e13]) .nil) none .nil) none .nil)) none .nil))
theorem T1_ok : MemoOK Try.prog T1 := ⟨trivial, ⟨trivial, ⟨trivial, ⟨trivial, trivial, ⟨trivial, trivial, ⟨trivial, ⟨⟨k10, k15, k17, trivial⟩, trivial, trivial⟩, trivial⟩⟩⟩, ⟨trivial, ⟨trivial, trivial, ⟨trivial, ⟨trivial, ⟨⟨k0, k2, k4, k5, k7, k9, trivial⟩, trivial, trivial⟩, trivial⟩, trivial⟩⟩, trivial⟩⟩, trivial⟩, ⟨trivial, ⟨trivial, trivial, ⟨trivial, ⟨trivial, ⟨⟨k8, k13, trivial⟩, trivial, trivial⟩, trivial⟩, trivial⟩⟩, trivial⟩⟩
end Go.Av

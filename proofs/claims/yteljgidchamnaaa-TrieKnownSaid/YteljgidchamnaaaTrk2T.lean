/- The table of the known calls of the stages up to 2. Printed by memogen.py. -/
import Derived.Test.YteljgidchamnaaaTrk2
noncomputable section
namespace Go.Av
open Go Go.Proofs

def T2 : Memo := (.node (.node (.node (.node (.node .nil none (.node .nil none (.node (.node .nil (some [e5]) .nil) none .nil))) none .nil) none (.node (.node (.node (.node .nil (some [e1, e3]) .nil) none .nil) none (.node (.node (.node .nil (some [e0, e2]) .nil) none .nil) none .nil)) none .nil)) none .nil) none .nil)
theorem T2_ok : MemoOK Try.prog T2 := ⟨trivial, ⟨trivial, ⟨trivial, ⟨trivial, ⟨trivial, trivial, ⟨trivial, trivial, ⟨trivial, ⟨⟨k5, trivial⟩, trivial, trivial⟩, trivial⟩⟩⟩, trivial⟩, ⟨trivial, ⟨trivial, ⟨trivial, ⟨⟨k1, k3, trivial⟩, trivial, trivial⟩, trivial⟩, ⟨trivial, ⟨trivial, ⟨⟨k0, k2, trivial⟩, trivial, trivial⟩, trivial⟩, trivial⟩⟩, trivial⟩⟩, trivial⟩, trivial⟩
end Go.Av

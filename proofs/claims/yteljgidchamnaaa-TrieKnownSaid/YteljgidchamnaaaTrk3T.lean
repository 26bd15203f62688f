/- The table of the known calls of the stages up to 3. Printed by memogen.py. -/
import Derived.Test.YteljgidchamnaaaTrk3
noncomputable section
namespace Go.Av
open Go Go.Proofs

def T3 : Memo := (.node (.node (.node (.node (.node .nil none (.node .nil none (.node (.node .nil (some [e5]) .nil) none .nil))) none .nil) none (.node (.node (.node (.node .nil (some [e1, e3]) .nil) none .nil) none (.node (.node (.node .nil (some [e0, e2]) .nil) none .nil) none .nil)) none .nil)) none .nil) none (.node (.node (.node .nil none (.node (.node .nil none (.node .nil (some [e6]) .nil)) none .nil)) none .nil) none (.node .nil none (.node (.node .nil (some [e4]) .nil) none .nil))))
theorem T3_ok : MemoOK Try.prog T3 := ⟨trivial, ⟨trivial, ⟨trivial, ⟨trivial, ⟨trivial, trivial, ⟨trivial, trivial, ⟨trivial, ⟨⟨k5, trivial⟩, trivial, trivial⟩, trivial⟩⟩⟩, trivial⟩, ⟨trivial, ⟨trivial, ⟨trivial, ⟨⟨k1, k3, trivial⟩, trivial, trivial⟩, trivial⟩, ⟨trivial, ⟨trivial, ⟨⟨k0, k2, trivial⟩, trivial, trivial⟩, trivial⟩, trivial⟩⟩, trivial⟩⟩, trivial⟩, ⟨trivial, ⟨trivial, ⟨trivial, trivial, ⟨trivial, ⟨trivial, trivial, ⟨⟨k6, trivial⟩, trivial, trivial⟩⟩, trivial⟩⟩, trivial⟩, ⟨trivial, trivial, ⟨trivial, ⟨⟨k4, trivial⟩, trivial, trivial⟩, trivial⟩⟩⟩⟩
end Go.Av

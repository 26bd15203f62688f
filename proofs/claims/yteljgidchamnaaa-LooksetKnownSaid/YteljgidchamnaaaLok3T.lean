/- The table of the known calls of the stages up to 3. Printed by memogen.py. -/
import Derived.Test.YteljgidchamnaaaLok3
noncomputable section
namespace Go.Av
open Go Go.Proofs

def T3 : Memo := (.node (.node (.node (.node .nil none (.node .nil none (.node (.node .nil (some [e10, e15, e17, e14, e16, e18]) .nil) none .nil))) none (.node (.node .nil none (.node (.node (.node .nil (some [e0, e2, e4, e5, e7, e9]) .nil) none .nil) none .nil)) none .nil)) none .nil) none (.node (.node (.node (.node (.node .nil (some [e6]) .nil) none .nil) none (.node (.node .nil (some [e11, e12, e19]) .nil) none .nil)) none (.node (.node (.node .nil (some [e8, e13, e1, e3]) .nil) none .nil) none .nil)) none .nil))
theorem T3_ok : MemoOK Try.prog T3 := ⟨trivial, ⟨trivial, ⟨trivial, ⟨trivial, trivial, ⟨trivial, trivial, ⟨trivial, ⟨⟨k10, k15, k17, k14, k16, k18, trivial⟩, trivial, trivial⟩, trivial⟩⟩⟩, ⟨trivial, ⟨trivial, trivial, ⟨trivial, ⟨trivial, ⟨⟨k0, k2, k4, k5, k7, k9, trivial⟩, trivial, trivial⟩, trivial⟩, trivial⟩⟩, trivial⟩⟩, trivial⟩, ⟨trivial, ⟨trivial, ⟨trivial, ⟨trivial, ⟨⟨k6, trivial⟩, trivial, trivial⟩, trivial⟩, ⟨trivial, ⟨⟨k11, k12, k19, trivial⟩, trivial, trivial⟩, trivial⟩⟩, ⟨trivial, ⟨trivial, ⟨⟨k8, k13, k1, k3, trivial⟩, trivial, trivial⟩, trivial⟩, trivial⟩⟩, trivial⟩⟩
end Go.Av

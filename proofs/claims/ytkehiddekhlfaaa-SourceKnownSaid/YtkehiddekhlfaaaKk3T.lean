/- The table of the known calls of the stages up to 3. Printed by memogen.py. -/
import Derived.Test.YtkehiddekhlfaaaKk3
noncomputable section
namespace Go.Av
open Go Go.Proofs

def T3 : Memo := (.node (.node (.node (.node .nil (some [e7, e10, e13, e17, e19, e21, e23, e27, e29]) .nil) none .nil) none (.node (.node .nil (some [e24]) .nil) none (.node .nil none (.node .nil none (.node .nil (some [e6, e9, e12, e15, e16]) .nil))))) none (.node (.node (.node .nil (some [e30]) .nil) none .nil) none (.node (.node (.node (.node (.node .nil (some [e1, e5, e26]) .nil) none .nil) (some [e0, e2, e3, e4, e8, e11, e14, e18, e20, e22, e25, e28]) .nil) none .nil) none .nil)))
theorem T3_ok : MemoOK Try.prog T3 := ⟨trivial, ⟨trivial, ⟨trivial, ⟨⟨k7, k10, k13, k17, k19, k21, k23, k27, k29, trivial⟩, trivial, trivial⟩, trivial⟩, ⟨trivial, ⟨⟨k24, trivial⟩, trivial, trivial⟩, ⟨trivial, trivial, ⟨trivial, trivial, ⟨⟨k6, k9, k12, k15, k16, trivial⟩, trivial, trivial⟩⟩⟩⟩⟩, ⟨trivial, ⟨trivial, ⟨⟨k30, trivial⟩, trivial, trivial⟩, trivial⟩, ⟨trivial, ⟨trivial, ⟨⟨k0, k2, k3, k4, k8, k11, k14, k18, k20, k22, k25, k28, trivial⟩, ⟨trivial, ⟨⟨k1, k5, k26, trivial⟩, trivial, trivial⟩, trivial⟩, trivial⟩, trivial⟩, trivial⟩⟩⟩
end Go.Av

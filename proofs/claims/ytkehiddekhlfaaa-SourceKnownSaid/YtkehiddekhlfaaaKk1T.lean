/- The table of the known calls of the stages up to 1. Printed by memogen.py. -/
import Derived.Test.YtkehiddekhlfaaaKk1a
import Derived.Test.YtkehiddekhlfaaaKk1b
import Derived.Test.YtkehiddekhlfaaaKk1c
import Derived.Test.YtkehiddekhlfaaaKk1d
import Derived.Test.YtkehiddekhlfaaaKk1e
import Derived.Test.YtkehiddekhlfaaaKk1f
import Derived.Test.YtkehiddekhlfaaaKk1g
import Derived.Test.YtkehiddekhlfaaaKk1h
import Derived.Test.YtkehiddekhlfaaaKk1i
import Derived.Test.YtkehiddekhlfaaaKk1j
noncomputable section
namespace Go.Av
open Go Go.Proofs

def T1 : Memo := (.node (.node .nil none (.node .nil none (.node .nil none (.node .nil none (.node .nil (some [e6, e9, e12, e15, e16]) .nil))))) none (.node .nil none (.node (.node (.node (.node (.node .nil (some [e1, e5, e26]) .nil) none .nil) (some [e0, e2, e3, e4, e8, e11, e14, e18, e20, e22, e25, e28]) .nil) none .nil) none .nil)))
theorem T1_ok : MemoOK Try.prog T1 := ⟨trivial, ⟨trivial, trivial, ⟨trivial, trivial, ⟨trivial, trivial, ⟨trivial, trivial, ⟨⟨k6, k9, k12, k15, k16, trivial⟩, trivial, trivial⟩⟩⟩⟩⟩, ⟨trivial, trivial, ⟨trivial, ⟨trivial, ⟨⟨k0, k2, k3, k4, k8, k11, k14, k18, k20, k22, k25, k28, trivial⟩, ⟨trivial, ⟨⟨k1, k5, k26, trivial⟩, trivial, trivial⟩, trivial⟩, trivial⟩, trivial⟩, trivial⟩⟩⟩
end Go.Av

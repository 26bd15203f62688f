/- The table of the known calls of the stages up to 1. Printed by memogen.py. -/
import Derived.Test.YtlbjfkncpabcaaaGreatCk1a
import Derived.Test.YtlbjfkncpabcaaaGreatCk1b
import Derived.Test.YtlbjfkncpabcaaaGreatCk1c
noncomputable section
namespace Go.Av
open Go Go.Proofs

def T1 : Memo := (.node (.node (.node (.node (.node .nil none (.node .nil none (.node (.node .nil (some [e3]) .nil) none .nil))) none .nil) none (.node (.node (.node .nil none (.node .nil none (.node .nil (some [e26, e30]) .nil))) none (.node .nil none (.node (.node .nil (some [e6, e7, e10, e12, e13, e14, e15, e16, e17, e18, e19]) .nil) none .nil))) none (.node .nil none (.node .nil (some [e24, e25, e29]) .nil)))) none .nil) none (.node (.node (.node (.node .nil none (.node (.node .nil (some [e8, e9, e11]) .nil) none .nil)) none .nil) none (.node (.node .nil (some [e21, e22, e23]) .nil) none (.node .nil none (.node (.node .nil none (.node .nil (some [e0, e1, e2]) .nil)) none .nil)))) none .nil))
theorem T1_ok : MemoOK Tryz.prog T1 := ⟨trivial, ⟨trivial, ⟨trivial, ⟨trivial, ⟨trivial, trivial, ⟨trivial, trivial, ⟨trivial, ⟨⟨k3, trivial⟩, trivial, trivial⟩, trivial⟩⟩⟩, trivial⟩, ⟨trivial, ⟨trivial, ⟨trivial, trivial, ⟨trivial, trivial, ⟨⟨k26, k30, trivial⟩, trivial, trivial⟩⟩⟩, ⟨trivial, trivial, ⟨trivial, ⟨⟨k6, k7, k10, k12, k13, k14, k15, k16, k17, k18, k19, trivial⟩, trivial, trivial⟩, trivial⟩⟩⟩, ⟨trivial, trivial, ⟨⟨k24, k25, k29, trivial⟩, trivial, trivial⟩⟩⟩⟩, trivial⟩, ⟨trivial, ⟨trivial, ⟨trivial, ⟨trivial, trivial, ⟨trivial, ⟨⟨k8, k9, k11, trivial⟩, trivial, trivial⟩, trivial⟩⟩, trivial⟩, ⟨trivial, ⟨⟨k21, k22, k23, trivial⟩, trivial, trivial⟩, ⟨trivial, trivial, ⟨trivial, ⟨trivial, trivial, ⟨⟨k0, k1, k2, trivial⟩, trivial, trivial⟩⟩, trivial⟩⟩⟩⟩, trivial⟩⟩
end Go.Av

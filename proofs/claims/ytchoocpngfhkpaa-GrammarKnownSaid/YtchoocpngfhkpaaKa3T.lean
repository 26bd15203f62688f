/- The table of the known calls of the stages up to 3. Printed by memogen.py. -/
import Derived.Test.YtchoocpngfhkpaaKa3
noncomputable section
namespace Go.Av
open Go Go.Proofs

def T3 : Memo := (.node (.node (.node (.node (.node (.node .nil none (.node .nil (some [e3]) .nil)) none (.node .nil (some [e12]) .nil)) none (.node .nil (some [e16, e17]) (.node (.node .nil (some [e9, e10]) .nil) none .nil))) none (.node .nil none (.node (.node .nil (some [e0]) .nil) none .nil))) none (.node .nil none (.node .nil none (.node (.node .nil (some [e8]) .nil) none .nil)))) none (.node (.node (.node (.node .nil none (.node .nil (some [e13]) .nil)) none .nil) none (.node .nil none (.node (.node .nil (some [e7]) .nil) none .nil))) none (.node .nil none (.node (.node .nil none (.node (.node .nil (some [e1, e2, e5, e6, e4]) .nil) none .nil)) none (.node (.node .nil (some [e11]) .nil) none .nil)))))
theorem T3_ok : MemoOK Try.prog T3 := ⟨trivial, ⟨trivial, ⟨trivial, ⟨trivial, ⟨trivial, ⟨trivial, trivial, ⟨⟨k3, trivial⟩, trivial, trivial⟩⟩, ⟨⟨k12, trivial⟩, trivial, trivial⟩⟩, ⟨⟨k16, k17, trivial⟩, trivial, ⟨trivial, ⟨⟨k9, k10, trivial⟩, trivial, trivial⟩, trivial⟩⟩⟩, ⟨trivial, trivial, ⟨trivial, ⟨⟨k0, trivial⟩, trivial, trivial⟩, trivial⟩⟩⟩, ⟨trivial, trivial, ⟨trivial, trivial, ⟨trivial, ⟨⟨k8, trivial⟩, trivial, trivial⟩, trivial⟩⟩⟩⟩, ⟨trivial, ⟨trivial, ⟨trivial, ⟨trivial, trivial, ⟨⟨k13, trivial⟩, trivial, trivial⟩⟩, trivial⟩, ⟨trivial, trivial, ⟨trivial, ⟨⟨k7, trivial⟩, trivial, trivial⟩, trivial⟩⟩⟩, ⟨trivial, trivial, ⟨trivial, ⟨trivial, trivial, ⟨trivial, ⟨⟨k1, k2, k5, k6, k4, trivial⟩, trivial, trivial⟩, trivial⟩⟩, ⟨trivial, ⟨⟨k11, trivial⟩, trivial, trivial⟩, trivial⟩⟩⟩⟩⟩
end Go.Av

/- Known calls, stage 5. Printed by memogen.py. -/
import Derived.Test.YteljgidchamnaaaTrk4T
noncomputable section
namespace Go.Av
open Go Go.Proofs

def e9 : List DV × AV := ([], (.d (.bool true)))
theorem k9 : KnownCall Try.prog 4 e9.1 e9.2 := known T4_ok Et_ok (by kernel_rfl) Ft_ok (k := 100000) (n := 60) (by kernel_rfl)
end Go.Av

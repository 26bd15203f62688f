/- Known calls, stage 5. Printed by memogen.py. -/
import Derived.Test.YteljgidchamnaaaLok4T
noncomputable section
namespace Go.Av
open Go Go.Proofs

def e21 : List DV × AV := ([], (.d (.bool true)))
theorem k21 : KnownCall Try.prog 6 e21.1 e21.2 := known T4_ok Et_ok (by kernel_rfl) Ft_ok (k := 100000) (n := 60) (by kernel_rfl)
end Go.Av

/- Known calls, stage 4. Printed by memogen.py. -/
import Derived.Test.YteljgidchamnaaaLok3T
noncomputable section
namespace Go.Av
open Go Go.Proofs

def e20 : List DV × AV := ([], (.d (.bool true)))
theorem k20 : KnownCall Try.prog 41 e20.1 e20.2 := known T3_ok Et_ok (by kernel_rfl) Ft_ok (k := 100000) (n := 60) (by kernel_rfl)
end Go.Av

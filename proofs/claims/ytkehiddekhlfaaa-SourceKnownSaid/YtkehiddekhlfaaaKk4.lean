/- Known calls, stage 4. Printed by memogen.py. -/
import Derived.Test.YtkehiddekhlfaaaKk3T
noncomputable section
namespace Go.Av
open Go Go.Proofs

def e31 : List DV × AV := ([], (.d (.bool true)))
theorem k31 : KnownCall Try.prog 5 e31.1 e31.2 := knownF T3_ok Et_ok (by kernel_rfl) Ft_ok (k := 100000) (n := 60) (by kernel_rfl)
end Go.Av

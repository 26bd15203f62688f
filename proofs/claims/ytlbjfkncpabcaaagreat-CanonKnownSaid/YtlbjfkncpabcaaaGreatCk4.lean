/- Known calls, stage 4. Printed by memogen.py. -/
import Derived.Test.YtlbjfkncpabcaaaGreatCk3T
noncomputable section
namespace Go.Av
open Go Go.Proofs

def e32 : List DV × AV := ([], (.d (.bool true)))
theorem k32 : KnownCall Tryz.prog 5 e32.1 e32.2 := known T3_ok Et_ok (by kernel_rfl) Ft_ok (k := 100000) (n := 60) (by kernel_rfl)
end Go.Av

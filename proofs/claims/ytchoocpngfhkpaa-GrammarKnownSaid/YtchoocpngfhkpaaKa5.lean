/- Known calls, stage 5. Printed by memogen.py. -/
import Derived.Test.YtchoocpngfhkpaaKa4T
noncomputable section
namespace Go.Av
open Go Go.Proofs

def e15 : List DV × AV := ([], (.d (.bool true)))
theorem k15 : KnownCall Try.prog 8 e15.1 e15.2 := known T4_ok Et_ok (by kernel_rfl) Ft_ok (k := 100000) (n := 60) (by kernel_rfl)
end Go.Av

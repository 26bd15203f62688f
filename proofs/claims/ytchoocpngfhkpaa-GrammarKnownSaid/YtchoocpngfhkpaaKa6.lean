/- Known calls, stage 6. Printed by memogen.py. -/
import Derived.Test.YtchoocpngfhkpaaKa5T
noncomputable section
namespace Go.Av
open Go Go.Proofs

def e18 : List DV × AV := ([], (.d (.bool true)))
theorem k18 : KnownCall Try.prog 4 e18.1 e18.2 := known T5_ok Et_ok (by kernel_rfl) Ft_ok (k := 100000) (n := 60) (by kernel_rfl)
end Go.Av

/- Known calls, stage 2. Printed by memogen.py. -/
import Derived.Test.YteljgidchamnaaaTrk1T
noncomputable section
namespace Go.Av
open Go Go.Proofs

def e1 : List DV × AV := ([(.int .i64 2), (.int .i64 2), (.sl 5 [(.agg [(.int .i64 2), (.int .i64 0), (.int .i64 0), (.int .i64 0), (.int .i64 0)]), (.agg [(.int .i64 2), (.int .i64 0), (.int .i64 1), (.int .i64 0), (.int .i64 0)])])], (.d (.int .i64 0)))
theorem k1 : KnownCall Try.prog 67 e1.1 e1.2 := known T1_ok Et_ok (by kernel_rfl) Ft_ok (k := 100000) (n := 60) (by kernel_rfl)
def e3 : List DV × AV := ([(.int .i64 2), (.int .i64 2), (.sl 5 [(.agg [(.int .i64 0), (.int .i64 0), (.int .i64 0), (.int .i64 0), (.int .i64 0)]), (.agg [(.int .i64 1), (.int .i64 1), (.int .i64 0), (.int .i64 0), (.int .i64 0)])])], (.d (.int .i64 0)))
theorem k3 : KnownCall Try.prog 67 e3.1 e3.2 := known T1_ok Et_ok (by kernel_rfl) Ft_ok (k := 100000) (n := 60) (by kernel_rfl)
end Go.Av

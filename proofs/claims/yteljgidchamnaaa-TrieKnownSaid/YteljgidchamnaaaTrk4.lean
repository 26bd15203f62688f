/- Known calls, stage 4. Printed by memogen.py. -/
import Derived.Test.YteljgidchamnaaaTrk3T
noncomputable section
namespace Go.Av
open Go Go.Proofs

def e7 : List DV × AV := ([(.int .i64 2), (.int .i64 2), (.agg [(.sl 10 [(.agg [(.int .i64 1), (.int .i64 5), (.int .i64 0), (.int .i64 0), (.int .i64 0), (.int .i64 0), (.int .i64 0), (.int .i64 0), (.int .i64 4), (.int .i64 (-1))]), (.agg [(.int .i64 2), (.int .i64 3), (.int .i64 0), (.int .i64 0), (.int .i64 0), (.int .i64 0), (.int .i64 0), (.int .i64 0), (.int .i64 0), (.int .i64 (-1))]), (.agg [(.int .i64 0), (.int .i64 0), (.int .i64 0), (.int .i64 0), (.int .i64 0), (.int .i64 0), (.int .i64 0), (.int .i64 0), (.int .i64 0), (.int .i64 3)]), (.agg [(.int .i64 0), (.int .i64 0), (.int .i64 0), (.int .i64 0), (.int .i64 0), (.int .i64 0), (.int .i64 0), (.int .i64 0), (.int .i64 0), (.int .i64 3)]), (.agg [(.int .i64 0), (.int .i64 0), (.int .i64 0), (.int .i64 0), (.int .i64 0), (.int .i64 0), (.int .i64 0), (.int .i64 0), (.int .i64 0), (.int .i64 5)]), (.agg [(.int .i64 0), (.int .i64 0), (.int .i64 0), (.int .i64 0), (.int .i64 0), (.int .i64 0), (.int .i64 0), (.int .i64 0), (.int .i64 6), (.int .i64 (-1))]), (.agg [(.int .i64 0), (.int .i64 0), (.int .i64 0), (.int .i64 0), (.int .i64 0), (.int .i64 0), (.int .i64 0), (.int .i64 0), (.int .i64 0), (.int .i64 5)])])])], (.tup [(.d (.sl 5 [(.agg [(.int .i64 0), (.int .i64 0), (.int .i64 0), (.int .i64 0), (.int .i64 0)]), (.agg [(.int .i64 2), (.int .i64 0), (.int .i64 0), (.int .i64 0), (.int .i64 0)]), (.agg [(.int .i64 2), (.int .i64 0), (.int .i64 1), (.int .i64 0), (.int .i64 0)]), (.agg [(.int .i64 1), (.int .i64 1), (.int .i64 0), (.int .i64 0), (.int .i64 0)])])), (.d (.sl 1 [(.int .i64 5), (.int .i64 3), (.int .i64 3), (.int .i64 5)])), (.d (.int .i64 0))]))
theorem k7 : KnownCall Try.prog 18 e7.1 e7.2 := known T3_ok Et_ok (by kernel_rfl) Ft_ok (k := 100000) (n := 60) (by kernel_rfl)
def e8 : List DV × AV := ([], (.d (.bool true)))
theorem k8 : KnownCall Try.prog 23 e8.1 e8.2 := known T3_ok Et_ok (by kernel_rfl) Ft_ok (k := 100000) (n := 60) (by kernel_rfl)
end Go.Av

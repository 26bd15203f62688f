/- Known calls, stage 3. Printed by memogen.py. -/
import Derived.Test.YteljgidchamnaaaLok2T
noncomputable section
namespace Go.Av
open Go Go.Proofs

def e6 : List DV × AV := ([(.int .i64 3), (.sl 1 [(.sl 5 [(.agg [(.int .i64 0), (.int .i64 0), (.int .i64 0), (.int .i64 0), (.int .i64 0)]), (.agg [(.int .i64 1), (.int .i64 1), (.int .i64 0), (.int .i64 0), (.int .i64 0)])]), (.sl 5 [(.agg [(.int .i64 1), (.int .i64 0), (.int .i64 0), (.int .i64 0), (.int .i64 0)]), (.agg [(.int .i64 1), (.int .i64 1), (.int .i64 0), (.int .i64 0), (.int .i64 0)])])])], (.tup [(.d (.sl 5 [(.agg [(.int .i64 0), (.int .i64 0), (.int .i64 0), (.int .i64 0), (.int .i64 0)]), (.agg [(.int .i64 1), (.int .i64 0), (.int .i64 0), (.int .i64 0), (.int .i64 0)]), (.agg [(.int .i64 1), (.int .i64 1), (.int .i64 0), (.int .i64 0), (.int .i64 0)])])), (.d (.int .i64 0))]))
theorem k6 : KnownCall Try.prog 32 e6.1 e6.2 := known T2_ok Et_ok (by kernel_rfl) Ft_ok (k := 100000) (n := 60) (by kernel_rfl)
def e19 : List DV × AV := ([(.int .i64 3), (.int .i64 2), (.sl 5 [(.agg [(.int .i64 0), (.int .i64 0), (.int .i64 0), (.int .i64 0), (.int .i64 0)]), (.agg [(.int .i64 1), (.int .i64 0), (.int .i64 0), (.int .i64 0), (.int .i64 0)])]), (.sl 5 [(.agg [(.int .i64 1), (.int .i64 1), (.int .i64 0), (.int .i64 0), (.int .i64 0)]), (.agg [(.int .i64 2), (.int .i64 1), (.int .i64 2), (.int .i64 0), (.int .i64 0)])])], (.tup [(.d (.sl 5 [(.agg [(.int .i64 2), (.int .i64 0), (.int .i64 1), (.int .i64 0), (.int .i64 0)]), (.agg [(.int .i64 1), (.int .i64 1), (.int .i64 0), (.int .i64 0), (.int .i64 0)]), (.agg [(.int .i64 2), (.int .i64 1), (.int .i64 2), (.int .i64 0), (.int .i64 0)])])), (.d (.int .i64 0))]))
theorem k19 : KnownCall Try.prog 40 e19.1 e19.2 := known T2_ok Et_ok (by kernel_rfl) Ft_ok (k := 100000) (n := 60) (by kernel_rfl)
end Go.Av

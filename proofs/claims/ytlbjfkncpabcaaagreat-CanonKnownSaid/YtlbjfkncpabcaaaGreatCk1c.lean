/- Known calls, stage 1. Printed by memogen.py. -/
import Derived.Test.YtlbjfkncpabcaaaGreatCa
noncomputable section
namespace Go.Av
open Go Go.Proofs

def e29 : List DV × AV := ([(.str [35, 32, 114, 101, 109, 97, 114, 107, 10, 108, 111, 111, 107, 97, 104, 101, 97, 100, 32, 49, 59, 32, 116, 111, 107, 101, 110, 32, 97, 59, 32, 115, 101, 112, 97, 114, 97, 116, 111, 114, 32, 98, 59, 32, 115, 116, 97, 114, 116, 32, 83, 59, 32, 83, 32, 61, 32, 97, 32, 83, 32, 124, 32, 59])], (.tup [(.d (.sl 3 [(.agg [(.int .i64 1), (.str [108, 111, 111, 107, 97, 104, 101, 97, 100]), (.int .i64 9)]), (.agg [(.int .i64 2), (.str [49]), (.int .i64 19)]), (.agg [(.int .i64 3), (.str [59]), (.int .i64 20)]), (.agg [(.int .i64 1), (.str [116, 111, 107, 101, 110]), (.int .i64 22)]), (.agg [(.int .i64 1), (.str [97]), (.int .i64 28)]), (.agg [(.int .i64 3), (.str [59]), (.int .i64 29)]), (.agg [(.int .i64 1), (.str [115, 101, 112, 97, 114, 97, 116, 111, 114]), (.int .i64 31)]), (.agg [(.int .i64 1), (.str [98]), (.int .i64 41)]), (.agg [(.int .i64 3), (.str [59]), (.int .i64 42)]), (.agg [(.int .i64 1), (.str [115, 116, 97, 114, 116]), (.int .i64 44)]), (.agg [(.int .i64 1), (.str [83]), (.int .i64 50)]), (.agg [(.int .i64 3), (.str [59]), (.int .i64 51)]), (.agg [(.int .i64 1), (.str [83]), (.int .i64 53)]), (.agg [(.int .i64 3), (.str [61]), (.int .i64 55)]), (.agg [(.int .i64 1), (.str [97]), (.int .i64 57)]), (.agg [(.int .i64 1), (.str [83]), (.int .i64 59)]), (.agg [(.int .i64 3), (.str [124]), (.int .i64 61)]), (.agg [(.int .i64 3), (.str [59]), (.int .i64 63)])])), (.d (.agg [(.int .i64 0), (.int .i64 0)]))]))
theorem k29 : KnownCall Tryz.prog 59 e29.1 e29.2 := known T0_ok Et_ok (by kernel_rfl) Ft_ok (k := 100000) (n := 60) (by kernel_rfl)
def e30 : List DV × AV := ([(.agg [(.int .i64 2), (.str [49]), (.int .i64 19)])], (.d (.int .i64 0)))
theorem k30 : KnownCall Tryz.prog 227 e30.1 e30.2 := known T0_ok Et_ok (by kernel_rfl) Ft_ok (k := 100000) (n := 60) (by kernel_rfl)
end Go.Av

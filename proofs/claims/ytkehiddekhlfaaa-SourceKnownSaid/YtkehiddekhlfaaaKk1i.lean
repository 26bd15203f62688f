/- Known calls, stage 1. Printed by memogen.py. -/
import Derived.Test.YtkehiddekhlfaaaKa
noncomputable section
namespace Go.Av
open Go Go.Proofs

def e25 : List DV × AV := ([(.str [108, 111, 111, 107, 97, 104, 101, 97, 100, 32, 49, 59, 32, 116, 111, 107, 101, 110, 32, 97, 59, 32, 115, 101, 112, 97, 114, 97, 116, 111, 114, 32, 98, 59, 32, 115, 116, 97, 114, 116, 32, 83, 59])], (.tup [(.d (.sl 3 [(.agg [(.int .i64 1), (.str [108, 111, 111, 107, 97, 104, 101, 97, 100]), (.int .i64 0)]), (.agg [(.int .i64 2), (.str [49]), (.int .i64 10)]), (.agg [(.int .i64 3), (.str [59]), (.int .i64 11)]), (.agg [(.int .i64 1), (.str [116, 111, 107, 101, 110]), (.int .i64 13)]), (.agg [(.int .i64 1), (.str [97]), (.int .i64 19)]), (.agg [(.int .i64 3), (.str [59]), (.int .i64 20)]), (.agg [(.int .i64 1), (.str [115, 101, 112, 97, 114, 97, 116, 111, 114]), (.int .i64 22)]), (.agg [(.int .i64 1), (.str [98]), (.int .i64 32)]), (.agg [(.int .i64 3), (.str [59]), (.int .i64 33)]), (.agg [(.int .i64 1), (.str [115, 116, 97, 114, 116]), (.int .i64 35)]), (.agg [(.int .i64 1), (.str [83]), (.int .i64 41)]), (.agg [(.int .i64 3), (.str [59]), (.int .i64 42)])])), (.d (.agg [(.int .i64 0), (.int .i64 0)]))]))
theorem k25 : KnownCall Try.prog 18 e25.1 e25.2 := knownF T0_ok Et_ok (by kernel_rfl) Ft_ok (k := 100000) (n := 60) (by kernel_rfl)
def e26 : List DV × AV := ([(.agg [(.int .i64 2), (.str [49]), (.int .i64 10)])], (.d (.int .i64 0)))
theorem k26 : KnownCall Try.prog 66 e26.1 e26.2 := knownF T0_ok Et_ok (by kernel_rfl) Ft_ok (k := 100000) (n := 60) (by kernel_rfl)
end Go.Av

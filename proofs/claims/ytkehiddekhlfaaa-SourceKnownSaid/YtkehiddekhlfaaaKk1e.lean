/- Known calls, stage 1. Printed by memogen.py. -/
import Derived.Test.YtkehiddekhlfaaaKa
noncomputable section
namespace Go.Av
open Go Go.Proofs

def e14 : List DV × AV := ([(.str [108, 111, 111, 107, 97, 104, 101, 97, 100, 32, 50, 59, 32, 116, 111, 107, 101, 110, 32, 97, 44, 32, 98, 59, 32, 115, 101, 112, 97, 114, 97, 116, 111, 114, 32, 99, 59, 32, 115, 116, 97, 114, 116, 32, 84, 59, 32, 83, 32, 61, 32, 97, 32, 83, 59])], (.tup [(.d (.sl 3 [(.agg [(.int .i64 1), (.str [108, 111, 111, 107, 97, 104, 101, 97, 100]), (.int .i64 0)]), (.agg [(.int .i64 2), (.str [50]), (.int .i64 10)]), (.agg [(.int .i64 3), (.str [59]), (.int .i64 11)]), (.agg [(.int .i64 1), (.str [116, 111, 107, 101, 110]), (.int .i64 13)]), (.agg [(.int .i64 1), (.str [97]), (.int .i64 19)]), (.agg [(.int .i64 3), (.str [44]), (.int .i64 20)]), (.agg [(.int .i64 1), (.str [98]), (.int .i64 22)]), (.agg [(.int .i64 3), (.str [59]), (.int .i64 23)]), (.agg [(.int .i64 1), (.str [115, 101, 112, 97, 114, 97, 116, 111, 114]), (.int .i64 25)]), (.agg [(.int .i64 1), (.str [99]), (.int .i64 35)]), (.agg [(.int .i64 3), (.str [59]), (.int .i64 36)]), (.agg [(.int .i64 1), (.str [115, 116, 97, 114, 116]), (.int .i64 38)]), (.agg [(.int .i64 1), (.str [84]), (.int .i64 44)]), (.agg [(.int .i64 3), (.str [59]), (.int .i64 45)]), (.agg [(.int .i64 1), (.str [83]), (.int .i64 47)]), (.agg [(.int .i64 3), (.str [61]), (.int .i64 49)]), (.agg [(.int .i64 1), (.str [97]), (.int .i64 51)]), (.agg [(.int .i64 1), (.str [83]), (.int .i64 53)]), (.agg [(.int .i64 3), (.str [59]), (.int .i64 54)])])), (.d (.agg [(.int .i64 0), (.int .i64 0)]))]))
theorem k14 : KnownCall Try.prog 18 e14.1 e14.2 := knownF T0_ok Et_ok (by kernel_rfl) Ft_ok (k := 100000) (n := 60) (by kernel_rfl)
def e15 : List DV × AV := ([(.str [99])], (.d (.int .i64 0)))
theorem k15 : KnownCall Try.prog 61 e15.1 e15.2 := knownF T0_ok Et_ok (by kernel_rfl) Ft_ok (k := 100000) (n := 60) (by kernel_rfl)
def e16 : List DV × AV := ([(.str [83])], (.d (.int .i64 0)))
theorem k16 : KnownCall Try.prog 61 e16.1 e16.2 := knownF T0_ok Et_ok (by kernel_rfl) Ft_ok (k := 100000) (n := 60) (by kernel_rfl)
end Go.Av

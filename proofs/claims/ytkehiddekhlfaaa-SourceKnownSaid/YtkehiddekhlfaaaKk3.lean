/- Known calls, stage 3. Printed by memogen.py. -/
import Derived.Test.YtkehiddekhlfaaaKk2T
noncomputable section
namespace Go.Av
open Go Go.Proofs

def e30 : List DV × AV := ([(.agg [(.int .i64 2), (.sl 1 [(.str [97]), (.str [98])]), (.str [99]), (.str [83]), (.sl 2 [(.agg [(.str [83]), (.sl 1 [(.sl 1 [(.str [97]), (.str [83])]), (.sl 1 [(.str [98])]), .nilsl])])])])], (.tup [(.d (.str [108, 111, 111, 107, 97, 104, 101, 97, 100, 32, 50, 59, 10, 116, 111, 107, 101, 110, 32, 97, 44, 32, 98, 59, 10, 115, 101, 112, 97, 114, 97, 116, 111, 114, 32, 99, 59, 10, 115, 116, 97, 114, 116, 32, 83, 59, 10, 83, 32, 61, 32, 97, 32, 83, 32, 124, 32, 98, 32, 124, 32, 59, 10])), (.d (.int .i64 0))]))
theorem k30 : KnownCall Try.prog 8 e30.1 e30.2 := knownF T2_ok Et_ok (by kernel_rfl) Ft_ok (k := 100000) (n := 60) (by kernel_rfl)
end Go.Av

/- Known calls, stage 2. Printed by memogen.py. -/
import Derived.Test.YtkehiddekhlfaaaKk1T
noncomputable section
namespace Go.Av
open Go Go.Proofs

def e27 : List DV × AV := ([(.str [108, 111, 111, 107, 97, 104, 101, 97, 100, 32, 49, 59, 32, 116, 111, 107, 101, 110, 32, 97, 59, 32, 115, 101, 112, 97, 114, 97, 116, 111, 114, 32, 98, 59, 32, 115, 116, 97, 114, 116, 32, 83, 59])], (.tup [(.d (.agg [(.int .i64 0), .nilsl, (.str []), (.str []), .nilsl])), (.d (.agg [(.int .i64 5), (.int .i64 43)]))]))
theorem k27 : KnownCall Try.prog 7 e27.1 e27.2 := knownF T1_ok Et_ok (by kernel_rfl) Ft_ok (k := 100000) (n := 60) (by kernel_rfl)
def e29 : List DV × AV := ([(.str [108, 111, 111, 107, 97, 104, 101, 97, 100, 32, 50, 59, 32, 116, 111, 107, 101, 110, 32, 97, 44, 32, 98, 59, 32, 115, 101, 112, 97, 114, 97, 116, 111, 114, 32, 99, 59, 32, 115, 116, 97, 114, 116, 32, 83, 59, 32, 83, 32, 61, 32, 97, 32, 83, 32, 124, 32, 98, 32, 124, 32, 59])], (.tup [(.d (.agg [(.int .i64 2), (.sl 1 [(.str [97]), (.str [98])]), (.str [99]), (.str [83]), (.sl 2 [(.agg [(.str [83]), (.sl 1 [(.sl 1 [(.str [97]), (.str [83])]), (.sl 1 [(.str [98])]), .nilsl])])])])), (.d (.agg [(.int .i64 0), (.int .i64 0)]))]))
theorem k29 : KnownCall Try.prog 7 e29.1 e29.2 := knownF T1_ok Et_ok (by kernel_rfl) Ft_ok (k := 100000) (n := 60) (by kernel_rfl)
end Go.Av

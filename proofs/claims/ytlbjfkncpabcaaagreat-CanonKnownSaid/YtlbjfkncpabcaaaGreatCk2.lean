/- Known calls, stage 2. Printed by memogen.py. -/
import Derived.Test.YtlbjfkncpabcaaaGreatCk1T
noncomputable section
namespace Go.Av
open Go Go.Proofs

def e4 : List DV × AV := ([(.agg [(.int .i64 1), (.sl 1 [(.str [97])]), (.str [98]), (.sl 1 [(.str [83])]), (.int .i64 16), (.sl 2 [(.agg [(.int .i64 16), (.sl 1 [(.int .i64 0), (.int .i64 16)])]), (.agg [(.int .i64 16), .nilsl])])])], (.d (.int .i64 0)))
theorem k4 : KnownCall Tryz.prog 76 e4.1 e4.2 := known T1_ok Et_ok (by kernel_rfl) Ft_ok (k := 100000) (n := 60) (by kernel_rfl)
def e27 : List DV × AV := ([(.str [108, 111, 111, 107, 97, 104, 101, 97, 100, 32, 49, 59, 32, 116, 111, 107, 101, 110, 32, 97, 59, 32, 115, 101, 112, 97, 114, 97, 116, 111, 114, 32, 98, 59, 32, 115, 116, 97, 114, 116, 32, 83, 59, 32, 83, 32, 61, 32, 97, 32, 83, 32, 124, 32, 59])], (.tup [(.d (.agg [(.int .i64 1), (.sl 1 [(.str [97])]), (.str [98]), (.str [83]), (.sl 2 [(.agg [(.str [83]), (.sl 1 [(.sl 1 [(.str [97]), (.str [83])]), .nilsl])])])])), (.d (.agg [(.int .i64 0), (.int .i64 0)]))]))
theorem k27 : KnownCall Tryz.prog 11 e27.1 e27.2 := known T1_ok Et_ok (by kernel_rfl) Ft_ok (k := 100000) (n := 60) (by kernel_rfl)
def e28 : List DV × AV := ([(.agg [(.int .i64 1), (.sl 1 [(.str [97])]), (.str [98]), (.str [83]), (.sl 2 [(.agg [(.str [83]), (.sl 1 [(.sl 1 [(.str [97]), (.str [83])]), .nilsl])])])])], (.d (.int .i64 0)))
theorem k28 : KnownCall Tryz.prog 55 e28.1 e28.2 := known T1_ok Et_ok (by kernel_rfl) Ft_ok (k := 100000) (n := 60) (by kernel_rfl)
def e31 : List DV × AV := ([(.str [35, 32, 114, 101, 109, 97, 114, 107, 10, 108, 111, 111, 107, 97, 104, 101, 97, 100, 32, 49, 59, 32, 116, 111, 107, 101, 110, 32, 97, 59, 32, 115, 101, 112, 97, 114, 97, 116, 111, 114, 32, 98, 59, 32, 115, 116, 97, 114, 116, 32, 83, 59, 32, 83, 32, 61, 32, 97, 32, 83, 32, 124, 32, 59])], (.tup [(.d (.agg [(.int .i64 1), (.sl 1 [(.str [97])]), (.str [98]), (.str [83]), (.sl 2 [(.agg [(.str [83]), (.sl 1 [(.sl 1 [(.str [97]), (.str [83])]), .nilsl])])])])), (.d (.agg [(.int .i64 0), (.int .i64 0)]))]))
theorem k31 : KnownCall Tryz.prog 11 e31.1 e31.2 := known T1_ok Et_ok (by kernel_rfl) Ft_ok (k := 100000) (n := 60) (by kernel_rfl)
end Go.Av

/- Known calls, stage 3. Printed by memogen.py. -/
import Derived.Test.YtlbjfkncpabcaaaGreatCk2T
noncomputable section
namespace Go.Av
open Go Go.Proofs

def e5 : List DV × AV := ([(.str [1, 1, 1, 97, 1, 98, 1, 1, 83, 0, 2, 0, 2, 0, 8, 0, 0])], (.tup [(.d (.agg [(.int .i64 1), (.sl 1 [(.str [97])]), (.str [98]), (.sl 1 [(.str [83])]), (.int .i64 16), (.sl 2 [(.agg [(.int .i64 16), (.sl 1 [(.int .i64 0), (.int .i64 16)])]), (.agg [(.int .i64 16), .nilsl])])])), (.d (.agg [(.int .i64 0), (.int .i64 0)]))]))
theorem k5 : KnownCall Tryz.prog 20 e5.1 e5.2 := known T2_ok Et_ok (by kernel_rfl) Ft_ok (k := 100000) (n := 60) (by kernel_rfl)
def e20 : List DV × AV := ([(.agg [(.int .i64 1), (.sl 1 [(.str [97])]), (.str [98]), (.sl 1 [(.str [83])]), (.int .i64 16), (.sl 2 [(.agg [(.int .i64 16), (.sl 1 [(.int .i64 0), (.int .i64 16)])]), (.agg [(.int .i64 16), .nilsl])])])], (.tup [(.d (.str [1, 1, 1, 97, 1, 98, 1, 1, 83, 0, 2, 0, 2, 0, 8, 0, 0])), (.d (.int .i64 0))]))
theorem k20 : KnownCall Tryz.prog 19 e20.1 e20.2 := known T2_ok Et_ok (by kernel_rfl) Ft_ok (k := 100000) (n := 60) (by kernel_rfl)
end Go.Av

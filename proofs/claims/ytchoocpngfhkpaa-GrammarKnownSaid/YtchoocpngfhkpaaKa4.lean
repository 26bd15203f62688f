/- Known calls, stage 4. Printed by memogen.py. -/
import Derived.Test.YtchoocpngfhkpaaKa3T
noncomputable section
namespace Go.Av
open Go Go.Proofs

def e14 : List DV × AV := ([(.agg [(.int .i64 2), (.sl 1 [(.str [97]), (.str [98])]), (.str [110, 108]), (.sl 1 [(.str [83]), (.str [84])]), (.int .i64 16), (.sl 2 [(.agg [(.int .i64 16), (.sl 1 [(.int .i64 0), (.int .i64 17)])]), (.agg [(.int .i64 16), .nilsl]), (.agg [(.int .i64 17), (.sl 1 [(.int .i64 1), (.int .i64 16)])])])])], (.d (.int .i64 0)))
theorem k14 : KnownCall Try.prog 23 e14.1 e14.2 := known T3_ok Et_ok (by kernel_rfl) Ft_ok (k := 100000) (n := 60) (by kernel_rfl)
end Go.Av

/- Known calls, stage 2. Printed by memogen.py. -/
import Derived.Test.YtchoocpngfhkpaaKa1T
noncomputable section
namespace Go.Av
open Go Go.Proofs

def e4 : List DV × AV := ([(.str [110, 108])], (.d (.int .i64 0)))
theorem k4 : KnownCall Try.prog 86 e4.1 e4.2 := known T1_ok Et_ok (by kernel_rfl) Ft_ok (k := 100000) (n := 60) (by kernel_rfl)
def e11 : List DV × AV := ([(.agg [(.int .i64 2), (.sl 1 [(.str [97]), (.str [98])]), (.str [110, 108]), (.sl 1 [(.str [83]), (.str [84])]), (.int .i64 16), (.sl 2 [(.agg [(.int .i64 16), (.sl 1 [(.int .i64 0), (.int .i64 17)])]), (.agg [(.int .i64 16), .nilsl]), (.agg [(.int .i64 17), (.sl 1 [(.int .i64 1), (.int .i64 16)])])])])], (.d (.int .i64 0)))
theorem k11 : KnownCall Try.prog 46 e11.1 e11.2 := known T1_ok Et_ok (by kernel_rfl) Ft_ok (k := 100000) (n := 60) (by kernel_rfl)
end Go.Av

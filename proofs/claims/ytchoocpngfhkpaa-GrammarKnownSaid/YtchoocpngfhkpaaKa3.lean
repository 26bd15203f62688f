/- Known calls, stage 3. Printed by memogen.py. -/
import Derived.Test.YtchoocpngfhkpaaKa2T
noncomputable section
namespace Go.Av
open Go Go.Proofs

def e7 : List DV × AV := ([(.agg [(.int .i64 2), (.sl 1 [(.str [97]), (.str [98])]), (.str [110, 108]), (.sl 1 [(.str [83]), (.str [84])]), (.int .i64 16), (.sl 2 [(.agg [(.int .i64 16), (.sl 1 [(.int .i64 0), (.int .i64 17)])]), (.agg [(.int .i64 16), .nilsl]), (.agg [(.int .i64 17), (.sl 1 [(.int .i64 1), (.int .i64 16)])])])])], (.d (.int .i64 0)))
theorem k7 : KnownCall Try.prog 44 e7.1 e7.2 := known T2_ok Et_ok (by kernel_rfl) Ft_ok (k := 100000) (n := 60) (by kernel_rfl)
def e16 : List DV × AV := ([(.agg [(.int .i64 2), (.sl 1 [(.str [97]), (.str [98])]), (.str [110, 108]), (.sl 1 [(.str [83]), (.str [84])]), (.int .i64 16), (.sl 2 [(.agg [(.int .i64 17), (.sl 1 [(.int .i64 1), (.int .i64 16)])]), (.agg [(.int .i64 16), (.sl 1 [(.int .i64 0), (.int .i64 17)])]), (.agg [(.int .i64 16), .nilsl])])])], (.d (.int .i64 9)))
theorem k16 : KnownCall Try.prog 23 e16.1 e16.2 := known T2_ok Et_ok (by kernel_rfl) Ft_ok (k := 100000) (n := 60) (by kernel_rfl)
def e17 : List DV × AV := ([(.agg [(.int .i64 2), (.sl 1 [(.str [97]), (.str [98])]), (.str [110, 108]), (.sl 1 [(.str [83]), (.str [84])]), (.int .i64 16), (.sl 2 [(.agg [(.int .i64 16), (.sl 1 [(.int .i64 0), (.int .i64 17)])]), (.agg [(.int .i64 16), .nilsl])])])], (.d (.int .i64 7)))
theorem k17 : KnownCall Try.prog 23 e17.1 e17.2 := known T2_ok Et_ok (by kernel_rfl) Ft_ok (k := 100000) (n := 60) (by kernel_rfl)
end Go.Av

/- Known calls, stage 1. Printed by memogen.py. -/
import Derived.Test.YtchoocpngfhkpaaTa
noncomputable section
namespace Go.Av
open Go Go.Proofs

def e0 : List DV × AV := ([(.agg [(.int .i64 2), (.sl 1 [(.str [97]), (.str [98])]), (.str [110, 108]), (.sl 1 [(.str [83]), (.str [84])]), (.int .i64 16), (.sl 2 [(.agg [(.int .i64 16), (.sl 1 [(.int .i64 0), (.int .i64 17)])]), (.agg [(.int .i64 16), .nilsl]), (.agg [(.int .i64 17), (.sl 1 [(.int .i64 1), (.int .i64 16)])])])])], (.d (.int .i64 0)))
theorem k0 : KnownCall Try.prog 43 e0.1 e0.2 := known T0_ok Et_ok (by kernel_rfl) Ft_ok (k := 100000) (n := 60) (by kernel_rfl)
def e1 : List DV × AV := ([(.str [97])], (.d (.int .i64 0)))
theorem k1 : KnownCall Try.prog 86 e1.1 e1.2 := known T0_ok Et_ok (by kernel_rfl) Ft_ok (k := 100000) (n := 60) (by kernel_rfl)
def e2 : List DV × AV := ([(.str [98])], (.d (.int .i64 0)))
theorem k2 : KnownCall Try.prog 86 e2.1 e2.2 := known T0_ok Et_ok (by kernel_rfl) Ft_ok (k := 100000) (n := 60) (by kernel_rfl)
def e3 : List DV × AV := ([(.str [110, 108])], (.d (.int .i64 0)))
theorem k3 : KnownCall Try.prog 95 e3.1 e3.2 := known T0_ok Et_ok (by kernel_rfl) Ft_ok (k := 100000) (n := 60) (by kernel_rfl)
def e5 : List DV × AV := ([(.str [83])], (.d (.int .i64 0)))
theorem k5 : KnownCall Try.prog 86 e5.1 e5.2 := known T0_ok Et_ok (by kernel_rfl) Ft_ok (k := 100000) (n := 60) (by kernel_rfl)
def e6 : List DV × AV := ([(.str [84])], (.d (.int .i64 0)))
theorem k6 : KnownCall Try.prog 86 e6.1 e6.2 := known T0_ok Et_ok (by kernel_rfl) Ft_ok (k := 100000) (n := 60) (by kernel_rfl)
def e8 : List DV × AV := ([(.agg [(.int .i64 2), (.sl 1 [(.str [97]), (.str [98])]), (.str [110, 108]), (.sl 1 [(.str [83]), (.str [84])]), (.int .i64 16), (.sl 2 [(.agg [(.int .i64 16), (.sl 1 [(.int .i64 0), (.int .i64 17)])]), (.agg [(.int .i64 16), .nilsl]), (.agg [(.int .i64 17), (.sl 1 [(.int .i64 1), (.int .i64 16)])])])])], (.d (.int .i64 0)))
theorem k8 : KnownCall Try.prog 45 e8.1 e8.2 := known T0_ok Et_ok (by kernel_rfl) Ft_ok (k := 100000) (n := 60) (by kernel_rfl)
def e9 : List DV × AV := ([(.sl 1 [(.int .i64 0), (.int .i64 17)]), (.fn (.func 62) [] [(.ep [(.int .i64 2), (.sl 1 [(.str [97]), (.str [98])]), (.str [110, 108]), (.sl 1 [(.str [83]), (.str [84])]), (.int .i64 16), (.sl 2 [(.agg [(.int .i64 16), (.sl 1 [(.int .i64 0), (.int .i64 17)])]), (.agg [(.int .i64 16), .nilsl]), (.agg [(.int .i64 17), (.sl 1 [(.int .i64 1), (.int .i64 16)])])])])])], (.d (.int .i64 (-1))))
theorem k9 : KnownCall Try.prog 87 e9.1 e9.2 := known T0_ok Et_ok (by kernel_rfl) Ft_ok (k := 100000) (n := 60) (by kernel_rfl)
def e10 : List DV × AV := ([(.sl 1 [(.int .i64 1), (.int .i64 16)]), (.fn (.func 62) [] [(.ep [(.int .i64 2), (.sl 1 [(.str [97]), (.str [98])]), (.str [110, 108]), (.sl 1 [(.str [83]), (.str [84])]), (.int .i64 16), (.sl 2 [(.agg [(.int .i64 16), (.sl 1 [(.int .i64 0), (.int .i64 17)])]), (.agg [(.int .i64 16), .nilsl]), (.agg [(.int .i64 17), (.sl 1 [(.int .i64 1), (.int .i64 16)])])])])])], (.d (.int .i64 (-1))))
theorem k10 : KnownCall Try.prog 87 e10.1 e10.2 := known T0_ok Et_ok (by kernel_rfl) Ft_ok (k := 100000) (n := 60) (by kernel_rfl)
def e12 : List DV × AV := ([(.agg [(.int .i64 2), (.sl 1 [(.str [97]), (.str [98])]), (.str [110, 108]), (.sl 1 [(.str [83]), (.str [84])]), (.int .i64 16), (.sl 2 [(.agg [(.int .i64 16), (.sl 1 [(.int .i64 0), (.int .i64 17)])]), (.agg [(.int .i64 16), .nilsl]), (.agg [(.int .i64 17), (.sl 1 [(.int .i64 1), (.int .i64 16)])])])])], (.d (.int .i64 0)))
theorem k12 : KnownCall Try.prog 47 e12.1 e12.2 := known T0_ok Et_ok (by kernel_rfl) Ft_ok (k := 100000) (n := 60) (by kernel_rfl)
def e13 : List DV × AV := ([(.agg [(.int .i64 2), (.sl 1 [(.str [97]), (.str [98])]), (.str [110, 108]), (.sl 1 [(.str [83]), (.str [84])]), (.int .i64 16), (.sl 2 [(.agg [(.int .i64 16), (.sl 1 [(.int .i64 0), (.int .i64 17)])]), (.agg [(.int .i64 16), .nilsl]), (.agg [(.int .i64 17), (.sl 1 [(.int .i64 1), (.int .i64 16)])])])])], (.d (.int .i64 0)))
theorem k13 : KnownCall Try.prog 48 e13.1 e13.2 := known T0_ok Et_ok (by kernel_rfl) Ft_ok (k := 100000) (n := 60) (by kernel_rfl)
end Go.Av

/- Known calls, stage 1. Printed by memogen.py. -/
import Derived.Test.YtkehiddekhlfaaaKa
noncomputable section
namespace Go.Av
open Go Go.Proofs

def e0 : List DV × AV := ([(.str [108, 111, 111, 107, 97, 104, 101, 97, 100, 32, 53, 59])], (.tup [(.d (.sl 3 [(.agg [(.int .i64 1), (.str [108, 111, 111, 107, 97, 104, 101, 97, 100]), (.int .i64 0)]), (.agg [(.int .i64 2), (.str [53]), (.int .i64 10)]), (.agg [(.int .i64 3), (.str [59]), (.int .i64 11)])])), (.d (.agg [(.int .i64 0), (.int .i64 0)]))]))
theorem k0 : KnownCall Try.prog 18 e0.1 e0.2 := knownF T0_ok Et_ok (by kernel_rfl) Ft_ok (k := 100000) (n := 60) (by kernel_rfl)
def e1 : List DV × AV := ([(.agg [(.int .i64 2), (.str [53]), (.int .i64 10)])], (.d (.int .i64 0)))
theorem k1 : KnownCall Try.prog 66 e1.1 e1.2 := knownF T0_ok Et_ok (by kernel_rfl) Ft_ok (k := 100000) (n := 60) (by kernel_rfl)
def e2 : List DV × AV := ([(.str [108, 111, 111, 107, 97, 104, 101, 97, 100, 32, 48, 50, 59])], (.tup [(.d .nilsl), (.d (.agg [(.int .i64 3), (.int .i64 10)]))]))
theorem k2 : KnownCall Try.prog 18 e2.1 e2.2 := knownF T0_ok Et_ok (by kernel_rfl) Ft_ok (k := 100000) (n := 60) (by kernel_rfl)
def e3 : List DV × AV := ([(.str [116, 111, 107, 101, 110, 32, 97, 59])], (.tup [(.d (.sl 3 [(.agg [(.int .i64 1), (.str [116, 111, 107, 101, 110]), (.int .i64 0)]), (.agg [(.int .i64 1), (.str [97]), (.int .i64 6)]), (.agg [(.int .i64 3), (.str [59]), (.int .i64 7)])])), (.d (.agg [(.int .i64 0), (.int .i64 0)]))]))
theorem k3 : KnownCall Try.prog 18 e3.1 e3.2 := knownF T0_ok Et_ok (by kernel_rfl) Ft_ok (k := 100000) (n := 60) (by kernel_rfl)
end Go.Av

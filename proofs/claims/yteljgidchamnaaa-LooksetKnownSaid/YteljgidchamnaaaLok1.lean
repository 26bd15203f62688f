/- Known calls, stage 1. Printed by memogen.py. -/
import Derived.Test.YteljgidchamnaaaLoa
noncomputable section
namespace Go.Av
open Go Go.Proofs

def e0 : List DV × AV := ([(.int .i64 8), (.sl 5 [(.agg [(.int .i64 0), (.int .i64 0), (.int .i64 0), (.int .i64 0), (.int .i64 0)]), (.agg [(.int .i64 1), (.int .i64 1), (.int .i64 0), (.int .i64 0), (.int .i64 0)])])], (.d (.int .i64 0)))
theorem k0 : KnownCall Try.prog 147 e0.1 e0.2 := known T0_ok Et_ok (by kernel_rfl) Ft_ok (k := 100000) (n := 60) (by kernel_rfl)
def e2 : List DV × AV := ([(.int .i64 8), (.sl 5 [(.agg [(.int .i64 1), (.int .i64 0), (.int .i64 0), (.int .i64 0), (.int .i64 0)]), (.agg [(.int .i64 1), (.int .i64 1), (.int .i64 0), (.int .i64 0), (.int .i64 0)])])], (.d (.int .i64 0)))
theorem k2 : KnownCall Try.prog 147 e2.1 e2.2 := known T0_ok Et_ok (by kernel_rfl) Ft_ok (k := 100000) (n := 60) (by kernel_rfl)
def e4 : List DV × AV := ([(.int .i64 8), (.sl 5 [(.agg [(.int .i64 0), (.int .i64 0), (.int .i64 0), (.int .i64 0), (.int .i64 0)]), (.agg [(.int .i64 1), (.int .i64 0), (.int .i64 0), (.int .i64 0), (.int .i64 0)])])], (.d (.int .i64 0)))
theorem k4 : KnownCall Try.prog 147 e4.1 e4.2 := known T0_ok Et_ok (by kernel_rfl) Ft_ok (k := 100000) (n := 60) (by kernel_rfl)
def e5 : List DV × AV := ([(.int .i64 8), (.sl 5 [(.agg [(.int .i64 1), (.int .i64 1), (.int .i64 0), (.int .i64 0), (.int .i64 0)]), (.agg [(.int .i64 1), (.int .i64 0), (.int .i64 0), (.int .i64 0), (.int .i64 0)])])], (.d (.int .i64 0)))
theorem k5 : KnownCall Try.prog 147 e5.1 e5.2 := known T0_ok Et_ok (by kernel_rfl) Ft_ok (k := 100000) (n := 60) (by kernel_rfl)
def e7 : List DV × AV := ([(.int .i64 8), (.sl 5 [(.agg [(.int .i64 2), (.int .i64 0), (.int .i64 1), (.int .i64 0), (.int .i64 0)]), (.agg [(.int .i64 1), (.int .i64 1), (.int .i64 0), (.int .i64 0), (.int .i64 0)])])], (.d (.int .i64 0)))
theorem k7 : KnownCall Try.prog 147 e7.1 e7.2 := known T0_ok Et_ok (by kernel_rfl) Ft_ok (k := 100000) (n := 60) (by kernel_rfl)
def e8 : List DV × AV := ([(.int .i64 3), (.sl 5 [(.agg [(.int .i64 1), (.int .i64 1), (.int .i64 0), (.int .i64 0), (.int .i64 0)]), (.agg [(.int .i64 2), (.int .i64 1), (.int .i64 2), (.int .i64 0), (.int .i64 0)])])], (.d (.int .i64 0)))
theorem k8 : KnownCall Try.prog 36 e8.1 e8.2 := known T0_ok Et_ok (by kernel_rfl) Ft_ok (k := 100000) (n := 60) (by kernel_rfl)
def e9 : List DV × AV := ([(.int .i64 8), (.sl 5 [(.agg [(.int .i64 1), (.int .i64 0), (.int .i64 0), (.int .i64 0), (.int .i64 0)]), (.agg [(.int .i64 0), (.int .i64 0), (.int .i64 0), (.int .i64 0), (.int .i64 0)])])], (.d (.int .i64 0)))
theorem k9 : KnownCall Try.prog 147 e9.1 e9.2 := known T0_ok Et_ok (by kernel_rfl) Ft_ok (k := 100000) (n := 60) (by kernel_rfl)
def e10 : List DV × AV := ([(.fn (.func 133) [] [(.ep [(.sl 5 [(.agg [(.int .i64 1), (.int .i64 1), (.int .i64 0), (.int .i64 0), (.int .i64 0)]), (.agg [(.int .i64 2), (.int .i64 1), (.int .i64 2), (.int .i64 0), (.int .i64 0)])])]), (.ep [(.sl 5 [(.agg [(.int .i64 0), (.int .i64 0), (.int .i64 0), (.int .i64 0), (.int .i64 0)])])]), (.ep [(.int .i64 1)])])], (.d (.sl 5 [(.agg [(.int .i64 1), (.int .i64 1), (.int .i64 0), (.int .i64 0), (.int .i64 0)])])))
theorem k10 : KnownCall Try.prog 87 e10.1 e10.2 := known T0_ok Et_ok (by kernel_rfl) Ft_ok (k := 100000) (n := 60) (by kernel_rfl)
def e13 : List DV × AV := ([(.int .i64 3), (.sl 5 [(.agg [(.int .i64 2), (.int .i64 0), (.int .i64 1), (.int .i64 0), (.int .i64 0)]), (.agg [(.int .i64 2), (.int .i64 0), (.int .i64 2), (.int .i64 0), (.int .i64 0)]), (.agg [(.int .i64 1), (.int .i64 1), (.int .i64 0), (.int .i64 0), (.int .i64 0)])])], (.d (.int .i64 0)))
theorem k13 : KnownCall Try.prog 36 e13.1 e13.2 := known T0_ok Et_ok (by kernel_rfl) Ft_ok (k := 100000) (n := 60) (by kernel_rfl)
def e15 : List DV × AV := ([(.fn (.func 133) [] [(.ep [(.sl 5 [(.agg [(.int .i64 2), (.int .i64 0), (.int .i64 1), (.int .i64 0), (.int .i64 0)]), (.agg [(.int .i64 2), (.int .i64 0), (.int .i64 2), (.int .i64 0), (.int .i64 0)]), (.agg [(.int .i64 1), (.int .i64 1), (.int .i64 0), (.int .i64 0), (.int .i64 0)])])]), (.ep [(.sl 5 [(.agg [(.int .i64 0), (.int .i64 0), (.int .i64 0), (.int .i64 0), (.int .i64 0)])])]), (.ep [(.int .i64 2)])])], (.d (.sl 5 [(.agg [(.int .i64 2), (.int .i64 0), (.int .i64 1), (.int .i64 0), (.int .i64 0)]), (.agg [(.int .i64 2), (.int .i64 0), (.int .i64 2), (.int .i64 0), (.int .i64 0)]), (.agg [(.int .i64 1), (.int .i64 1), (.int .i64 0), (.int .i64 0), (.int .i64 0)])])))
theorem k15 : KnownCall Try.prog 87 e15.1 e15.2 := known T0_ok Et_ok (by kernel_rfl) Ft_ok (k := 100000) (n := 60) (by kernel_rfl)
def e17 : List DV × AV := ([(.fn (.func 133) [] [(.ep [(.sl 5 [(.agg [(.int .i64 1), (.int .i64 1), (.int .i64 0), (.int .i64 0), (.int .i64 0)]), (.agg [(.int .i64 2), (.int .i64 1), (.int .i64 2), (.int .i64 0), (.int .i64 0)])])]), (.ep [(.sl 5 [(.agg [(.int .i64 0), (.int .i64 0), (.int .i64 0), (.int .i64 0), (.int .i64 0)])])]), (.ep [(.int .i64 2)])])], (.d (.sl 5 [(.agg [(.int .i64 1), (.int .i64 1), (.int .i64 0), (.int .i64 0), (.int .i64 0)]), (.agg [(.int .i64 2), (.int .i64 1), (.int .i64 2), (.int .i64 0), (.int .i64 0)])])))
theorem k17 : KnownCall Try.prog 87 e17.1 e17.2 := known T0_ok Et_ok (by kernel_rfl) Ft_ok (k := 100000) (n := 60) (by kernel_rfl)
end Go.Av

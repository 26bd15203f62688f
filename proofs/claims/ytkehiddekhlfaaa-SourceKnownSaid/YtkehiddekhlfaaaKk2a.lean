/- Known calls, stage 2. Printed by memogen.py. -/
import Derived.Test.YtkehiddekhlfaaaKk1T
noncomputable section
namespace Go.Av
open Go Go.Proofs

def e7 : List DV × AV := ([(.str [108, 111, 111, 107, 97, 104, 101, 97, 100, 32, 50, 59, 32, 116, 111, 107, 101, 110, 32, 65, 59, 32, 115, 101, 112, 97, 114, 97, 116, 111, 114, 32, 99, 59, 32, 115, 116, 97, 114, 116, 32, 83, 59, 32, 83, 32, 61, 32, 59])], (.tup [(.d (.agg [(.int .i64 0), .nilsl, (.str []), (.str []), .nilsl])), (.d (.agg [(.int .i64 12), (.int .i64 19)]))]))
theorem k7 : KnownCall Try.prog 7 e7.1 e7.2 := knownF T1_ok Et_ok (by kernel_rfl) Ft_ok (k := 100000) (n := 60) (by kernel_rfl)
def e10 : List DV × AV := ([(.str [108, 111, 111, 107, 97, 104, 101, 97, 100, 32, 50, 59, 32, 116, 111, 107, 101, 110, 32, 97, 44, 32, 97, 59, 32, 115, 101, 112, 97, 114, 97, 116, 111, 114, 32, 99, 59, 32, 115, 116, 97, 114, 116, 32, 83, 59, 32, 83, 32, 61, 32, 59])], (.tup [(.d (.agg [(.int .i64 0), .nilsl, (.str []), (.str []), .nilsl])), (.d (.agg [(.int .i64 8), (.int .i64 22)]))]))
theorem k10 : KnownCall Try.prog 7 e10.1 e10.2 := knownF T1_ok Et_ok (by kernel_rfl) Ft_ok (k := 100000) (n := 60) (by kernel_rfl)
def e13 : List DV × AV := ([(.str [108, 111, 111, 107, 97, 104, 101, 97, 100, 32, 50, 59, 32, 116, 111, 107, 101, 110, 32, 97, 44, 32, 98, 59, 32, 115, 101, 112, 97, 114, 97, 116, 111, 114, 32, 97, 59, 32, 115, 116, 97, 114, 116, 32, 83, 59, 32, 83, 32, 61, 32, 59])], (.tup [(.d (.agg [(.int .i64 0), .nilsl, (.str []), (.str []), .nilsl])), (.d (.agg [(.int .i64 8), (.int .i64 35)]))]))
theorem k13 : KnownCall Try.prog 7 e13.1 e13.2 := knownF T1_ok Et_ok (by kernel_rfl) Ft_ok (k := 100000) (n := 60) (by kernel_rfl)
def e17 : List DV × AV := ([(.str [108, 111, 111, 107, 97, 104, 101, 97, 100, 32, 50, 59, 32, 116, 111, 107, 101, 110, 32, 97, 44, 32, 98, 59, 32, 115, 101, 112, 97, 114, 97, 116, 111, 114, 32, 99, 59, 32, 115, 116, 97, 114, 116, 32, 84, 59, 32, 83, 32, 61, 32, 97, 32, 83, 59])], (.tup [(.d (.agg [(.int .i64 0), .nilsl, (.str []), (.str []), .nilsl])), (.d (.agg [(.int .i64 7), (.int .i64 44)]))]))
theorem k17 : KnownCall Try.prog 7 e17.1 e17.2 := knownF T1_ok Et_ok (by kernel_rfl) Ft_ok (k := 100000) (n := 60) (by kernel_rfl)
def e19 : List DV × AV := ([(.str [108, 111, 111, 107, 97, 104, 101, 97, 100, 32, 50, 59, 32, 116, 111, 107, 101, 110, 32, 97, 44, 32, 98, 59, 32, 115, 101, 112, 97, 114, 97, 116, 111, 114, 32, 99, 59, 32, 115, 116, 97, 114, 116, 32, 83, 59, 32, 83, 32, 61, 32, 97, 32, 99, 59])], (.tup [(.d (.agg [(.int .i64 0), .nilsl, (.str []), (.str []), .nilsl])), (.d (.agg [(.int .i64 14), (.int .i64 53)]))]))
theorem k19 : KnownCall Try.prog 7 e19.1 e19.2 := knownF T1_ok Et_ok (by kernel_rfl) Ft_ok (k := 100000) (n := 60) (by kernel_rfl)
def e21 : List DV × AV := ([(.str [108, 111, 111, 107, 97, 104, 101, 97, 100, 32, 50, 59, 32, 116, 111, 107, 101, 110, 32, 97, 44, 32, 98, 59, 32, 115, 101, 112, 97, 114, 97, 116, 111, 114, 32, 99, 59, 32, 115, 116, 97, 114, 116, 32, 83, 59, 32, 83, 32, 61, 32, 100, 59])], (.tup [(.d (.agg [(.int .i64 0), .nilsl, (.str []), (.str []), .nilsl])), (.d (.agg [(.int .i64 7), (.int .i64 51)]))]))
theorem k21 : KnownCall Try.prog 7 e21.1 e21.2 := knownF T1_ok Et_ok (by kernel_rfl) Ft_ok (k := 100000) (n := 60) (by kernel_rfl)
def e23 : List DV × AV := ([(.str [108, 111, 111, 107, 97, 104, 101, 97, 100, 32, 50, 59, 32, 116, 111, 107, 101, 110, 32, 97, 44, 32, 98, 59, 32, 115, 101, 112, 97, 114, 97, 116, 111, 114, 32, 99, 59, 32, 115, 116, 97, 114, 116, 32, 83, 59, 32, 83, 32, 61, 32, 97, 32, 83, 32, 98, 32, 98, 32, 98, 32, 98, 32, 98, 59])], (.tup [(.d (.agg [(.int .i64 0), .nilsl, (.str []), (.str []), .nilsl])), (.d (.agg [(.int .i64 6), (.int .i64 63)]))]))
theorem k23 : KnownCall Try.prog 7 e23.1 e23.2 := knownF T1_ok Et_ok (by kernel_rfl) Ft_ok (k := 100000) (n := 60) (by kernel_rfl)
def e24 : List DV × AV := ([(.agg [(.int .i64 2), (.sl 1 [(.str [97]), (.str [98])]), (.str [99]), (.str [83]), (.sl 2 [(.agg [(.str [83]), (.sl 1 [(.sl 1 [(.str [97]), (.str [83])]), (.sl 1 [(.str [98])]), .nilsl])])])])], (.d (.int .i64 0)))
theorem k24 : KnownCall Try.prog 9 e24.1 e24.2 := knownF T1_ok Et_ok (by kernel_rfl) Ft_ok (k := 100000) (n := 60) (by kernel_rfl)
end Go.Av

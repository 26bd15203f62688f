/-
  Parts of the way to the law, joined. Conditions stand at each.
-/
import Derived.Test.YtbbdpddeabojgaaTc2
import Derived.Test.YtbbdpddeabojgaaRows
import Derived.Test.YtbbdpddeabojgaaTc3
set_option linter.all false
namespace Go.Av
open Go Go.Proofs
def ty2 : Ty := ⟨.int .i64, 1, 8, [(.int .i64 0)]⟩
def ty3 : Ty := ⟨.int .i64, 1, 8, [(.int .i64 0)]⟩
def ty4 : Ty := ⟨.bool, 1, 1, [(.bool false)]⟩
def ty5 : Ty := ⟨.int .u8, 1, 1, [(.int .u8 0)]⟩
def ty9 : Ty := ⟨.string, 1, 16, [(.str [])]⟩
def ty22 : Ty := ⟨.slice 24, 1, 24, [.nilsl]⟩
def ty23 : Ty := ⟨.slice 3, 1, 24, [.nilsl]⟩
def ty24 : Ty := ⟨.slice 52, 1, 24, [.nilsl]⟩
def ty27 : Ty := ⟨.slice 87, 1, 24, [.nilsl]⟩
def ty29 : Ty := ⟨.struct #[⟨ "Nodes", 27, 0, false, "", "", 0⟩], 1, 24, [.nilsl]⟩
def ty30 : Ty := ⟨.int .i64, 1, 8, [(.int .i64 0)]⟩
def ty39 : Ty := ⟨.struct #[⟨ "K", 3, 0, false, "", "", 0⟩, ⟨ "Terms", 3, 1, false, "", "", 8⟩, ⟨ "Prods", 3, 2, false, "", "", 16⟩, ⟨ "L", 23, 3, false, "", "", 24⟩, ⟨ "End", 4, 4, false, "", "", 48⟩], 5, 56, [(.int .i64 0), (.int .i64 0), (.int .i64 0), .nilsl, (.bool false)]⟩
def ty50 : Ty := ⟨.array 4 3, 4, 32, [(.int .i64 0), (.int .i64 0), (.int .i64 0), (.int .i64 0)]⟩
def ty52 : Ty := ⟨.struct #[⟨ "N", 3, 0, false, "", "", 0⟩, ⟨ "S", 50, 1, false, "", "", 8⟩], 5, 40, [(.int .i64 0), (.int .i64 0), (.int .i64 0), (.int .i64 0), (.int .i64 0)]⟩
def ty77 : Ty := ⟨.pointer 82, 1, 8, [.nilptr]⟩
def ty80 : Ty := ⟨.map 140 3, 1, 8, [.nilmap]⟩
def ty82 : Ty := ⟨.struct #[⟨ "Trie", 29, 0, true, "", "", 0⟩, ⟨ "next", 80, 1, false, "", "stenotype/trie", 24⟩], 2, 32, [.nilsl, .nilmap]⟩
def ty85 : Ty := ⟨.array 9 3, 9, 72, [(.int .i64 0), (.int .i64 0), (.int .i64 0), (.int .i64 0), (.int .i64 0), (.int .i64 0), (.int .i64 0), (.int .i64 0), (.int .i64 0)]⟩
def ty87 : Ty := ⟨.struct #[⟨ "Next", 85, 0, false, "", "", 0⟩, ⟨ "Prod", 3, 9, false, "", "", 72⟩], 10, 80, [(.int .i64 0), (.int .i64 0), (.int .i64 0), (.int .i64 0), (.int .i64 0), (.int .i64 0), (.int .i64 0), (.int .i64 0), (.int .i64 0), (.int .i64 0)]⟩
def ty90 : Ty := ⟨.slice 94, 1, 24, [.nilsl]⟩
def ty94 : Ty := ⟨.struct #[⟨ "look", 52, 0, false, "", "stenotype/stenotyperef18", 0⟩, ⟨ "prod", 3, 5, false, "", "stenotype/stenotyperef18", 40⟩], 6, 48, [(.int .i64 0), (.int .i64 0), (.int .i64 0), (.int .i64 0), (.int .i64 0), (.int .i64 0)]⟩
def ty96 : Ty := ⟨.func #[3] #[4] false, 1, 8, [.nilfunc]⟩
def ty97 : Ty := ⟨.func #[133] #[] false, 1, 8, [.nilfunc]⟩
def ty98 : Ty := ⟨.func #[133] #[] false, 1, 8, [.nilfunc]⟩
def ty101 : Ty := ⟨.struct #[⟨ "look", 52, 0, false, "", "stenotype/trie", 0⟩, ⟨ "prod", 3, 5, false, "", "stenotype/trie", 40⟩], 6, 48, [(.int .i64 0), (.int .i64 0), (.int .i64 0), (.int .i64 0), (.int .i64 0), (.int .i64 0)]⟩
def ty103 : Ty := ⟨.func #[87, 87] #[4] false, 1, 8, [.nilfunc]⟩
def ty109 : Ty := ⟨.func #[136] #[] false, 1, 8, [.nilfunc]⟩
def ty110 : Ty := ⟨.func #[136] #[] false, 1, 8, [.nilfunc]⟩
def ty120 : Ty := ⟨.func #[52, 52] #[3] false, 1, 8, [.nilfunc]⟩
def ty121 : Ty := ⟨.func #[4, 4] #[4] false, 1, 8, [.nilfunc]⟩
def ty125 : Ty := ⟨.func #[77, 3, 3] #[3] false, 1, 8, [.nilfunc]⟩
def ty129 : Ty := ⟨.array 24 24, 24, 576, [.nilsl, .nilsl, .nilsl, .nilsl, .nilsl, .nilsl, .nilsl, .nilsl, .nilsl, .nilsl, .nilsl, .nilsl, .nilsl, .nilsl, .nilsl, .nilsl, .nilsl, .nilsl, .nilsl, .nilsl, .nilsl, .nilsl, .nilsl, .nilsl]⟩
def ty133 : Ty := ⟨.func #[101] #[4] false, 1, 8, [.nilfunc]⟩
def ty134 : Ty := ⟨.map 52 3, 1, 8, [.nilmap]⟩
def ty136 : Ty := ⟨.func #[52] #[4] false, 1, 8, [.nilfunc]⟩
def ty140 : Ty := ⟨.struct #[⟨ "node", 3, 0, false, "", "stenotype/trie", 0⟩, ⟨ "by", 3, 1, false, "", "stenotype/trie", 8⟩], 2, 16, [(.int .i64 0), (.int .i64 0)]⟩
def ty144 : Ty := ⟨.int .u64, 1, 8, [(.int .u64 0)]⟩
def ty149 : Ty := ⟨.int .i64, 1, 8, [(.int .i64 0)]⟩
def ty156 : Ty := ⟨.int .u32, 1, 4, [(.int .u32 0)]⟩
def ty158 : Ty := ⟨.int .u64, 1, 8, [(.int .u64 0)]⟩
def ty159 : Ty := ⟨.int .u64, 1, 8, [(.int .u64 0)]⟩
def ty163 : Ty := ⟨.pointer 3, 1, 8, [.nilptr]⟩
def ty165 : Ty := ⟨.pointer 159, 1, 8, [.nilptr]⟩
noncomputable def Et : PT Ty := (.node (.node (.node (.node (.node (.node .nil none (.node (.node .nil (some ty159) .nil) none .nil)) none .nil) none (.node (.node .nil (some ty39) (.node .nil (some ty103) .nil)) (some ty23) (.node (.node .nil (some ty87) .nil) none .nil))) (some ty3) (.node (.node (.node .nil none (.node (.node .nil (some ty163) .nil) none .nil)) none .nil) none (.node .nil (some ty27) .nil))) none (.node (.node (.node (.node (.node (.node .nil (some ty129) .nil) none .nil) none (.node .nil (some ty97) .nil)) none .nil) (some ty9) (.node .nil none (.node .nil none (.node .nil (some ty121) .nil)))) (some ty5) (.node (.node (.node (.node (.node .nil (some ty133) .nil) none .nil) none (.node (.node .nil (some ty165) .nil) (some ty101) .nil)) none (.node (.node (.node .nil (some ty149) .nil) (some ty85) .nil) none .nil)) none (.node (.node (.node .nil (some ty77) .nil) none (.node .nil (some ty109) .nil)) (some ty29) (.node .nil none (.node .nil (some ty125) .nil)))))) none (.node (.node (.node (.node (.node .nil none (.node .nil (some ty96) .nil)) none (.node (.node (.node .nil (some ty144) .nil) (some ty80) .nil) none .nil)) none (.node (.node (.node (.node .nil (some ty136) .nil) none .nil) none .nil) (some ty24) (.node .nil none (.node .nil (some ty120) .nil)))) (some ty4) (.node (.node .nil none (.node .nil (some ty52) .nil)) none (.node (.node (.node (.node .nil (some ty140) .nil) none .nil) none .nil) none (.node (.node (.node .nil (some ty156) .nil) none .nil) none .nil)))) (some ty2) (.node (.node (.node (.node .nil none (.node .nil (some ty98) .nil)) none (.node (.node .nil (some ty82) .nil) (some ty50) .nil)) none (.node .nil none (.node (.node .nil (some ty90) .nil) none .nil))) none (.node (.node (.node (.node (.node .nil (some ty134) .nil) none .nil) none .nil) (some ty22) .nil) none (.node (.node .nil none (.node .nil (some ty110) .nil)) (some ty30) (.node (.node (.node .nil (some ty158) .nil) (some ty94) .nil) none .nil))))))
noncomputable def Ft : PT FnI := (.node (.node (.node (.node (.node (.node (.node (.node .nil (some (mkFn Try.f127 [])) .nil) (some (mkFn Try.f63 [])) .nil) (some (mkFn Try.f31 [26, 39, 55, 62, 67])) (.node .nil (some (mkFn Try.f95 [30])) .nil)) (some (mkFn Try.f15 [2, 3])) (.node (.node .nil (some (mkFn Try.f79 [4, 5])) .nil) (some (mkFn Try.f47 [])) (.node .nil (some (mkFn Try.f111 [2])) .nil))) (some (mkFn Try.f7 [])) (.node (.node (.node .nil (some (mkFn Try.f71 [])) .nil) (some (mkFn Try.f39 [])) (.node .nil (some (mkFn Try.f103 [2, 3])) .nil)) (some (mkFn Try.f23 [131114, 6, 7, 48])) (.node (.node .nil (some (mkFn Try.f87 [])) .nil) (some (mkFn Try.f55 [65538, 200000])) (.node .nil (some (mkFn Try.f119 [])) .nil)))) (some (mkFn Try.f3 [62])) (.node (.node (.node (.node (.node .nil (some (mkFn Try.f131 [])) .nil) (some (mkFn Try.f67 [])) .nil) (some (mkFn Try.f35 [])) (.node .nil (some (mkFn Try.f99 [])) .nil)) (some (mkFn Try.f19 [])) (.node (.node .nil (some (mkFn Try.f83 [58])) .nil) (some (mkFn Try.f51 [5, 7, 9, 11, 13, 14, 15])) (.node .nil (some (mkFn Try.f115 [2, 3])) .nil))) (some (mkFn Try.f11 [15, 26])) (.node (.node (.node .nil (some (mkFn Try.f75 [])) .nil) (some (mkFn Try.f43 [46])) (.node .nil (some (mkFn Try.f107 [])) .nil)) (some (mkFn Try.f27 [2, 3])) (.node (.node .nil (some (mkFn Try.f91 [2, 3, 10])) .nil) (some (mkFn Try.f59 [6, 7, 54, 67, 71])) (.node .nil (some (mkFn Try.f123 [])) .nil))))) none (.node (.node (.node (.node (.node (.node .nil (some (mkFn Try.f129 [])) .nil) (some (mkFn Try.f65 [5, 6, 7, 8, 9])) .nil) (some (mkFn Try.f33 [4, 6, 9, 11, 21, 23, 25, 30, 32, 34, 41, 43, 45, 47, 49, 51, 53, 55, 57])) (.node .nil (some (mkFn Try.f97 [])) .nil)) (some (mkFn Try.f17 [1])) (.node (.node .nil (some (mkFn Try.f81 [])) .nil) (some (mkFn Try.f49 [])) (.node .nil (some (mkFn Try.f113 [2, 3])) .nil))) (some (mkFn Try.f9 [74, 84, 179, 200])) (.node (.node (.node .nil (some (mkFn Try.f73 [65557, 65558])) .nil) (some (mkFn Try.f41 [])) (.node .nil (some (mkFn Try.f105 [])) .nil)) (some (mkFn Try.f25 [5, 29, 34])) (.node (.node .nil (some (mkFn Try.f89 [2])) .nil) (some (mkFn Try.f57 [])) (.node .nil (some (mkFn Try.f121 [])) .nil)))) (some (mkFn Try.f5 [67, 167])) (.node (.node (.node (.node .nil (some (mkFn Try.f69 [])) .nil) (some (mkFn Try.f37 [15, 25])) (.node .nil (some (mkFn Try.f101 [])) .nil)) (some (mkFn Try.f21 [7])) (.node (.node .nil (some (mkFn Try.f85 [])) .nil) (some (mkFn Try.f53 [])) (.node .nil (some (mkFn Try.f117 [])) .nil))) (some (mkFn Try.f13 [])) (.node (.node (.node .nil (some (mkFn Try.f77 [21])) .nil) (some (mkFn Try.f45 [12])) (.node .nil (some (mkFn Try.f109 [])) .nil)) (some (mkFn Try.f29 [35, 41, 47, 53, 59, 68, 70, 72, 74, 79, 111, 113, 114, 116, 117, 118, 123, 124, 125, 130, 132, 133, 135, 136, 137])) (.node (.node .nil (some (mkFn Try.f93 [2])) .nil) (some (mkFn Try.f61 [1])) (.node .nil (some (mkFn Try.f125 [])) .nil)))))) none (.node (.node (.node (.node (.node (.node (.node .nil (some (mkFn Try.f128 [])) .nil) (some (mkFn Try.f64 [])) .nil) (some (mkFn Try.f32 [])) (.node .nil (some (mkFn Try.f96 [4, 6, 48, 51])) .nil)) (some (mkFn Try.f16 [1])) (.node (.node .nil (some (mkFn Try.f80 [])) .nil) (some (mkFn Try.f48 [])) (.node .nil (some (mkFn Try.f112 [1])) .nil))) (some (mkFn Try.f8 [131187, 131189, 62, 69, 76, 84, 109])) (.node (.node (.node .nil (some (mkFn Try.f72 [])) .nil) (some (mkFn Try.f40 [11, 23])) (.node .nil (some (mkFn Try.f104 [4, 5])) .nil)) (some (mkFn Try.f24 [7, 76, 83])) (.node (.node .nil (some (mkFn Try.f88 [])) .nil) (some (mkFn Try.f56 [6])) (.node .nil (some (mkFn Try.f120 [])) .nil)))) (some (mkFn Try.f4 [3, 4, 5])) (.node (.node (.node (.node .nil (some (mkFn Try.f68 [2, 3])) .nil) (some (mkFn Try.f36 [])) (.node .nil (some (mkFn Try.f100 [])) .nil)) (some (mkFn Try.f20 [1])) (.node (.node .nil (some (mkFn Try.f84 [2, 3])) .nil) (some (mkFn Try.f52 [3])) (.node .nil (some (mkFn Try.f116 [])) .nil))) (some (mkFn Try.f12 [])) (.node (.node (.node .nil (some (mkFn Try.f76 [])) .nil) (some (mkFn Try.f44 [])) (.node .nil (some (mkFn Try.f108 [2, 3])) .nil)) (some (mkFn Try.f28 [2, 3])) (.node (.node .nil (some (mkFn Try.f92 [37])) .nil) (some (mkFn Try.f60 [])) (.node .nil (some (mkFn Try.f124 [])) .nil))))) none (.node (.node (.node (.node (.node (.node .nil (some (mkFn Try.f130 [])) .nil) (some (mkFn Try.f66 [])) .nil) (some (mkFn Try.f34 [])) (.node .nil (some (mkFn Try.f98 [])) .nil)) (some (mkFn Try.f18 [])) (.node (.node .nil (some (mkFn Try.f82 [])) .nil) (some (mkFn Try.f50 [])) (.node .nil (some (mkFn Try.f114 [4, 5])) .nil))) (some (mkFn Try.f10 [])) (.node (.node (.node .nil (some (mkFn Try.f74 [3, 4, 5])) .nil) (some (mkFn Try.f42 [19, 21, 23, 25, 27, 32, 53, 55, 57, 67, 69, 80, 85, 87, 89, 95, 97, 99, 101, 103, 105, 107, 109, 114, 116, 120, 122, 124, 126, 139, 141, 143, 160, 162, 164, 183])) (.node .nil (some (mkFn Try.f106 [])) .nil)) (some (mkFn Try.f26 [5, 41, 77])) (.node (.node .nil (some (mkFn Try.f90 [1])) .nil) (some (mkFn Try.f58 [14])) (.node .nil (some (mkFn Try.f122 [])) .nil)))) (some (mkFn Try.f6 [83, 94])) (.node (.node (.node (.node .nil (some (mkFn Try.f70 [])) .nil) (some (mkFn Try.f38 [72])) (.node .nil (some (mkFn Try.f102 [131100, 4, 5, 11])) .nil)) (some (mkFn Try.f22 [7, 61, 68, 72])) (.node (.node .nil (some (mkFn Try.f86 [])) .nil) (some (mkFn Try.f54 [])) (.node .nil (some (mkFn Try.f118 [])) .nil))) (some (mkFn Try.f14 [])) (.node (.node (.node .nil (some (mkFn Try.f78 [34, 44])) .nil) (some (mkFn Try.f46 [12])) (.node .nil (some (mkFn Try.f110 [])) .nil)) (some (mkFn Try.f30 [])) (.node (.node .nil (some (mkFn Try.f94 [2, 3])) .nil) (some (mkFn Try.f62 [])) (.node .nil (some (mkFn Try.f126 [])) .nil)))))))
theorem Et_ok : EnvOK Try.prog Et := envOK_of ⟨trivial, ⟨trivial, ⟨⟨by kernel_rfl, by kernel_rfl⟩, ⟨trivial, ⟨trivial, ⟨trivial, trivial, ⟨trivial, ⟨⟨by kernel_rfl, by kernel_rfl⟩, trivial, trivial⟩, trivial⟩⟩, trivial⟩, ⟨⟨by kernel_rfl, by kernel_rfl⟩, ⟨⟨by kernel_rfl, by kernel_rfl⟩, trivial, ⟨⟨by kernel_rfl, by kernel_rfl⟩, trivial, trivial⟩⟩, ⟨trivial, ⟨⟨by kernel_rfl, by kernel_rfl⟩, trivial, trivial⟩, trivial⟩⟩⟩, ⟨trivial, ⟨trivial, ⟨trivial, trivial, ⟨trivial, ⟨⟨by kernel_rfl, by kernel_rfl⟩, trivial, trivial⟩, trivial⟩⟩, trivial⟩, ⟨⟨by kernel_rfl, by kernel_rfl⟩, trivial, trivial⟩⟩⟩, ⟨⟨by kernel_rfl, by kernel_rfl⟩, ⟨⟨by kernel_rfl, by kernel_rfl⟩, ⟨trivial, ⟨trivial, ⟨trivial, ⟨⟨by kernel_rfl, by kernel_rfl⟩, trivial, trivial⟩, trivial⟩, ⟨⟨by kernel_rfl, by kernel_rfl⟩, trivial, trivial⟩⟩, trivial⟩, ⟨trivial, trivial, ⟨trivial, trivial, ⟨⟨by kernel_rfl, by kernel_rfl⟩, trivial, trivial⟩⟩⟩⟩, ⟨trivial, ⟨trivial, ⟨trivial, ⟨trivial, ⟨⟨by kernel_rfl, by kernel_rfl⟩, trivial, trivial⟩, trivial⟩, ⟨⟨by kernel_rfl, by kernel_rfl⟩, ⟨⟨by kernel_rfl, by kernel_rfl⟩, trivial, trivial⟩, trivial⟩⟩, ⟨trivial, ⟨⟨by kernel_rfl, by kernel_rfl⟩, ⟨⟨by kernel_rfl, by kernel_rfl⟩, trivial, trivial⟩, trivial⟩, trivial⟩⟩, ⟨⟨by kernel_rfl, by kernel_rfl⟩, ⟨trivial, ⟨⟨by kernel_rfl, by kernel_rfl⟩, trivial, trivial⟩, ⟨⟨by kernel_rfl, by kernel_rfl⟩, trivial, trivial⟩⟩, ⟨trivial, trivial, ⟨⟨by kernel_rfl, by kernel_rfl⟩, trivial, trivial⟩⟩⟩⟩⟩⟩, ⟨⟨by kernel_rfl, by kernel_rfl⟩, ⟨⟨by kernel_rfl, by kernel_rfl⟩, ⟨trivial, ⟨trivial, ⟨trivial, trivial, ⟨⟨by kernel_rfl, by kernel_rfl⟩, trivial, trivial⟩⟩, ⟨trivial, ⟨⟨by kernel_rfl, by kernel_rfl⟩, ⟨⟨by kernel_rfl, by kernel_rfl⟩, trivial, trivial⟩, trivial⟩, trivial⟩⟩, ⟨⟨by kernel_rfl, by kernel_rfl⟩, ⟨trivial, ⟨trivial, ⟨⟨by kernel_rfl, by kernel_rfl⟩, trivial, trivial⟩, trivial⟩, trivial⟩, ⟨trivial, trivial, ⟨⟨by kernel_rfl, by kernel_rfl⟩, trivial, trivial⟩⟩⟩⟩, ⟨trivial, ⟨trivial, trivial, ⟨⟨by kernel_rfl, by kernel_rfl⟩, trivial, trivial⟩⟩, ⟨trivial, ⟨trivial, ⟨trivial, ⟨⟨by kernel_rfl, by kernel_rfl⟩, trivial, trivial⟩, trivial⟩, trivial⟩, ⟨trivial, ⟨trivial, ⟨⟨by kernel_rfl, by kernel_rfl⟩, trivial, trivial⟩, trivial⟩, trivial⟩⟩⟩⟩, ⟨trivial, ⟨trivial, ⟨trivial, ⟨trivial, trivial, ⟨⟨by kernel_rfl, by kernel_rfl⟩, trivial, trivial⟩⟩, ⟨⟨by kernel_rfl, by kernel_rfl⟩, ⟨⟨by kernel_rfl, by kernel_rfl⟩, trivial, trivial⟩, trivial⟩⟩, ⟨trivial, trivial, ⟨trivial, ⟨⟨by kernel_rfl, by kernel_rfl⟩, trivial, trivial⟩, trivial⟩⟩⟩, ⟨trivial, ⟨⟨by kernel_rfl, by kernel_rfl⟩, ⟨trivial, ⟨trivial, ⟨⟨by kernel_rfl, by kernel_rfl⟩, trivial, trivial⟩, trivial⟩, trivial⟩, trivial⟩, ⟨⟨by kernel_rfl, by kernel_rfl⟩, ⟨trivial, trivial, ⟨⟨by kernel_rfl, by kernel_rfl⟩, trivial, trivial⟩⟩, ⟨trivial, ⟨⟨by kernel_rfl, by kernel_rfl⟩, ⟨⟨by kernel_rfl, by kernel_rfl⟩, trivial, trivial⟩, trivial⟩, trivial⟩⟩⟩⟩⟩⟩
theorem Ft_ok : FnsOK Try.prog Ft.get? := fnsOK_of ⟨trivial, ⟨trivial, ⟨(fnAt Try.func3 (by kernel_rfl) (by kernel_rfl)), ⟨(fnAt Try.func7 (by kernel_rfl) (by kernel_rfl)), ⟨(fnAt Try.func15 (by kernel_rfl) (by kernel_rfl)), ⟨(fnAt Try.func31 (by kernel_rfl) (by kernel_rfl)), ⟨(fnAt Try.func63 (by kernel_rfl) (by kernel_rfl)), ⟨(fnAt Try.func127 (by kernel_rfl) (by kernel_rfl)), trivial, trivial⟩, trivial⟩, ⟨(fnAt Try.func95 (by kernel_rfl) (by kernel_rfl)), trivial, trivial⟩⟩, ⟨(fnAt Try.func47 (by kernel_rfl) (by kernel_rfl)), ⟨(fnAt Try.func79 (by kernel_rfl) (by kernel_rfl)), trivial, trivial⟩, ⟨(fnAt Try.func111 (by kernel_rfl) (by kernel_rfl)), trivial, trivial⟩⟩⟩, ⟨(fnAt Try.func23 (by kernel_rfl) (by kernel_rfl)), ⟨(fnAt Try.func39 (by kernel_rfl) (by kernel_rfl)), ⟨(fnAt Try.func71 (by kernel_rfl) (by kernel_rfl)), trivial, trivial⟩, ⟨(fnAt Try.func103 (by kernel_rfl) (by kernel_rfl)), trivial, trivial⟩⟩, ⟨(fnAt Try.func55 (by kernel_rfl) (by kernel_rfl)), ⟨(fnAt Try.func87 (by kernel_rfl) (by kernel_rfl)), trivial, trivial⟩, ⟨(fnAt Try.func119 (by kernel_rfl) (by kernel_rfl)), trivial, trivial⟩⟩⟩⟩, ⟨(fnAt Try.func11 (by kernel_rfl) (by kernel_rfl)), ⟨(fnAt Try.func19 (by kernel_rfl) (by kernel_rfl)), ⟨(fnAt Try.func35 (by kernel_rfl) (by kernel_rfl)), ⟨(fnAt Try.func67 (by kernel_rfl) (by kernel_rfl)), ⟨(fnAt Try.func131 (by kernel_rfl) (by kernel_rfl)), trivial, trivial⟩, trivial⟩, ⟨(fnAt Try.func99 (by kernel_rfl) (by kernel_rfl)), trivial, trivial⟩⟩, ⟨(fnAt Try.func51 (by kernel_rfl) (by kernel_rfl)), ⟨(fnAt Try.func83 (by kernel_rfl) (by kernel_rfl)), trivial, trivial⟩, ⟨(fnAt Try.func115 (by kernel_rfl) (by kernel_rfl)), trivial, trivial⟩⟩⟩, ⟨(fnAt Try.func27 (by kernel_rfl) (by kernel_rfl)), ⟨(fnAt Try.func43 (by kernel_rfl) (by kernel_rfl)), ⟨(fnAt Try.func75 (by kernel_rfl) (by kernel_rfl)), trivial, trivial⟩, ⟨(fnAt Try.func107 (by kernel_rfl) (by kernel_rfl)), trivial, trivial⟩⟩, ⟨(fnAt Try.func59 (by kernel_rfl) (by kernel_rfl)), ⟨(fnAt Try.func91 (by kernel_rfl) (by kernel_rfl)), trivial, trivial⟩, ⟨(fnAt Try.func123 (by kernel_rfl) (by kernel_rfl)), trivial, trivial⟩⟩⟩⟩⟩, ⟨(fnAt Try.func5 (by kernel_rfl) (by kernel_rfl)), ⟨(fnAt Try.func9 (by kernel_rfl) (by kernel_rfl)), ⟨(fnAt Try.func17 (by kernel_rfl) (by kernel_rfl)), ⟨(fnAt Try.func33 (by kernel_rfl) (by kernel_rfl)), ⟨(fnAt Try.func65 (by kernel_rfl) (by kernel_rfl)), ⟨(fnAt Try.func129 (by kernel_rfl) (by kernel_rfl)), trivial, trivial⟩, trivial⟩, ⟨(fnAt Try.func97 (by kernel_rfl) (by kernel_rfl)), trivial, trivial⟩⟩, ⟨(fnAt Try.func49 (by kernel_rfl) (by kernel_rfl)), ⟨(fnAt Try.func81 (by kernel_rfl) (by kernel_rfl)), trivial, trivial⟩, ⟨(fnAt Try.func113 (by kernel_rfl) (by kernel_rfl)), trivial, trivial⟩⟩⟩, ⟨(fnAt Try.func25 (by kernel_rfl) (by kernel_rfl)), ⟨(fnAt Try.func41 (by kernel_rfl) (by kernel_rfl)), ⟨(fnAt Try.func73 (by kernel_rfl) (by kernel_rfl)), trivial, trivial⟩, ⟨(fnAt Try.func105 (by kernel_rfl) (by kernel_rfl)), trivial, trivial⟩⟩, ⟨(fnAt Try.func57 (by kernel_rfl) (by kernel_rfl)), ⟨(fnAt Try.func89 (by kernel_rfl) (by kernel_rfl)), trivial, trivial⟩, ⟨(fnAt Try.func121 (by kernel_rfl) (by kernel_rfl)), trivial, trivial⟩⟩⟩⟩, ⟨(fnAt Try.func13 (by kernel_rfl) (by kernel_rfl)), ⟨(fnAt Try.func21 (by kernel_rfl) (by kernel_rfl)), ⟨(fnAt Try.func37 (by kernel_rfl) (by kernel_rfl)), ⟨(fnAt Try.func69 (by kernel_rfl) (by kernel_rfl)), trivial, trivial⟩, ⟨(fnAt Try.func101 (by kernel_rfl) (by kernel_rfl)), trivial, trivial⟩⟩, ⟨(fnAt Try.func53 (by kernel_rfl) (by kernel_rfl)), ⟨(fnAt Try.func85 (by kernel_rfl) (by kernel_rfl)), trivial, trivial⟩, ⟨(fnAt Try.func117 (by kernel_rfl) (by kernel_rfl)), trivial, trivial⟩⟩⟩, ⟨(fnAt Try.func29 (by kernel_rfl) (by kernel_rfl)), ⟨(fnAt Try.func45 (by kernel_rfl) (by kernel_rfl)), ⟨(fnAt Try.func77 (by kernel_rfl) (by kernel_rfl)), trivial, trivial⟩, ⟨(fnAt Try.func109 (by kernel_rfl) (by kernel_rfl)), trivial, trivial⟩⟩, ⟨(fnAt Try.func61 (by kernel_rfl) (by kernel_rfl)), ⟨(fnAt Try.func93 (by kernel_rfl) (by kernel_rfl)), trivial, trivial⟩, ⟨(fnAt Try.func125 (by kernel_rfl) (by kernel_rfl)), trivial, trivial⟩⟩⟩⟩⟩⟩, ⟨trivial, ⟨(fnAt Try.func4 (by kernel_rfl) (by kernel_rfl)), ⟨(fnAt Try.func8 (by kernel_rfl) (by kernel_rfl)), ⟨(fnAt Try.func16 (by kernel_rfl) (by kernel_rfl)), ⟨(fnAt Try.func32 (by kernel_rfl) (by kernel_rfl)), ⟨(fnAt Try.func64 (by kernel_rfl) (by kernel_rfl)), ⟨(fnAt Try.func128 (by kernel_rfl) (by kernel_rfl)), trivial, trivial⟩, trivial⟩, ⟨(fnAt Try.func96 (by kernel_rfl) (by kernel_rfl)), trivial, trivial⟩⟩, ⟨(fnAt Try.func48 (by kernel_rfl) (by kernel_rfl)), ⟨(fnAt Try.func80 (by kernel_rfl) (by kernel_rfl)), trivial, trivial⟩, ⟨(fnAt Try.func112 (by kernel_rfl) (by kernel_rfl)), trivial, trivial⟩⟩⟩, ⟨(fnAt Try.func24 (by kernel_rfl) (by kernel_rfl)), ⟨(fnAt Try.func40 (by kernel_rfl) (by kernel_rfl)), ⟨(fnAt Try.func72 (by kernel_rfl) (by kernel_rfl)), trivial, trivial⟩, ⟨(fnAt Try.func104 (by kernel_rfl) (by kernel_rfl)), trivial, trivial⟩⟩, ⟨(fnAt Try.func56 (by kernel_rfl) (by kernel_rfl)), ⟨(fnAt Try.func88 (by kernel_rfl) (by kernel_rfl)), trivial, trivial⟩, ⟨(fnAt Try.func120 (by kernel_rfl) (by kernel_rfl)), trivial, trivial⟩⟩⟩⟩, ⟨(fnAt Try.func12 (by kernel_rfl) (by kernel_rfl)), ⟨(fnAt Try.func20 (by kernel_rfl) (by kernel_rfl)), ⟨(fnAt Try.func36 (by kernel_rfl) (by kernel_rfl)), ⟨(fnAt Try.func68 (by kernel_rfl) (by kernel_rfl)), trivial, trivial⟩, ⟨(fnAt Try.func100 (by kernel_rfl) (by kernel_rfl)), trivial, trivial⟩⟩, ⟨(fnAt Try.func52 (by kernel_rfl) (by kernel_rfl)), ⟨(fnAt Try.func84 (by kernel_rfl) (by kernel_rfl)), trivial, trivial⟩, ⟨(fnAt Try.func116 (by kernel_rfl) (by kernel_rfl)), trivial, trivial⟩⟩⟩, ⟨(fnAt Try.func28 (by kernel_rfl) (by kernel_rfl)), ⟨(fnAt Try.func44 (by kernel_rfl) (by kernel_rfl)), ⟨(fnAt Try.func76 (by kernel_rfl) (by kernel_rfl)), trivial, trivial⟩, ⟨(fnAt Try.func108 (by kernel_rfl) (by kernel_rfl)), trivial, trivial⟩⟩, ⟨(fnAt Try.func60 (by kernel_rfl) (by kernel_rfl)), ⟨(fnAt Try.func92 (by kernel_rfl) (by kernel_rfl)), trivial, trivial⟩, ⟨(fnAt Try.func124 (by kernel_rfl) (by kernel_rfl)), trivial, trivial⟩⟩⟩⟩⟩, ⟨(fnAt Try.func6 (by kernel_rfl) (by kernel_rfl)), ⟨(fnAt Try.func10 (by kernel_rfl) (by kernel_rfl)), ⟨(fnAt Try.func18 (by kernel_rfl) (by kernel_rfl)), ⟨(fnAt Try.func34 (by kernel_rfl) (by kernel_rfl)), ⟨(fnAt Try.func66 (by kernel_rfl) (by kernel_rfl)), ⟨(fnAt Try.func130 (by kernel_rfl) (by kernel_rfl)), trivial, trivial⟩, trivial⟩, ⟨(fnAt Try.func98 (by kernel_rfl) (by kernel_rfl)), trivial, trivial⟩⟩, ⟨(fnAt Try.func50 (by kernel_rfl) (by kernel_rfl)), ⟨(fnAt Try.func82 (by kernel_rfl) (by kernel_rfl)), trivial, trivial⟩, ⟨(fnAt Try.func114 (by kernel_rfl) (by kernel_rfl)), trivial, trivial⟩⟩⟩, ⟨(fnAt Try.func26 (by kernel_rfl) (by kernel_rfl)), ⟨(fnAt Try.func42 (by kernel_rfl) (by kernel_rfl)), ⟨(fnAt Try.func74 (by kernel_rfl) (by kernel_rfl)), trivial, trivial⟩, ⟨(fnAt Try.func106 (by kernel_rfl) (by kernel_rfl)), trivial, trivial⟩⟩, ⟨(fnAt Try.func58 (by kernel_rfl) (by kernel_rfl)), ⟨(fnAt Try.func90 (by kernel_rfl) (by kernel_rfl)), trivial, trivial⟩, ⟨(fnAt Try.func122 (by kernel_rfl) (by kernel_rfl)), trivial, trivial⟩⟩⟩⟩, ⟨(fnAt Try.func14 (by kernel_rfl) (by kernel_rfl)), ⟨(fnAt Try.func22 (by kernel_rfl) (by kernel_rfl)), ⟨(fnAt Try.func38 (by kernel_rfl) (by kernel_rfl)), ⟨(fnAt Try.func70 (by kernel_rfl) (by kernel_rfl)), trivial, trivial⟩, ⟨(fnAt Try.func102 (by kernel_rfl) (by kernel_rfl)), trivial, trivial⟩⟩, ⟨(fnAt Try.func54 (by kernel_rfl) (by kernel_rfl)), ⟨(fnAt Try.func86 (by kernel_rfl) (by kernel_rfl)), trivial, trivial⟩, ⟨(fnAt Try.func118 (by kernel_rfl) (by kernel_rfl)), trivial, trivial⟩⟩⟩, ⟨(fnAt Try.func30 (by kernel_rfl) (by kernel_rfl)), ⟨(fnAt Try.func46 (by kernel_rfl) (by kernel_rfl)), ⟨(fnAt Try.func78 (by kernel_rfl) (by kernel_rfl)), trivial, trivial⟩, ⟨(fnAt Try.func110 (by kernel_rfl) (by kernel_rfl)), trivial, trivial⟩⟩, ⟨(fnAt Try.func62 (by kernel_rfl) (by kernel_rfl)), ⟨(fnAt Try.func94 (by kernel_rfl) (by kernel_rfl)), trivial, trivial⟩, ⟨(fnAt Try.func126 (by kernel_rfl) (by kernel_rfl)), trivial, trivial⟩⟩⟩⟩⟩⟩⟩
end Go.Av
noncomputable section
namespace Go.Av
open Go Go.Proofs
def Fz (_ : List Nat) : Prop := True
section
variable {frz : List Nat} {nt m : Nat} {ro' : Option Nat} {K : Ex → S → Prop} {ops : Array Oper} {l : List Oper} {o : Oper} {tm tm' tm1 tm0 : PT AV} {objs objs' : List Ob} {dl : List Dl} {b : Bool} {ob : Option (List Ob)} {fl : Bool} {s s0 : S} {i : Nat} {acc : List Eff} {G : S → Prop} {P A B X Y Q : Prop} {g : FuncId} {ds : List DV} {r : AV}
theorem oXw (_ : Fz frz) {v v' : AV} (k : RunOps Try.prog nt m ro' ops l ⟨tm', objs', dl⟩ K) (hg : guardA ops (rd tm) o = some true := by rfl) (hv : evAny Et H0 frz (rd tm) objs o = some (v', ob, fl) := by rfl) (hf : fl = true := by rfl)
    (he : v' = v := by first | (conv => lhs; dsimp only) | rfl) (ho : ob.getD objs = objs' := by first | (conv => lhs; dsimp only [Option.getD]) | rfl) (hp : isPan v = false := by rfl) (ht : setD nt tm o.dst v = some tm' := by rfl) :
    RunOps Try.prog nt m ro' ops (o :: l) ⟨tm, objs, dl⟩ K := RunOps.x Et_ok hg hv hf he ho hp ht k
theorem oXn (_ : Fz frz) {v v' : AV} (k : RunOps Try.prog nt m ro' ops l ⟨tm', objs', dl⟩ K) (_ : boolOp o.op = false := by rfl) (hg : guardA ops (rd tm) o = some true := by rfl) (hv : evAny Et H0 frz (rd tm) objs o = some (v', ob, fl) := by rfl) (hf : fl = true := by rfl)
    (he : v' = v := by first | (conv => lhs; dsimp only) | rfl) (ho : ob.getD objs = objs' := by first | (conv => lhs; dsimp only [Option.getD]) | rfl) (hp : isPan v = false := by rfl) (ht : setD nt tm o.dst v = some tm' := by rfl) :
    RunOps Try.prog nt m ro' ops (o :: l) ⟨tm, objs, dl⟩ K := RunOps.x Et_ok hg hv hf he ho hp ht k
theorem eXn {v v' : AV} (k : EvD Try.prog Et frz nt ops s0 (i + 1) (acc ++ [effOf (rd tm) objs o ob]) l ⟨tm', objs', dl⟩ G) (_ : boolOp o.op = false := by rfl) (hg : guardA ops (rd tm) o = some true := by rfl) (hv : evAny Et H0 frz (rd tm) objs o = some (v', ob, fl) := by rfl) (hf : fl = true := by rfl)
    (he : v' = v := by first | (conv => lhs; dsimp only) | rfl) (ho : ob.getD objs = objs' := by first | (conv => lhs; dsimp only [Option.getD]) | rfl) (hp : isPan v = false := by rfl) (ht : setD nt tm o.dst v = some tm' := by rfl) :
    EvD Try.prog Et frz nt ops s0 i acc (o :: l) ⟨tm, objs, dl⟩ G := EvD.x hg hv hf he ho hp ht k
theorem oBw (_ : Fz frz) (k1 : b = true → RunOps Try.prog nt m ro' ops l ⟨tm1, objs', dl⟩ K) (k0 : b = false → RunOps Try.prog nt m ro' ops l ⟨tm0, objs', dl⟩ K) (hb : boolOp o.op = true := by rfl) (hg : guardA ops (rd tm) o = some true := by rfl)
    (hv : evAny Et H0 frz (rd tm) objs o = some (.d (.bool b), ob, fl) := by rfl) (hf : fl = true := by rfl) (ho : ob.getD objs = objs' := by first | (conv => lhs; dsimp only [Option.getD]) | rfl) (ht1 : setD nt tm o.dst (.d (.bool true)) = some tm1 := by rfl) (ht0 : setD nt tm o.dst (.d (.bool false)) = some tm0 := by rfl) :
    RunOps Try.prog nt m ro' ops (o :: l) ⟨tm, objs, dl⟩ K := RunOps.xb Et_ok hb hg hv hf ho ht1 ht0 k1 k0
theorem dW (_ : Fz frz) {id : Nat} (h : EvD Try.prog Et frz nt ops s 0 [] ops.toList s (fun s' => K .normal s')) : Run Try.prog nt m ro' (.region id ops true) s K := Run.draw Et_ok (by kernel_rfl) h
theorem gD {α : Type} (l : List α) (i : Nat) (d : α) : l.getD i d = l[i]?.getD d := List.getD_eq_getElem?_getD
theorem oI {v v' : AV} (k : RunOps Try.prog nt m ro' ops l ⟨tm', objs', dl⟩ K) (_ : Fz frz := by assumption) (hg : guardA ops (rd tm) o = some true := by rfl) (hv : evAny Et H0 frz (rd tm) objs o = some (v', ob, fl) := by rfl) (hf : fl = true := by first | (simp [inB] <;> fail) | (simp [inB]; omega))
    (he : v' = v := by first | (conv => lhs; dsimp only) | rfl) (ho : ob.getD objs = objs' := by first | (conv => lhs; dsimp only [Option.getD]) | rfl) (hp : isPan v = false := by rfl) (ht : setD nt tm o.dst v = some tm' := by rfl) :
    RunOps Try.prog nt m ro' ops (o :: l) ⟨tm, objs, dl⟩ K := RunOps.x Et_ok hg hv hf he ho hp ht k
theorem eI {v v' : AV} (k : EvD Try.prog Et frz nt ops s0 (i + 1) (acc ++ [effOf (rd tm) objs o ob]) l ⟨tm', objs', dl⟩ G) (hg : guardA ops (rd tm) o = some true := by rfl) (hv : evAny Et H0 frz (rd tm) objs o = some (v', ob, fl) := by rfl) (hf : fl = true := by first | (simp [inB] <;> fail) | (simp [inB]; omega))
    (he : v' = v := by first | (conv => lhs; dsimp only) | rfl) (ho : ob.getD objs = objs' := by first | (conv => lhs; dsimp only [Option.getD]) | rfl) (hp : isPan v = false := by rfl) (ht : setD nt tm o.dst v = some tm' := by rfl) :
    EvD Try.prog Et frz nt ops s0 i acc (o :: l) ⟨tm, objs, dl⟩ G := EvD.x hg hv hf he ho hp ht k
theorem ti {k : Nat} (l : List (Nat × AV)) (n : Nat) (ho : objs.take n = objs' := by rfl) (hn : Nat.ble k n = true := by rfl) (h : allTidy tm l := by repeat' (first | exact trivial | refine ⟨(Or.inl rfl), ?_⟩ | refine ⟨(Or.inr rfl), ?_⟩ | refine ⟨(Or.inl (inc_get (by kernel_rfl) (by omega))), ?_⟩ | fail))
    (hl : allQ (refA 8 n) l := by repeat' (first | exact trivial | refine ⟨rfl, ?_⟩ | fail)) (hr : objs'.all (refOb n) = true := by rfl) (hd : dl.all (refDl n) = true := by rfl) : Tidy k ⟨tm, objs, dl⟩ ⟨PT.ofList l, objs', dl⟩ := tidy_of l n ho hn h hl hr hd
theorem wkE {x y : List Ob} (h : WkObs x y := by repeat' (first | exact trivial | refine ⟨.refl, ?_⟩ | refine ⟨.gone, ?_⟩ | refine ⟨.box (by repeat' (first | exact trivial | refine ⟨.inr rfl, ?_⟩ | refine ⟨.inl rfl, ?_⟩)), ?_⟩)) : WkObs x y := h
theorem oV (k : RunOps Try.prog nt m ro' ops l ⟨tm', objs', dl⟩ K) {v v' : AV} (_ : Fz frz := by assumption) (hg : guardA ops (rd tm) o = some true := by rfl) (hv : evAny Et H0 frz (rd tm) objs o = some (v', ob, fl) := by rfl) (hf : fl = true := by rfl)
    (he : v' = v := by first | (conv => lhs; dsimp only) | rfl) (ho : ob.getD objs = objs' := by first | (conv => lhs; dsimp only [Option.getD]) | rfl) (hp : isPan v = false := by rfl) (ht : setD nt tm o.dst v = some tm' := by rfl) :
    RunOps Try.prog nt m ro' ops (o :: l) ⟨tm, objs, dl⟩ K := RunOps.x Et_ok hg hv hf he ho hp ht k
theorem kF {n : Nat} {f : Func} {ds : List DV} {r : AV} (h1 : Try.prog.funcs[n]? = some f) (l : List Nat) (h : Fz l → Run Try.prog (mkFn f l).nt 0 none (mkFn f l).body ⟨initTm 0 (ds.map .d) .nil, [], []⟩ (EndK Et (mkFn f l).results r)) (h2 : f.body.isSome = true := by kernel_rfl)
    (h3 : (f.name == "runtime.NumGoroutine") = false := by kernel_rfl) (h4 : xk l = none := by rfl) (hlen : (ds.map AV.d).length = (mkFn f l).np := by rfl) (hle : Nat.ble (mkFn f l).np (mkFn f l).nt = true := by rfl) : KnownCall Try.prog n ds r := knownE Et_ok (fnAt h1 h2 h3 h4) (h trivial) hlen hle
theorem zX (q : Q) (h : Q → P := by intro q; first | exact oXw (by assumption) q | exact eX q) : P := h q
theorem zW (q : Q) (h : Q → P := by intro q; first | exact Run.region q | exact Run.seq q | exact oXn (by assumption) q | exact oS q | exact RunOps.nil q | exact Run.skip q | exact cT q | exact cF q | exact Run.block q | exact Run.exit q | exact dW (by assumption) q | exact eXn q | exact eS q | exact eN q | (refine Run.ret ?_; first | exact rB q | exact rI q | exact rA q | exact rII q | exact rSI q | exact rT q | exact rS q)) : P := h q
theorem zS (q : Q) (h : Q → P := by intro q; first | exact Run.seq q | exact Run.region q | exact RunOps.nil q | exact Run.skip q | exact cT q | exact cF q | exact Run.block q | exact Run.exit q) : P := h q
theorem zB (x : A → X) (y : B → Y) (h : (A → X) → (B → Y) → P := by intro x y; first | exact oBw (by assumption) x y | exact eB x y) : P := h x y
def Vx (_ : AV) : Prop := True
theorem oVw (_ : Fz frz) {v v' : AV} (he : v' = v) (k : RunOps Try.prog nt m ro' ops l ⟨tm', objs', dl⟩ K) (hg : guardA ops (rd tm) o = some true := by rfl) (hv : evAny Et H0 frz (rd tm) objs o = some (v', ob, fl) := by rfl) (hf : fl = true := by rfl) (ho : ob.getD objs = objs' := by first | (conv => lhs; dsimp only [Option.getD]) | rfl) (hp : isPan v = false := by rfl) (ht : setD nt tm o.dst v = some tm' := by rfl) :
    RunOps Try.prog nt m ro' ops (o :: l) ⟨tm, objs, dl⟩ K := RunOps.x Et_ok hg hv hf he ho hp ht k
theorem eVw {v v' : AV} (he : v' = v) (k : EvD Try.prog Et frz nt ops s0 (i + 1) (acc ++ [effOf (rd tm) objs o ob]) l ⟨tm', objs', dl⟩ G) (hg : guardA ops (rd tm) o = some true := by rfl) (hv : evAny Et H0 frz (rd tm) objs o = some (v', ob, fl) := by rfl) (hf : fl = true := by rfl) (ho : ob.getD objs = objs' := by first | (conv => lhs; dsimp only [Option.getD]) | rfl) (hp : isPan v = false := by rfl) (ht : setD nt tm o.dst v = some tm' := by rfl) :
    EvD Try.prog Et frz nt ops s0 i acc (o :: l) ⟨tm, objs, dl⟩ G := EvD.x hg hv hf he ho hp ht k
theorem oIv (_ : Fz frz) {v v' : AV} (_ : Vx v) (k : RunOps Try.prog nt m ro' ops l ⟨tm', objs', dl⟩ K) (hg : guardA ops (rd tm) o = some true := by rfl) (hv : evAny Et H0 frz (rd tm) objs o = some (v', ob, fl) := by rfl) (he : v' = v) (hf : fl = true := by first | (simp [inB] <;> fail) | (simp [inB]; omega)) (ho : ob.getD objs = objs' := by first | (conv => lhs; dsimp only [Option.getD]) | rfl) (hp : isPan v = false := by rfl) (ht : setD nt tm o.dst v = some tm' := by rfl) :
    RunOps Try.prog nt m ro' ops (o :: l) ⟨tm, objs, dl⟩ K := RunOps.x Et_ok hg hv hf he ho hp ht k
theorem eIv {v v' : AV} (_ : Vx v) (k : EvD Try.prog Et frz nt ops s0 (i + 1) (acc ++ [effOf (rd tm) objs o ob]) l ⟨tm', objs', dl⟩ G) (hg : guardA ops (rd tm) o = some true := by rfl) (hv : evAny Et H0 frz (rd tm) objs o = some (v', ob, fl) := by rfl) (he : v' = v) (hf : fl = true := by first | (simp [inB] <;> fail) | (simp [inB]; omega)) (ho : ob.getD objs = objs' := by first | (conv => lhs; dsimp only [Option.getD]) | rfl) (hp : isPan v = false := by rfl) (ht : setD nt tm o.dst v = some tm' := by rfl) :
    EvD Try.prog Et frz nt ops s0 i acc (o :: l) ⟨tm, objs, dl⟩ G := EvD.x hg hv hf he ho hp ht k
theorem zAp (q : Q) (h : Q → P := by intro q; first | exact oXw (by assumption) q (hv := app1) (hf := rfl) (he := rfl) | exact eX q (hv := app1) (hf := rfl) (he := rfl) | exact oXw (by assumption) q (hv := app0) (hf := rfl) (he := rfl) | exact eX q (hv := app0) (hf := rfl) (he := rfl)) : P := h q
theorem zV {v v' : AV} (he : v' = v) (q : Q) (h : v' = v → Q → P := by intro e q; first | exact oVw (by assumption) e q | exact eVw e q) : P := h he q
theorem zI {F : Prop} (w : Fz frz) (v : AV) (f : F) (q : Q) (h : Fz frz → Vx v → F → Q → P := by intro w x f q; first | exact oIv w x q (he := by first | (simp [gD, cellsD, f] <;> fail) | fail) | exact eIv x q (he := by first | (simp [gD, cellsD, f] <;> fail) | fail)) : P := h w trivial f q
theorem zk (a : A) (h : A → P := by intro h; exfalso; simp at h; first | done | omega) : P := h a
theorem zC (c : KnownCall Try.prog g ds r) (q : Q) (h : KnownCall Try.prog g ds r → Q → P := by intro c q; first | exact oC c q | exact eC c q) : P := h c q
theorem zK (c : KnownCall Try.prog g ds (.d (.bool b))) (x : A → X) (y : B → Y) (h : KnownCall Try.prog g ds (.d (.bool b)) → (A → X) → (B → Y) → P := by intro c x y; first | exact oK c x y | exact eK c x y) : P := h c x y
theorem fnB {n : Nat} {f : Func} (h1 : Try.prog.funcs[n]? = some f) (l : List Nat) (h2 : f.body.isSome = true := by kernel_rfl) (h3 : (f.name == "runtime.NumGoroutine") = false := by kernel_rfl) (h4 : xk l = none := by rfl) : FnAt Try.prog n (mkFn f l) := fnAt h1 h2 h3 h4
theorem zE (q : Q) (h : Q → P := by intro q; refine Run.ret ?_; first | exact rB q | exact rI q | exact rA q | exact rII q | exact rSI q | exact rT q | exact rS q) : P := h q
end
set_option maxRecDepth 10000
abbrev ints (l : List Int) : DV := .sl 1 (l.map (.int .i64))
theorem get_ok {α : Type} {l : List α} {i : Nat} (h : i < l.length) : ∃ x, l[i]? = some x := ⟨l[i], by simp [h]⟩
abbrev nI (n : Nat) : DV := .int .i64 (n : Nat)
@[simp] theorem cellsD_nI (n : Nat) : cellsD (nI n) = [nI n] := rfl
abbrev nats (l : List Nat) : DV := .sl 1 (l.map nI)
abbrev lkC (l : List Nat) : List DV := [nI l.length, nI (l.getD 0 0), nI (l.getD 1 0), nI (l.getD 2 0), nI (l.getD 3 0)]
abbrev lk (l : List Nat) : DV := .agg (lkC l)
abbrev lks (L : List (List Nat)) : DV := .sl 5 (L.map lk)
structure Rt (l : List Nat) : Prop where
  len : l.length ≤ 4
  lt : ∀ x ∈ l, x < 8
theorem ofK (l : List Nat) (h : l.length ≤ 4) : KnownCall Try.prog 105 [nats l] (.d (lk l)) := by
  match l, h with
  | [], _ =>
    refine kF Try.func105 [] fun w => ?_
    repeat' (first
      | refine zW ?_
      | refine zB ?_ ?_ <;> intro h <;> try exact zk h
      | rfl
      | fail)
  | [a], _ =>
    refine kF Try.func105 [] fun w => ?_
    repeat' (first
      | refine zW ?_
      | refine zB ?_ ?_ <;> intro h <;> try exact zk h
      | rfl
      | fail)
  | [a, b], _ =>
    refine kF Try.func105 [] fun w => ?_
    repeat' (first
      | refine zW ?_
      | refine zB ?_ ?_ <;> intro h <;> try exact zk h
      | rfl
      | fail)
  | [a, b, c], _ =>
    refine kF Try.func105 [] fun w => ?_
    repeat' (first
      | refine zW ?_
      | refine zB ?_ ?_ <;> intro h <;> try exact zk h
      | rfl
      | fail)
  | [a, b, c, d], _ =>
    refine kF Try.func105 [] fun w => ?_
    repeat' (first
      | refine zW ?_
      | refine zB ?_ ?_ <;> intro h <;> try exact zk h
      | rfl
      | fail)
section
variable {frz : List Nat} {nt m : Nat} {ro' : Option Nat} {K : Ex → S → Prop} {ops : Array Oper} {l : List Oper} {o : Oper} {tm tm' : PT AV} {objs objs' : List Ob} {dl : List Dl} {ob : Option (List Ob)} {fl : Bool} {s0 : S} {i : Nat} {acc : List Eff} {G : S → Prop} {P Q : Prop}
theorem flag4 {i : Nat} (h : i < 4) : (inB (i : Int) 4 && Nat.ble ((i : Int).toNat * 1) 4) = true := by
  simp [inB, Nat.ble_eq]; omega
theorem oCw (_ : Fz frz) {v v' : AV} (he : v' = v) (k : RunOps Try.prog nt m ro' ops l ⟨tm', objs', dl⟩ K) (hg : guardA ops (rd tm) o = some true := by rfl) (hv : evAny Et H0 frz (rd tm) objs o = some (v', ob, fl) := by rfl) (hf : fl = true := by first | (simp [cutC, inB, maxC] <;> fail) | (simp [cutC, inB, maxC]; omega) | exact flag4 (by omega) | fail) (ho : ob.getD objs = objs' := by first | (conv => lhs; dsimp only [Option.getD]) | rfl) (hp : isPan v = false := by rfl) (ht : setD nt tm o.dst v = some tm' := by rfl) :
    RunOps Try.prog nt m ro' ops (o :: l) ⟨tm, objs, dl⟩ K := RunOps.x Et_ok hg hv hf he ho hp ht k
theorem eCw {v v' : AV} (he : v' = v) (k : EvD Try.prog Et frz nt ops s0 (i + 1) (acc ++ [effOf (rd tm) objs o ob]) l ⟨tm', objs', dl⟩ G) (hg : guardA ops (rd tm) o = some true := by rfl) (hv : evAny Et H0 frz (rd tm) objs o = some (v', ob, fl) := by rfl) (hf : fl = true := by first | (simp [cutC, inB, maxC] <;> fail) | (simp [cutC, inB, maxC]; omega) | exact flag4 (by omega) | fail) (ho : ob.getD objs = objs' := by first | (conv => lhs; dsimp only [Option.getD]) | rfl) (hp : isPan v = false := by rfl) (ht : setD nt tm o.dst v = some tm' := by rfl) :
    EvD Try.prog Et frz nt ops s0 i acc (o :: l) ⟨tm, objs, dl⟩ G := EvD.x hg hv hf he ho hp ht k
theorem zCut {v v' : AV} (he : v' = v) (q : Q) (h : v' = v → Q → P := by intro e q; first | exact oCw (by assumption) e q | exact eCw e q) : P := h he q
end
theorem cut4 (l : List Nat) (hl : l.length ≤ 4) (n : Nat) (hn : n ≤ l.length) : AV.d (.sl 1 (cutL none (some (n : Int)) [nI (l.getD 0 0), nI (l.getD 1 0), nI (l.getD 2 0), nI (l.getD 3 0)])) = .d (nats (l.take n)) := by
  congr 2
  simp only [cutL, Option.getD, Int.toNat_natCast, Int.toNat_zero, List.drop_zero]
  match l, hl, n, hn with
  | [], _, 0, _ => rfl
  | [a], _, 0, _ => rfl
  | [a], _, 1, _ => rfl
  | [a, b], _, 0, _ => rfl
  | [a, b], _, 1, _ => rfl
  | [a, b], _, 2, _ => rfl
  | [a, b, c], _, 0, _ => rfl
  | [a, b, c], _, 1, _ => rfl
  | [a, b, c], _, 2, _ => rfl
  | [a, b, c], _, 3, _ => rfl
  | [a, b, c, d], _, 0, _ => rfl
  | [a, b, c, d], _, 1, _ => rfl
  | [a, b, c, d], _, 2, _ => rfl
  | [a, b, c, d], _, 3, _ => rfl
  | [a, b, c, d], _, 4, _ => rfl
theorem cut4' (l : List Nat) (hl : l.length ≤ 4) : AV.d (.sl 1 (cutL none (some (l.length : Int)) [nI (l.getD 0 0), nI (l.getD 1 0), nI (l.getD 2 0), nI (l.getD 3 0)])) = .d (nats l) := by
  have := cut4 l hl l.length (Nat.le_refl _)
  rwa [List.take_length] at this
def chkL (l : List Nat) (terms : Int) : Int := if terms < 1 then 2 else if 8 < terms then 2 else if l.all (fun x => decide ((x : Int) < terms)) then 0 else 14
theorem checkK (l : List Nat) (hl : l.length ≤ 4) (terms : Int) : KnownCall Try.prog 89 [lk l, .int .i64 terms] (.d (.int .i64 (chkL l terms))) := by
  have h4 := cut4' l hl
  refine kF Try.func89 [2] fun w => ?_
  repeat' (first
    | refine zW ?_
    | refine zB ?_ ?_ <;> intro h <;> try exact zk h
    | refine zCut h4 ?_
    | refine zK (ofK l hl) ?_ ?_ <;> intro h <;> try exact zk h
    | refine zC (ofK l hl) ?_
    | (show _ = _; ((simp only [chkL]; repeat' split) <;> (first | rfl | (simp_all <;> fail) | (simp_all; omega))))
    | fail)
  have h1 : ¬ terms < 1 := by rename_i a1 _ _ _; simpa using a1
  have h2 : ¬ 8 < terms := by rename_i a2 _ _; simpa using a2
  refine Run.loop (fun i : Nat => ⟨PT.ofList [(1, .d (.int .i64 terms)), (35, .d (nats l)), (36, .d (nI (l.map nI).length)), (37, .d (.int .i64 i))], [], []⟩) (fun i => i ≤ l.length ∧ ∀ x ∈ l.take i, (x : Int) < terms) (fun i => l.length - i) 0 ⟨Nat.zero_le _, by simp⟩ (weak_of (by repeat' (first | exact trivial | refine ⟨rfl, ?_⟩))) (fun i hi => ?_)
  rcases Nat.lt_or_ge i l.length with hlt | hge
  · obtain ⟨x, hx⟩ := get_ok hlt
    have hgo : (x : Int) < terms → ∀ y ∈ l.take (i + 1), (y : Int) < terms := fun h => by
      rw [List.take_add_one, hx]; intro y hy
      rcases List.mem_append.1 hy with h1 | h1
      · exact hi.2 y h1
      · simp at h1; subst h1; exact h
    have hbad : ¬ (x : Int) < terms → chkL l terms = 14 := fun h => by
      unfold chkL
      rw [if_neg h1, if_neg h2, if_neg]
      simp only [List.all_eq_true, decide_eq_true_eq]
      intro ha; exact h (ha x (List.mem_of_getElem? hx))
    repeat' (first
      | refine zW ?_
      | refine zB ?_ ?_ <;> intro h <;> try exact zk h
      | refine zI w (.d (.ep [nI x])) hx ?_
      | (show _ = _; rw [hbad (by simpa using h)])
      | (exact ⟨i + 1, ⟨hlt, hgo (by simpa using h)⟩, by omega, weak_of (by repeat' (first | exact trivial | refine ⟨rfl, ?_⟩ | refine ⟨(inc_get (k := i) (by kernel_rfl) (by omega)), ?_⟩))⟩)
      | fail)
  · have hie : i = l.length := by have := hi.1; omega
    have hok : chkL l terms = 0 := by
      unfold chkL
      rw [if_neg h1, if_neg h2, if_pos]
      simp only [List.all_eq_true, decide_eq_true_eq]
      have := hi.2; rwa [hie, List.take_length] at this
    subst hie
    repeat' (first
      | refine zW ?_
      | refine zB ?_ ?_ <;> intro h <;> try exact zk h
      | (show _ = _; rw [hok])
      | fail)
theorem chkL0 {l : List Nat} (h : Rt l) : chkL l 8 = 0 := by
  unfold chkL
  rw [if_neg (by omega), if_neg (by omega), if_pos]
  simp only [List.all_eq_true, decide_eq_true_eq]
  intro x hx; have := h.lt x hx; omega
theorem rightK (x y : List Nat) (hx : Rt x) (hy : Rt y) : KnownCall Try.prog 107 [.int .i64 8, .sl 5 [lk x, lk y]] (.d (.int .i64 0)) := by
  have h1 := checkK x hx.len 8
  have h2 := checkK y hy.len 8
  rw [chkL0 hx] at h1
  rw [chkL0 hy] at h2
  refine kF Try.func107 [] fun w => ?_
  repeat' (first
    | refine zW ?_
    | refine zB ?_ ?_ <;> intro h <;> try exact zk h
    | fail)
  refine Run.loopT (fun i : Nat => ⟨PT.ofList [(0, .d (.int .i64 8)), (8, .d (.sl 5 [lk x, lk y])), (9, .d (.int .i64 2)), (10, .d (.int .i64 i))], [], []⟩) (fun i => i ≤ 2) (fun i => 2 - i) 0 (Nat.zero_le _) (ti _ 0) (fun i hi => ?_)
  match i, hi with
  | 0, _ =>
    repeat' (first
      | refine zW ?_
      | refine zB ?_ ?_ <;> intro h <;> try exact zk h
      | refine zC (h1) ?_
      | (exact ⟨1, by omega, by omega, (ti _ 0)⟩)
      | fail)
  | 1, _ =>
    repeat' (first
      | refine zW ?_
      | refine zB ?_ ?_ <;> intro h <;> try exact zk h
      | refine zC (h2) ?_
      | (exact ⟨2, by omega, by omega, (ti _ 0)⟩)
      | fail)
  | 2, _ =>
    repeat' (first
      | refine zW ?_
      | refine zB ?_ ?_ <;> intro h <;> try exact zk h
      | rfl
      | fail)
def cmpL : List Nat → List Nat → Int
  | [], [] => 0
  | [], _ :: _ => -1
  | _ :: _, [] => 1
  | a :: x, b :: y => if a < b then -1 else if b < a then 1 else cmpL x y
theorem cmpL_self : ∀ x, cmpL x x = 0
  | [] => rfl
  | a :: x => by simp only [cmpL, Nat.lt_irrefl, if_false]; exact cmpL_self x
theorem cmpL_at : ∀ {i : Nat} {x y : List Nat} {a b : Nat}, x.take i = y.take i → x[i]? = some a → y[i]? = some b → a ≠ b → cmpL x y = if a < b then -1 else 1
  | 0, x :: xs, y :: ys, a, b, _, hx, hy, hne => by
    simp at hx hy; subst hx hy
    simp only [cmpL]
    by_cases h : x < y
    · rw [if_pos h, if_pos h]
    · rw [if_neg h, if_neg h, if_pos (by omega)]
  | i + 1, x :: xs, y :: ys, a, b, ht, hx, hy, hne => by
    simp at hx hy ht
    obtain ⟨rfl, ht⟩ := ht
    simp only [cmpL, Nat.lt_irrefl, if_false]
    exact cmpL_at ht hx hy hne
  | 0, [], _, _, _, _, hx, _, _ => by simp at hx
  | 0, _ :: _, [], _, _, _, _, hy, _ => by simp at hy
  | i + 1, [], _, _, _, _, hx, _, _ => by simp at hx
  | i + 1, _ :: _, [], _, _, _, _, hy, _ => by simp at hy
theorem cmpL_end : ∀ {i : Nat} {x y : List Nat}, x.take i = y.take i → i = min x.length y.length → x ≠ y → cmpL x y = if x.length < y.length then -1 else 1
  | i, [], [], _, _, hne => absurd rfl hne
  | i, [], y :: ys, _, _, _ => by simp [cmpL]
  | i, x :: xs, [], _, _, _ => by simp [cmpL]
  | i + 1, x :: xs, y :: ys, ht, hi, hne => by
    simp at ht hi hne
    obtain ⟨rfl, ht⟩ := ht
    simp only [cmpL, Nat.lt_irrefl, if_false, List.length_cons, Nat.add_lt_add_iff_right]
    exact cmpL_end ht (by omega) (hne rfl)
  | 0, x :: xs, y :: ys, _, hi, _ => by simp at hi
theorem lk_inj {x y : List Nat} (hx : x.length ≤ 4) (hl : x.length = y.length) (h0 : x.getD 0 0 = y.getD 0 0) (h1 : x.getD 1 0 = y.getD 1 0) (h2 : x.getD 2 0 = y.getD 2 0) (h3 : x.getD 3 0 = y.getD 3 0) : x = y := by
  refine List.ext_getElem? fun i => ?_
  rcases Nat.lt_or_ge i x.length with h | h
  · obtain ⟨a, ha⟩ := get_ok h
    obtain ⟨b, hb⟩ := get_ok (show i < y.length by omega)
    rw [ha, hb]
    have : x.getD i 0 = y.getD i 0 := by
      match i, h with
      | 0, _ => exact h0
      | 1, _ => exact h1
      | 2, _ => exact h2
      | 3, _ => exact h3
      | i + 4, h => omega
    simpa [List.getD_eq_getElem?_getD, ha, hb] using this
  · rw [List.getElem?_eq_none h, List.getElem?_eq_none (by omega)]
theorem drop4 {x : List Nat} {i a : Nat} (hl : x.length ≤ 4) (h : x[i]? = some a) : ∃ R, AV.d (.ep (List.drop ((i : Int).toNat * 1) [nI (x.getD 0 0), nI (x.getD 1 0), nI (x.getD 2 0), nI (x.getD 3 0)])) = .d (.ep (nI a :: R)) := by
  have hi := (List.getElem?_eq_some_iff.1 h).1
  simp only [List.getD_eq_getElem?_getD, Int.toNat_natCast, Nat.mul_one]
  match i, hi, h with
  | 0, _, h => rw [h]; exact ⟨_, rfl⟩
  | 1, _, h => rw [h]; exact ⟨_, rfl⟩
  | 2, _, h => rw [h]; exact ⟨_, rfl⟩
  | 3, _, h => rw [h]; exact ⟨_, rfl⟩
  | i + 4, hi, _ => omega
theorem compareK (x y : List Nat) (hx : Rt x) (hy : Rt y) : KnownCall Try.prog 91 [lk x, lk y] (.tup [.d (.int .i64 (cmpL x y)), .d (.int .i64 0)]) := by
  have c0 := rightK x y hx hy
  have hl1 := hx.len
  have hl2 := hy.len
  by_cases hxy : x = y
  · subst hxy
    rw [cmpL_self]
    refine kF Try.func91 [2, 3, 10] fun w => ?_
    repeat' (first
      | refine zW ?_
      | refine zB ?_ ?_ <;> intro h <;> try exact zk h
      | refine zX ?_
      | refine zC (c0) ?_
      | rfl
      | fail)
  · have hm : AV.d (.int .i64 (if (y.length : Int) < (x.length : Int) then (y.length : Int) else (x.length : Int))) = .d (nI (min x.length y.length)) := by
      congr 2; split <;> omega
    refine kF Try.func91 [2, 3, 10] fun w => ?_
    repeat' (first
      | refine zV hm ?_
      | refine zW ?_
      | refine zB ?_ ?_ <;> intro h <;> try exact zk h
      | refine zX ?_
      | refine zC (c0) ?_
      | ((exfalso; simp only [Bool.and_eq_true, beq_iff_eq] at h; exact hxy (lk_inj hl1 (by omega) (by omega) (by omega) (by omega) (by omega))))
      | fail)
    refine Run.loop (fun i : Nat => ⟨PT.ofList [(2, .d (.ep (lkC x))), (3, .d (.ep (lkC y))), (24, .d (nI (min x.length y.length))), (25, .d (.int .i64 i))], [], []⟩) (fun i => i ≤ min x.length y.length ∧ x.take i = y.take i) (fun i => min x.length y.length - i) 0 ⟨Nat.zero_le _, rfl⟩ (weak_of (by repeat' (first | exact trivial | refine ⟨rfl, ?_⟩))) (fun i hi => ?_)
    rcases Nat.lt_or_ge i (min x.length y.length) with hlt | hge
    · obtain ⟨a, ha⟩ := get_ok (show i < x.length by omega)
      obtain ⟨b, hb⟩ := get_ok (show i < y.length by omega)
      obtain ⟨R1, r1⟩ := drop4 hl1 ha
      obtain ⟨R2, r2⟩ := drop4 hl2 hb
      have hgo : a = b → x.take (i + 1) = y.take (i + 1) := fun h => by rw [List.take_add_one, List.take_add_one, hi.2, ha, hb, h]
      have hne := cmpL_at hi.2 ha hb
      repeat' (first
        | refine zW ?_
        | refine zB ?_ ?_ <;> intro h <;> try exact zk h
        | refine zX ?_
        | refine zCut r1 ?_
        | refine zCut r2 ?_
        | (show _ = _; (rw [hne (by intro e; subst e; simp_all)]; split <;> simp_all <;> omega))
        | (exact ⟨i + 1, ⟨hlt, hgo (by simp at h; omega)⟩, by omega, weak_of (by repeat' (first | exact trivial | refine ⟨rfl, ?_⟩ | refine ⟨(inc_get (k := i) (by kernel_rfl) (by omega)), ?_⟩))⟩)
        | fail)
    · have hie : i = min x.length y.length := by have := hi.1; omega
      have he := cmpL_end hi.2 hie hxy
      subst hie
      repeat' (first
        | refine zW ?_
        | refine zB ?_ ?_ <;> intro h <;> try exact zk h
        | refine zX ?_
        | (show _ = _; (rw [he]; split <;> simp_all <;> omega))
        | fail)
abbrev iI (n : Int) : DV := .int .i64 n
structure Raw where
  (n a b c d : Int)
abbrev Raw.s (r : Raw) : List Int := [r.a, r.b, r.c, r.d]
abbrev rwC (r : Raw) : List DV := [iI r.n, iI r.a, iI r.b, iI r.c, iI r.d]
abbrev rw5 (r : Raw) : DV := .agg (rwC r)
abbrev rws (L : List Raw) : DV := .sl 5 (L.map rw5)
def chkR (r : Raw) (t : Int) : Int :=
  if t < 1 then 2 else if 8 < t then 2 else if r.n < 0 then 3 else if 4 < r.n then 3 else if (r.s.drop r.n.toNat).all (fun v => decide (v = 0)) then
    if (r.s.take r.n.toNat).all (fun v => decide (0 ≤ v ∧ v < t)) then 0 else 14 else 3
theorem drop4R {r : Raw} {i : Nat} {v : Int} (h : r.s[i]? = some v) : ∃ R, AV.d (.ep (List.drop ((i : Int).toNat * 1) [iI r.a, iI r.b, iI r.c, iI r.d])) = .d (.ep (iI v :: R)) := by
  have hi := (List.getElem?_eq_some_iff.1 h).1
  simp only [Int.toNat_natCast, Nat.mul_one]
  match i, hi, h with
  | 0, _, h => simp at h; subst h; exact ⟨_, rfl⟩
  | 1, _, h => simp at h; subst h; exact ⟨_, rfl⟩
  | 2, _, h => simp at h; subst h; exact ⟨_, rfl⟩
  | 3, _, h => simp at h; subst h; exact ⟨_, rfl⟩
  | i + 4, hi, _ => simp at hi; omega
theorem chkRef (r : Raw) (t : Int) : KnownCall Try.prog 93 [rw5 r, iI t] (.d (iI (chkR r t))) := by
  by_cases h1 : t < 1 ∨ 8 < t
  · have he : chkR r t = 2 := by
      unfold chkR; rcases h1 with h | h
      · rw [if_pos h]
      · rw [if_neg (by omega), if_pos h]
    rw [he]
    refine kF Try.func93 [2] fun w => ?_
    repeat' (first
      | refine zW ?_
      | refine zB ?_ ?_ <;> intro h <;> try exact zk h
      | rfl
      | ((exfalso; simp only [decide_eq_true_eq, decide_eq_false_iff_not, Bool.not_eq_true, bne_iff_ne, ne_eq] at *; omega))
      | fail)
  by_cases h2 : r.n < 0 ∨ 4 < r.n
  · have he : chkR r t = 3 := by
      unfold chkR; rw [if_neg (by omega), if_neg (by omega)]; rcases h2 with h | h
      · rw [if_pos h]
      · rw [if_neg (by omega), if_pos h]
    rw [he]
    refine kF Try.func93 [2] fun w => ?_
    repeat' (first
      | refine zW ?_
      | refine zB ?_ ?_ <;> intro h <;> try exact zk h
      | rfl
      | ((exfalso; simp only [decide_eq_true_eq, decide_eq_false_iff_not, Bool.not_eq_true, bne_iff_ne, ne_eq] at *; omega))
      | fail)
  obtain ⟨m, hm⟩ : ∃ m : Nat, r.n = m := ⟨r.n.toNat, by omega⟩
  have hm4 : m ≤ 4 := by omega
  have hu : chkR r t = if (r.s.drop m).all (fun v => decide (v = 0)) then if (r.s.take m).all (fun v => decide (0 ≤ v ∧ v < t)) then 0 else 14 else 3 := by
    unfold chkR; rw [if_neg (by omega), if_neg (by omega), if_neg (by omega), if_neg (by omega), hm]; rfl
  have hsl : r.s.length = 4 := rfl
  have hrw : rwC r = [nI m, iI r.a, iI r.b, iI r.c, iI r.d] := by simp only [rwC, hm]
  rw [show rw5 r = .agg [nI m, iI r.a, iI r.b, iI r.c, iI r.d] by rw [← hrw]]
  refine kF Try.func93 [2] fun w => ?_
  repeat' (first
    | refine zW ?_
    | refine zB ?_ ?_ <;> intro h <;> try exact zk h
    | ((exfalso; simp only [decide_eq_true_eq, decide_eq_false_iff_not, Bool.not_eq_true, bne_iff_ne, ne_eq] at *; omega))
    | fail)
  refine Run.loop (fun j : Nat => ⟨PT.ofList [(1, .d (iI t)), (2, .d (.ep [nI m, iI r.a, iI r.b, iI r.c, iI r.d])), (5, .d (nI j))], [], []⟩) (fun j => m ≤ j ∧ j ≤ 4 ∧ ∀ p, m ≤ p → p < j → r.s[p]? = some 0) (fun j => 4 - j) m ⟨Nat.le_refl _, hm4, fun p h1 h2 => by omega⟩ (weak_of (by repeat' (first | exact trivial | refine ⟨rfl, ?_⟩))) (fun j hj => ?_)
  obtain ⟨hj1, hj2, hj3⟩ := hj
  rcases Nat.lt_or_ge j 4 with hlt | hge
  · obtain ⟨v, hv⟩ := get_ok (show j < r.s.length by rw [hsl]; exact hlt)
    obtain ⟨R, hR⟩ := drop4R hv
    have hbad : ¬ v = 0 → chkR r t = 3 := fun h => by
      rw [hu, if_neg]; intro ha
      have : v ∈ r.s.drop m := by
        refine List.mem_of_getElem? (i := j - m) ?_
        rw [List.getElem?_drop, show m + (j - m) = j by omega]; exact hv
      exact h (by simpa using List.all_eq_true.1 ha v this)
    have hgo : v = 0 → ∀ p, m ≤ p → p < j + 1 → r.s[p]? = some 0 := fun h p h1 h2 => by
      rcases Nat.lt_or_ge p j with h3 | h3
      · exact hj3 p h1 h3
      · have : p = j := by omega
        subst this; subst h; exact hv
    repeat' (first
      | refine zW ?_
      | refine zB ?_ ?_ <;> intro h <;> try exact zk h
      | refine zCut hR ?_
      | (show _ = _; rw [hbad (by simpa using h)])
      | (exact ⟨j + 1, ⟨by omega, hlt, hgo (by simpa using h)⟩, by omega, weak_of (by repeat' (first | exact trivial | refine ⟨rfl, ?_⟩ | refine ⟨(inc_get (k := j) (by kernel_rfl) (by omega)), ?_⟩))⟩)
      | ((exfalso; simp only [decide_eq_true_eq, decide_eq_false_iff_not, Bool.not_eq_true, bne_iff_ne, ne_eq] at *; omega))
      | fail)
  · have hj4 : j = 4 := by omega
    subst hj4
    have hok : (r.s.drop m).all (fun v => decide (v = 0)) = true := List.all_eq_true.2 fun v hv => by
      obtain ⟨p, hp⟩ := List.getElem?_of_mem hv
      rw [List.getElem?_drop] at hp
      have h4 := (List.getElem?_eq_some_iff.1 hp).1
      rw [hj3 (m + p) (by omega) (by rw [hsl] at h4; exact h4)] at hp
      simp at hp; simp [← hp]
    rw [if_pos hok] at hu
    repeat' (first
      | refine zW ?_
      | refine zB ?_ ?_ <;> intro h <;> try exact zk h
      | ((exfalso; simp only [decide_eq_true_eq, decide_eq_false_iff_not, Bool.not_eq_true, bne_iff_ne, ne_eq] at *; omega))
      | fail)
    refine Run.loop (fun j : Nat => ⟨PT.ofList [(1, .d (iI t)), (2, .d (.ep [nI m, iI r.a, iI r.b, iI r.c, iI r.d])), (6, .d (nI j))], [], []⟩) (fun j => j ≤ m ∧ ∀ v ∈ r.s.take j, 0 ≤ v ∧ v < t) (fun j => m - j) 0 ⟨Nat.zero_le _, by simp⟩ (weak_of (by repeat' (first | exact trivial | refine ⟨rfl, ?_⟩))) (fun j hj => ?_)
    obtain ⟨hj1, hk3⟩ := hj
    rcases Nat.lt_or_ge j m with hlt | hge
    · obtain ⟨v, hv⟩ := get_ok (show j < r.s.length by rw [hsl]; omega)
      obtain ⟨R, hR⟩ := drop4R hv
      have hbad : ¬ (0 ≤ v ∧ v < t) → chkR r t = 14 := fun h => by
        rw [hu, if_neg]; intro ha
        have : v ∈ r.s.take m := by
          refine List.mem_of_getElem? (i := j) ?_
          rw [List.getElem?_take, if_pos hlt]; exact hv
        exact h (by simpa using List.all_eq_true.1 ha v this)
      have hgo : 0 ≤ v ∧ v < t → ∀ u ∈ r.s.take (j + 1), 0 ≤ u ∧ u < t := fun h u hu => by
        rw [List.take_add_one, hv] at hu
        rcases List.mem_append.1 hu with h1 | h1
        · exact hk3 u h1
        · simp at h1; subst h1; exact h
      repeat' (first
        | refine zW ?_
        | refine zB ?_ ?_ <;> intro h <;> try exact zk h
        | refine zCut hR ?_
        | (show _ = _; rw [hbad (by simp only [decide_eq_true_eq, decide_eq_false_iff_not] at *; omega)])
        | (exact ⟨j + 1, ⟨hlt, hgo (by simp only [decide_eq_true_eq, decide_eq_false_iff_not] at *; omega)⟩, by omega, weak_of (by repeat' (first | exact trivial | refine ⟨rfl, ?_⟩ | refine ⟨(inc_get (k := j) (by kernel_rfl) (by omega)), ?_⟩))⟩)
        | ((exfalso; simp only [decide_eq_true_eq, decide_eq_false_iff_not, Bool.not_eq_true, bne_iff_ne, ne_eq] at *; omega))
        | fail)
    · have hje : j = m := by omega
      subst hje
      have hok2 : chkR r t = 0 := by
        rw [hu, if_pos]
        exact List.all_eq_true.2 fun v hv => by simpa using hk3 v hv
      repeat' (first
        | refine zW ?_
        | refine zB ?_ ?_ <;> intro h <;> try exact zk h
        | (show _ = _; rw [hok2])
        | ((exfalso; simp only [decide_eq_true_eq, decide_eq_false_iff_not, Bool.not_eq_true, bne_iff_ne, ne_eq] at *; omega))
        | fail)
abbrev rawOf (l : List Nat) : Raw := ⟨(l.length : Nat), (l.getD 0 0 : Nat), (l.getD 1 0 : Nat), (l.getD 2 0 : Nat), (l.getD 3 0 : Nat)⟩
theorem rw5_of (l : List Nat) : rw5 (rawOf l) = lk l := rfl
theorem chkR_lk {l : List Nat} (hl : l.length ≤ 4) {t : Int} (h1 : 1 ≤ t) (h8 : t ≤ 8) (h : ∀ x ∈ l, (x : Int) < t) : chkR (rawOf l) t = 0 := by
  unfold chkR
  rw [if_neg (by omega), if_neg (by omega), if_neg (by simp only []; omega), if_neg (by simp only []; omega)]
  match l, hl, h with
  | [], _, _ => simp
  | [a], _, h => simp at h ⊢; omega
  | [a, b], _, h => simp at h ⊢; omega
  | [a, b, c], _, h => simp at h ⊢; omega
  | [a, b, c, d], _, h => simp at h ⊢; omega
theorem chkR_raw {r : Raw} {t : Int} (h : chkR r t = 0) : 1 ≤ t ∧ t ≤ 8 ∧ ∃ l : List Nat, Rt l ∧ r = rawOf l ∧ ∀ x ∈ l, (x : Int) < t := by
  unfold chkR at h
  split at h
  · omega
  split at h
  · omega
  split at h
  · omega
  split at h
  · omega
  split at h
  · rename_i g1 g2 g3 g4 g5
    split at h
    · rename_i g6
      refine ⟨by omega, by omega, ?_⟩
      obtain ⟨n, a, b, c, d⟩ := r
      simp only at g3 g4 g5 g6
      obtain ⟨m, hm⟩ : ∃ m : Nat, n = m := ⟨n.toNat, by omega⟩
      subst hm
      have hm4 : m ≤ 4 := by omega
      have nat : ∀ {v : Int}, 0 ≤ v → v = (v.toNat : Int) := fun h => by omega
      rcases (show m = 0 ∨ m = 1 ∨ m = 2 ∨ m = 3 ∨ m = 4 by omega) with rfl | rfl | rfl | rfl | rfl
      · simp at g5
        exact ⟨[], ⟨by simp, by simp⟩, by simp [g5], by simp⟩
      · simp at g5 g6
        exact ⟨[a.toNat], ⟨by simp, by simp; omega⟩, by simp [g5]; omega, by simp; omega⟩
      · simp at g5 g6
        exact ⟨[a.toNat, b.toNat], ⟨by simp, by simp; omega⟩, by simp [g5]; omega, by simp; omega⟩
      · simp at g5 g6
        exact ⟨[a.toNat, b.toNat, c.toNat], ⟨by simp, by simp; omega⟩, by simp [g5]; omega, by simp; omega⟩
      · simp at g6
        exact ⟨[a.toNat, b.toNat, c.toNat, d.toNat], ⟨by simp, by simp; omega⟩, by simp; omega, by simp; omega⟩
    · omega
  · omega
theorem chkRefL (l : List Nat) (hl : Rt l) : KnownCall Try.prog 93 [lk l, .int .i64 8] (.d (.int .i64 0)) := by
  have := chkRef (rawOf l) 8
  rw [chkR_lk hl.len (by omega) (by omega) (fun x hx => by have := hl.lt x hx; omega)] at this
  exact this
theorem bothRef (x y : List Nat) (hx : Rt x) (hy : Rt y) : KnownCall Try.prog 113 [lk x, lk y] (.d (.int .i64 0)) := by
  have c1 := chkRefL x hx
  have c2 := chkRefL y hy
  refine kF Try.func113 [2, 3] fun w => ?_
  repeat' (first
    | refine zW ?_
    | refine zB ?_ ?_ <;> intro h <;> try exact zk h
    | refine zX ?_
    | refine zC (c1) ?_
    | refine zC (c2) ?_
    | rfl
    | fail)
theorem cmpL_end2 {i : Nat} {x y : List Nat} (h : x.take i = y.take i) (hi : i = min x.length y.length) : cmpL x y = if x.length < y.length then -1 else if y.length < x.length then 1 else 0 := by
  by_cases hxy : x = y
  · subst hxy; rw [cmpL_self, if_neg (Nat.lt_irrefl _), if_neg (Nat.lt_irrefl _)]
  · rw [cmpL_end h hi hxy]
    by_cases h1 : x.length < y.length
    · rw [if_pos h1, if_pos h1]
    · rw [if_neg h1, if_neg h1, if_pos]
      rcases Nat.lt_or_ge y.length x.length with h2 | h2
      · exact h2
      · exfalso; apply hxy
        have e : x.length = y.length := by omega
        rwa [List.take_of_length_le (by omega), List.take_of_length_le (by omega)] at h
theorem orderRef (x y : List Nat) (hx : Rt x) (hy : Rt y) : KnownCall Try.prog 115 [lk x, lk y] (.d (.int .i64 (cmpL x y))) := by
  have hl1 := hx.len
  have hl2 := hy.len
  refine kF Try.func115 [2, 3] fun w => ?_
  repeat' (first
    | refine zW ?_
    | refine zB ?_ ?_ <;> intro h <;> try exact zk h
    | refine zX ?_
    | fail)
  refine Run.loop (fun i : Nat => ⟨PT.ofList [(2, .d (.ep (lkC x))), (3, .d (.ep (lkC y))), (5, .d (nI i))], [], []⟩) (fun i => i ≤ min x.length y.length ∧ x.take i = y.take i) (fun i => min x.length y.length - i) 0 ⟨Nat.zero_le _, rfl⟩ (weak_of (by repeat' (first | exact trivial | refine ⟨rfl, ?_⟩))) (fun i hi => ?_)
  rcases Nat.lt_or_ge i (min x.length y.length) with hlt | hge
  · obtain ⟨a, ha⟩ := get_ok (show i < x.length by omega)
    obtain ⟨b, hb⟩ := get_ok (show i < y.length by omega)
    obtain ⟨R1, r1⟩ := drop4 hl1 ha
    obtain ⟨R2, r2⟩ := drop4 hl2 hb
    have hgo : a = b → x.take (i + 1) = y.take (i + 1) := fun h => by rw [List.take_add_one, List.take_add_one, hi.2, ha, hb, h]
    have hne := cmpL_at hi.2 ha hb
    repeat' (first
      | refine zW ?_
      | refine zB ?_ ?_ <;> intro h <;> try exact zk h
      | refine zX ?_
      | refine zCut r1 ?_
      | refine zCut r2 ?_
      | (show _ = _; (rw [hne (by intro e; subst e; simp_all)]; split <;> simp_all <;> omega))
      | (exact ⟨i + 1, ⟨hlt, hgo (by simp at h; omega)⟩, by omega, weak_of (by repeat' (first | exact trivial | refine ⟨rfl, ?_⟩ | refine ⟨(inc_get (k := i) (by kernel_rfl) (by omega)), ?_⟩))⟩)
      | ((exfalso; simp only [decide_eq_true_eq, decide_eq_false_iff_not] at *; omega))
      | fail)
  · have hie : i = min x.length y.length := by have := hi.1; omega
    have he := cmpL_end2 hi.2 hie
    repeat' (first
      | refine zW ?_
      | refine zB ?_ ?_ <;> intro h <;> try exact zk h
      | refine zX ?_
      | (show _ = _; (simp only [decide_eq_true_eq, decide_eq_false_iff_not] at *; rw [he]; first | (rw [if_pos (by omega)] <;> fail) | (rw [if_neg (by omega), if_pos (by omega)] <;> fail) | rw [if_neg (by omega), if_neg (by omega)]))
      | ((exfalso; simp only [decide_eq_true_eq, decide_eq_false_iff_not] at *; omega))
      | fail)
theorem compareRef (x y : List Nat) (hx : Rt x) (hy : Rt y) : KnownCall Try.prog 108 [lk x, lk y] (.tup [.d (.int .i64 (cmpL x y)), .d (.int .i64 0)]) := by
  have c1 := bothRef x y hx hy
  have c2 := orderRef x y hx hy
  refine kF Try.func108 [2, 3] fun w => ?_
  repeat' (first
    | refine zW ?_
    | refine zB ?_ ?_ <;> intro h <;> try exact zk h
    | refine zX ?_
    | refine zC (c1) ?_
    | refine zC (c2) ?_
    | rfl
    | fail)
theorem compareS14 (x y : List Nat) (hx : Rt x) (hy : Rt y) : KnownCall Try.prog 103 [lk x, lk y] (.d (.int .i64 (cmpL x y))) := by
  have c := compareRef x y hx hy
  refine kF Try.func103 [2, 3] fun w => ?_
  repeat' (first
    | refine zW ?_
    | refine zB ?_ ?_ <;> intro h <;> try exact zk h
    | refine zX ?_
    | refine zC (c) ?_
    | rfl
    | fail)
abbrev rawI (l : List Int) : Raw := ⟨(l.length : Nat), l.getD 0 0, l.getD 1 0, l.getD 2 0, l.getD 3 0⟩
abbrev intL (l : List Int) : DV := .sl 1 (l.map iI)
theorem ofI (l : List Int) (h : l.length ≤ 4) : KnownCall Try.prog 105 [intL l] (.d (rw5 (rawI l))) := by
  match l, h with
  | [], _ =>
    refine kF Try.func105 [] fun w => ?_
    repeat' (first
      | refine zW ?_
      | refine zB ?_ ?_ <;> intro h <;> try exact zk h
      | rfl
      | fail)
  | [a], _ =>
    refine kF Try.func105 [] fun w => ?_
    repeat' (first
      | refine zW ?_
      | refine zB ?_ ?_ <;> intro h <;> try exact zk h
      | rfl
      | fail)
  | [a, b], _ =>
    refine kF Try.func105 [] fun w => ?_
    repeat' (first
      | refine zW ?_
      | refine zB ?_ ?_ <;> intro h <;> try exact zk h
      | rfl
      | fail)
  | [a, b, c], _ =>
    refine kF Try.func105 [] fun w => ?_
    repeat' (first
      | refine zW ?_
      | refine zB ?_ ?_ <;> intro h <;> try exact zk h
      | rfl
      | fail)
  | [a, b, c, d], _ =>
    refine kF Try.func105 [] fun w => ?_
    repeat' (first
      | refine zW ?_
      | refine zB ?_ ?_ <;> intro h <;> try exact zk h
      | rfl
      | fail)
theorem cut4I (l : List Int) (hl : l.length ≤ 4) : AV.d (.sl 1 (cutL none (some (l.length : Int)) [iI (l.getD 0 0), iI (l.getD 1 0), iI (l.getD 2 0), iI (l.getD 3 0)])) = .d (intL l) := by
  match l, hl with
  | [], _ => rfl
  | [a], _ => rfl
  | [a, b], _ => rfl
  | [a, b, c], _ => rfl
  | [a, b, c, d], _ => rfl
theorem chkR_I {l : List Int} (hl : l.length ≤ 4) {t : Int} (ht : ¬ (t < 1 ∨ 8 < t)) : chkR (rawI l) t = if l.all (fun v => decide (0 ≤ v ∧ v < t)) then 0 else 14 := by
  unfold chkR
  rw [if_neg (by omega), if_neg (by omega), if_neg (by simp only []; omega), if_neg (by simp only []; omega)]
  match l, hl with
  | [], _ => simp
  | [a], _ => simp
  | [a, b], _ => simp
  | [a, b, c], _ => simp
  | [a, b, c, d], _ => simp
theorem checkRawI (l : List Int) (hl : l.length ≤ 4) (t : Int) (ht : ¬ (t < 1 ∨ 8 < t)) : KnownCall Try.prog 89 [rw5 (rawI l), iI t] (.d (iI (chkR (rawI l) t))) := by
  have h4 := cut4I l hl
  have hu := chkR_I hl ht
  generalize chkR (rawI l) t = R at *
  refine kF Try.func89 [2] fun w => ?_
  repeat' (first
    | refine zW ?_
    | refine zB ?_ ?_ <;> intro h <;> try exact zk h
    | refine zCut h4 ?_
    | refine zK (ofI l hl) ?_ ?_ <;> intro h <;> try exact zk h
    | refine zC (ofI l hl) ?_
    | ((exfalso; first | (simp at h <;> fail) | (simp only [decide_eq_true_eq, decide_eq_false_iff_not] at *; omega)))
    | fail)
  refine Run.loop (fun i : Nat => ⟨PT.ofList [(1, .d (iI t)), (35, .d (intL l)), (36, .d (nI (l.map iI).length)), (37, .d (.int .i64 i))], [], []⟩) (fun i => i ≤ l.length ∧ ∀ x ∈ l.take i, 0 ≤ x ∧ x < t) (fun i => l.length - i) 0 ⟨Nat.zero_le _, by simp⟩ (weak_of (by repeat' (first | exact trivial | refine ⟨rfl, ?_⟩))) (fun i hi => ?_)
  rcases Nat.lt_or_ge i l.length with hlt | hge
  · obtain ⟨x, hx⟩ := get_ok hlt
    have hgo : 0 ≤ x ∧ x < t → ∀ y ∈ l.take (i + 1), 0 ≤ y ∧ y < t := fun h => by
      rw [List.take_add_one, hx]; intro y hy
      rcases List.mem_append.1 hy with h1 | h1
      · exact hi.2 y h1
      · simp at h1; subst h1; exact h
    have hbad : ¬ (0 ≤ x ∧ x < t) → R = 14 := fun h => by
      rw [hu, if_neg]
      intro ha
      exact h (by simpa using List.all_eq_true.1 ha x (List.mem_of_getElem? hx))
    repeat' (first
      | refine zW ?_
      | refine zB ?_ ?_ <;> intro h <;> try exact zk h
      | refine zI w (.d (.ep [iI x])) hx ?_
      | (show _ = _; rw [hbad (by simp only [decide_eq_true_eq, decide_eq_false_iff_not] at *; omega)])
      | (exact ⟨i + 1, ⟨hlt, hgo (by simp only [decide_eq_true_eq, decide_eq_false_iff_not] at *; omega)⟩, by omega, weak_of (by repeat' (first | exact trivial | refine ⟨rfl, ?_⟩ | refine ⟨(inc_get (k := i) (by kernel_rfl) (by omega)), ?_⟩))⟩)
      | ((exfalso; simp only [List.length_map, decide_eq_true_eq, decide_eq_false_iff_not] at *; omega))
      | fail)
  · have hie : i = l.length := by have := hi.1; omega
    have hok : R = 0 := by
      rw [hu, if_pos]
      have := hi.2; rw [hie, List.take_length] at this
      exact List.all_eq_true.2 fun v hv => by simpa using this v hv
    subst hie
    repeat' (first
      | refine zW ?_
      | refine zB ?_ ?_ <;> intro h <;> try exact zk h
      | (show _ = _; rw [hok])
      | ((exfalso; simp only [List.length_map, decide_eq_true_eq, decide_eq_false_iff_not] at *; omega))
      | fail)
theorem checkRaw (r : Raw) (t : Int) : KnownCall Try.prog 89 [rw5 r, iI t] (.d (iI (chkR r t))) := by
  by_cases h1 : t < 1 ∨ 8 < t
  · have he : chkR r t = 2 := by
      unfold chkR; rcases h1 with h | h
      · rw [if_pos h]
      · rw [if_neg (by omega), if_pos h]
    rw [he]
    refine kF Try.func89 [2] fun w => ?_
    repeat' (first
      | refine zW ?_
      | refine zB ?_ ?_ <;> intro h <;> try exact zk h
      | rfl
      | ((exfalso; simp only [decide_eq_true_eq, decide_eq_false_iff_not] at *; omega))
      | fail)
  by_cases h2 : r.n < 0 ∨ 4 < r.n
  · have he : chkR r t = 3 := by
      unfold chkR; rw [if_neg (by omega), if_neg (by omega)]; rcases h2 with h | h
      · rw [if_pos h]
      · rw [if_neg (by omega), if_pos h]
    rw [he]
    refine kF Try.func89 [2] fun w => ?_
    repeat' (first
      | refine zW ?_
      | refine zB ?_ ?_ <;> intro h <;> try exact zk h
      | rfl
      | ((exfalso; simp only [decide_eq_true_eq, decide_eq_false_iff_not] at *; omega))
      | fail)
  obtain ⟨n, a, b, c, d⟩ := r
  simp only at h2
  obtain ⟨m, hm⟩ : ∃ m : Nat, n = m := ⟨n.toNat, by omega⟩
  subst hm
  have hbd : ¬ (([a, b, c, d] : List Int).drop m).all (fun v => decide (v = 0)) = true → chkR ⟨(m : Nat), a, b, c, d⟩ t = 3 := fun h => by
    unfold chkR; rw [if_neg (by omega), if_neg (by omega), if_neg (by simp only []; omega), if_neg (by simp only []; omega)]
    exact if_neg h
  rcases (show m = 0 ∨ m = 1 ∨ m = 2 ∨ m = 3 ∨ m = 4 by omega) with rfl | rfl | rfl | rfl | rfl
  · by_cases hz : a = 0 ∧ b = 0 ∧ c = 0 ∧ d = 0
    · obtain ⟨rfl, rfl, rfl, rfl⟩ := hz
      exact checkRawI [] (by simp) t h1
    · have he := hbd (by simpa using hz)
      rw [he]
      have c := ofI [] (by simp)
      refine kF Try.func89 [2] fun w => ?_
      repeat' (first
        | refine zW ?_
        | refine zB ?_ ?_ <;> intro h <;> try exact zk h
        | refine zC (c) ?_
        | rfl
        | ((exfalso; first | (simp only [decide_eq_true_eq, decide_eq_false_iff_not] at *; omega) | (simp at h; exact hz (by omega)) | (simp at *; omega)))
        | fail)
  · by_cases hz : b = 0 ∧ c = 0 ∧ d = 0
    · obtain ⟨rfl, rfl, rfl⟩ := hz
      exact checkRawI [a] (by simp) t h1
    · have he := hbd (by simpa using hz)
      rw [he]
      have c := ofI [a] (by simp)
      refine kF Try.func89 [2] fun w => ?_
      repeat' (first
        | refine zW ?_
        | refine zB ?_ ?_ <;> intro h <;> try exact zk h
        | refine zC (c) ?_
        | rfl
        | ((exfalso; first | (simp only [decide_eq_true_eq, decide_eq_false_iff_not] at *; omega) | (simp at h; exact hz (by omega)) | (simp at *; omega)))
        | fail)
  · by_cases hz : c = 0 ∧ d = 0
    · obtain ⟨rfl, rfl⟩ := hz
      exact checkRawI [a, b] (by simp) t h1
    · have he := hbd (by simpa using hz)
      rw [he]
      have c := ofI [a, b] (by simp)
      refine kF Try.func89 [2] fun w => ?_
      repeat' (first
        | refine zW ?_
        | refine zB ?_ ?_ <;> intro h <;> try exact zk h
        | refine zC (c) ?_
        | rfl
        | ((exfalso; first | (simp only [decide_eq_true_eq, decide_eq_false_iff_not] at *; omega) | (simp at h; exact hz (by omega)) | (simp at *; omega)))
        | fail)
  · by_cases hz : d = 0
    · obtain ⟨rfl⟩ := hz
      exact checkRawI [a, b, c] (by simp) t h1
    · have he := hbd (by simpa using hz)
      rw [he]
      have c := ofI [a, b, c] (by simp)
      refine kF Try.func89 [2] fun w => ?_
      repeat' (first
        | refine zW ?_
        | refine zB ?_ ?_ <;> intro h <;> try exact zk h
        | refine zC (c) ?_
        | rfl
        | ((exfalso; first | (simp only [decide_eq_true_eq, decide_eq_false_iff_not] at *; omega) | (simp at h; exact hz (by omega)) | (simp at *; omega)))
        | fail)
  · exact checkRawI [a, b, c, d] (by simp) t h1
def dec (r : Raw) : List Nat := (r.s.map Int.toNat).take r.n.toNat
theorem dec_of {l : List Nat} (h : l.length ≤ 4) : dec (rawOf l) = l := by
  match l, h with
  | [], _ => rfl
  | [a], _ => rfl
  | [a, b], _ => rfl
  | [a, b, c], _ => rfl
  | [a, b, c, d], _ => rfl
def pv (L : List Raw) : Nat → Option Raw
  | 0 => none
  | j + 1 => L[j]?
theorem drop_at {α : Type} {L : List α} {i : Nat} {x : α} (h : L[i]? = some x) : L.drop i = x :: L.drop (i + 1) := by
  obtain ⟨h1, h2⟩ := List.getElem?_eq_some_iff.1 h
  rw [List.drop_eq_getElem_cons h1, h2]
def sizE (k t : Int) : Int := if k < 1 ∨ 4 < k ∨ t < 1 ∨ 8 < t then 2 else 0
def chkW (k t : Int) : Option Raw → List Raw → Int
  | _, [] => 0
  | none, r :: L => if chkR r t = 0 then (if k < r.n then 2 else chkW k t (some r) L) else chkR r t
  | some q, r :: L => if chkR r t = 0 then (if k < r.n then 2 else if 0 ≤ cmpL (dec q) (dec r) then 9 else chkW k t (some r) L) else chkR r t
def setE (k t : Int) (L : List Raw) : Int := if L.length = 0 then 20 else chkW k t none L
theorem chkW_nil (k t : Int) (p : Option Raw) : chkW k t p [] = 0 := by cases p <;> rfl
theorem chkW_bad {k t : Int} {p : Option Raw} {r : Raw} {L : List Raw} (h : chkR r t ≠ 0) : chkW k t p (r :: L) = chkR r t := by cases p <;> simp [chkW, h]
theorem chkW_long {k t : Int} {p : Option Raw} {r : Raw} {L : List Raw} (h : chkR r t = 0) (hk : k < r.n) : chkW k t p (r :: L) = 2 := by cases p <;> simp [chkW, h, hk]
theorem sizesK (k t : Int) : KnownCall Try.prog 53 [iI k, iI t] (.d (iI (sizE k t))) := by
  by_cases h1 : k < 1 ∨ 4 < k ∨ t < 1 ∨ 8 < t
  · rw [show sizE k t = 2 by unfold sizE; rw [if_pos h1]]
    refine kF Try.func53 [] fun w => ?_
    repeat' (first
      | refine zW ?_
      | refine zB ?_ ?_ <;> intro h <;> try exact zk h
      | rfl
      | ((exfalso; simp only [decide_eq_true_eq, decide_eq_false_iff_not] at *; omega))
      | fail)
  · rw [show sizE k t = 0 by unfold sizE; rw [if_neg h1]]
    refine kF Try.func53 [] fun w => ?_
    repeat' (first
      | refine zW ?_
      | refine zB ?_ ?_ <;> intro h <;> try exact zk h
      | rfl
      | ((exfalso; simp only [decide_eq_true_eq, decide_eq_false_iff_not] at *; omega))
      | fail)
theorem numbers18 (k t : Int) : KnownCall Try.prog 60 [iI k, iI t] (.d (.bool (decide (sizE k t = 0)))) := by
  by_cases h1 : k < 1 ∨ 4 < k ∨ t < 1 ∨ 8 < t
  · rw [show sizE k t = 2 by unfold sizE; rw [if_pos h1]]
    refine kF Try.func60 [] fun w => ?_
    repeat' (first
      | refine zW ?_
      | refine zB ?_ ?_ <;> intro h <;> try exact zk h
      | rfl
      | ((exfalso; simp only [decide_eq_true_eq, decide_eq_false_iff_not] at *; omega))
      | fail)
  · rw [show sizE k t = 0 by unfold sizE; rw [if_neg h1]]
    refine kF Try.func60 [] fun w => ?_
    repeat' (first
      | refine zW ?_
      | refine zB ?_ ?_ <;> intro h <;> try exact zk h
      | rfl
      | ((exfalso; simp only [decide_eq_true_eq, decide_eq_false_iff_not] at *; omega))
      | fail)
theorem before18 (x y : List Nat) (hx : Rt x) (hy : Rt y) : KnownCall Try.prog 94 [lk x, lk y] (.d (.bool (decide (cmpL x y ≤ 0)))) := by
  have c := compareRef x y hx hy
  generalize cmpL x y = e at *
  refine kF Try.func94 [2, 3] fun w => ?_
  repeat' (first
    | refine zW ?_
    | refine zB ?_ ?_ <;> intro h <;> try exact zk h
    | refine zX ?_
    | refine zC (c) ?_
    | (show _ = _; rw [h])
    | fail)
theorem setW (k t : Int) (L : List Raw) (hl : L.length ≤ 1048576) : KnownCall Try.prog 54 [iI k, iI t, rws L] (.d (iI (setE k t L))) := by
  by_cases h1 : L.length = 0
  · rw [show setE k t L = 20 by unfold setE; rw [if_pos h1]]
    refine kF Try.func54 [] fun w => ?_
    repeat' (first
      | refine zW ?_
      | refine zB ?_ ?_ <;> intro h <;> try exact zk h
      | rfl
      | ((exfalso; simp [h1] at h))
      | fail)
  rw [show setE k t L = chkW k t none L by unfold setE; rw [if_neg h1]]
  generalize hR : chkW k t none L = R
  refine kF Try.func54 [] fun w => ?_
  repeat' (first
    | refine zW ?_
    | refine zB ?_ ?_ <;> intro h <;> try exact zk h
    | ((exfalso; simp only [List.length_map, beq_iff_eq] at h; omega))
    | fail)
  refine Run.loopT (fun i : Nat => ⟨PT.ofList [(0, .d (iI k)), (1, .d (iI t)), (2, .d (rws L)), (15, .d (rws L)), (16, .d (nI (L.map rw5).length)), (17, .d (nI i))], [], []⟩) (fun i => i ≤ L.length ∧ chkW k t (pv L i) (L.drop i) = R ∧ ∀ q, pv L i = some q → chkR q t = 0) (fun i => L.length - i) 0 ⟨Nat.zero_le _, hR, by simp [pv]⟩ (ti _ 0) (fun i hi => ?_)
  obtain ⟨hi1, hi2, hi3⟩ := hi
  rcases Nat.lt_or_ge i L.length with hlt | hge
  · obtain ⟨r, hr⟩ := get_ok hlt
    have c1 := checkRaw r t
    rw [drop_at hr] at hi2
    by_cases h0 : chkR r t = 0
    · rw [h0] at c1
      by_cases hk : k < r.n
      · rw [chkW_long h0 hk] at hi2
        subst hi2
        repeat' (first
          | refine zW ?_
          | refine zB ?_ ?_ <;> intro h <;> try exact zk h
          | refine zC (c1) ?_
          | refine zI w (.d (.ep (rwC r))) hr ?_
          | rfl
          | ((exfalso; simp only [List.length_map, decide_eq_true_eq, decide_eq_false_iff_not] at *; omega))
          | fail)
      rcases i with _ | i
      · have hp1 : pv L 1 = some r := hr
        have hg : chkW k t (pv L 1) (L.drop 1) = R := by rw [hp1, ← hi2]; simp [pv, chkW, h0, hk]
        repeat' (first
          | refine zW ?_
          | refine zB ?_ ?_ <;> intro h <;> try exact zk h
          | refine zC (c1) ?_
          | refine zI w (.d (.ep (rwC r))) hr ?_
          | (exact ⟨1, ⟨hlt, hg, fun q e => by rw [hp1] at e; cases e; exact h0⟩, by omega, (ti _ 0)⟩)
          | ((exfalso; simp only [List.length_map, decide_eq_true_eq, decide_eq_false_iff_not] at *; omega))
          | fail)
      · obtain ⟨q, hq⟩ := get_ok (show i < L.length by omega)
        have hq0 := hi3 q hq
        have hpq : pv L (i + 1) = some q := hq
        rw [hpq] at hi2
        obtain ⟨_, _, x, hx, e1, _⟩ := chkR_raw hq0
        obtain ⟨_, _, y, hy, e2, _⟩ := chkR_raw h0
        have c2 := compareK x y hx hy
        have hdx : dec q = x := by rw [e1, dec_of hx.len]
        have hdy : dec r = y := by rw [e2, dec_of hy.len]
        simp only [chkW, h0, if_true, if_neg hk, hdx, hdy] at hi2
        have hsub : AV.d (.int .i64 (IntKind.i64.wrap (((i + 1 : Nat) : Int) - 1))) = .d (nI i) := by
          congr 2; rw [show ((i + 1 : Nat) : Int) - 1 = (i : Nat) by omega]; exact wrap_nat (by omega)
        have hp2 : pv L (i + 2) = some r := hr
        have hgo : ¬ 0 ≤ cmpL x y → chkW k t (pv L (i + 2)) (L.drop (i + 2)) = R := fun h => by rw [if_neg h] at hi2; rw [hp2]; exact hi2
        have hbd : 0 ≤ cmpL x y → 9 = R := fun h => by rw [if_pos h] at hi2; exact hi2
        subst e1 e2
        generalize cmpL x y = e at *
        repeat' (first
          | refine zV hsub ?_
          | refine zW ?_
          | refine zB ?_ ?_ <;> intro h <;> try exact zk h
          | refine zC (c1) ?_
          | refine zC (c2) ?_
          | refine zI w (.d (.ep (lkC y))) hr ?_
          | refine zI w (.d (.ep (lkC x))) hq ?_
          | (show _ = _; rw [hbd (by simp only [decide_eq_true_eq] at *; assumption)])
          | (exact ⟨i + 2, ⟨hlt, hgo (by simp only [decide_eq_false_iff_not] at *; assumption), fun q e => by rw [hp2] at e; cases e; exact h0⟩, by omega, (ti _ 0)⟩)
          | ((exfalso; simp only [List.length_map, decide_eq_true_eq, decide_eq_false_iff_not] at *; omega))
          | fail)
    · rw [chkW_bad h0] at hi2
      rw [hi2] at c1
      have hR0 : R ≠ 0 := by rw [← hi2]; exact h0
      repeat' (first
        | refine zW ?_
        | refine zB ?_ ?_ <;> intro h <;> try exact zk h
        | refine zC (c1) ?_
        | refine zI w (.d (.ep (rwC r))) hr ?_
        | rfl
        | ((exfalso; first | exact hR0 (by simpa using h) | (simp only [List.length_map, decide_eq_true_eq, decide_eq_false_iff_not] at *; omega)))
        | fail)
  · have hie : i = L.length := by omega
    subst hie
    rw [List.drop_length, chkW_nil] at hi2
    subst hi2
    repeat' (first
      | refine zW ?_
      | refine zB ?_ ?_ <;> intro h <;> try exact zk h
      | rfl
      | ((exfalso; simp only [List.length_map, decide_eq_true_eq, decide_eq_false_iff_not] at *; omega))
      | fail)
structure Nd where
  (x : List Int)
  (p : Int)
abbrev ndC (n : Nd) : List DV := n.x.map iI ++ [iI n.p]
abbrev nd (n : Nd) : DV := .agg (ndC n)
def N9 (N : List Nd) : Prop := ∀ n ∈ N, n.x.length = 9
abbrev flN (N : List Nd) : List DV := N.flatMap ndC
theorem flN_len {N : List Nd} (h : N9 N) : (flN N).length = N.length * 10 := by
  induction N with
  | nil => rfl
  | cons n N ih =>
    have h9 := h n (by simp)
    have := ih fun m hm => h m (by simp [hm])
    simp only [flN, List.flatMap_cons, List.length_append, List.length_map, List.length_cons, List.length_nil] at this ⊢
    omega
theorem flN_get : ∀ {N : List Nd} {i j : Nat} {n : Nd}, N9 N → N[i]? = some n → j < 10 → (flN N)[i * 10 + j]? = (ndC n)[j]?
  | m :: N, 0, j, n, h, hn, hj => by
    simp at hn; subst hn
    have h9 := h m (by simp)
    simp only [flN, List.flatMap_cons, Nat.zero_mul, Nat.zero_add]
    rw [List.getElem?_append_left (by simp; omega)]
  | m :: N, i + 1, j, n, h, hn, hj => by
    have h9 := h m (by simp)
    simp only [flN, List.flatMap_cons]
    rw [List.getElem?_append_right (by simp; omega)]
    have := flN_get (N := N) (i := i) (j := j) (fun m hm => h m (by simp [hm])) (by simpa using hn) hj
    rw [← this]; congr 1; simp; omega
  | [], _, _, _, _, hn, _ => by simp at hn
theorem flN_set : ∀ {N : List Nd} {i j : Nat} {n m : Nd} {c : Int}, N9 N → N[i]? = some n → j < 10 → (ndC n).set j (iI c) = ndC m → (flN N).set (i * 10 + j) (iI c) = flN (N.set i m)
  | a :: N, 0, j, n, m, c, h, hn, hj, e => by
    simp at hn; subst hn
    have h9 := h a (by simp)
    simp only [flN, List.flatMap_cons, List.set_cons_zero, Nat.zero_mul, Nat.zero_add]
    rw [List.set_append_left _ _ (by simp; omega), e]
  | a :: N, i + 1, j, n, m, c, h, hn, hj, e => by
    have h9 := h a (by simp)
    have := flN_set (N := N) (i := i) (j := j) (c := c) (fun m hm => h m (by simp [hm])) (by simpa using hn) hj e
    simp only [flN, List.flatMap_cons, List.set_cons_succ] at this ⊢
    rw [List.set_append_right _ _ (by simp; omega), ← this]; congr 2; simp; omega
  | [], _, _, _, _, _, _, hn, _, _ => by simp at hn
abbrev vecN (N : List Nd) : Ob := .vec 87 true 10 N.length ((flN N).map AV.d)
theorem set_cut {α : Type} {l : List α} {i : Nat} {c : α} (h : i < l.length) : l.take i ++ [c] ++ l.drop (i + 1) = l.set i c := by
  rw [List.set_eq_take_append_cons_drop, if_pos h]; simp
section
variable {frz : List Nat} {rd : Operand → AV} {objs : List Ob} {o : Oper}
theorem evAny_appN {args : Array Operand} {tys : Array TypeId} {a b : Operand} {x : Nd} {i : Nat} {N : List Nd} {n : Nat} (hN : N9 N) (hnl : N.length = n) (hx : x.x.length = 9) (hop : o.op = .call ⟨.builtin .append, args, tys⟩) (ha : args.toList = [a, b]) (ht : tys.toList = [27, 27])
    (hb : rd b = .d (.sl 10 [nd x])) (h7 : rd a = .vs i 10 0 n) (h8 : objs[i]? = some (vecN N)) (hlen : N.length ≤ 1048575) :
    evAny Et H0 frz rd objs o = some (.vs objs.length 10 0 (n + 1), some (objs.set i .gone ++ [vecN (N ++ [x])]), true) := by
  subst hnl
  obtain ⟨dst, op, ty, pos, after, guard⟩ := o
  simp only at hop
  subst hop
  have hs : appSrc0 Et 87 27 (.d (.sl 10 [nd x])) objs = some (10, [nd x]) := rfl
  have e1 : Et.get? 27 = some ty27 := rfl
  have e2 : Et.get? 87 = some ty87 := rfl
  have hsz : srcSz 10 ty87.size [nd x] = 10 := by
    simp [srcSz, hx]
  have ht2 : List.take (N.length * 10) ((flN N).map AV.d) = (flN N).map AV.d := List.take_of_length_le (by rw [List.length_map, flN_len hN]; exact Nat.le_refl _)
  have hm : Nat.ble ((N.length + 1) * ty87.bytes) 1099511627776 = true := Nat.ble_eq_true_of_le (Nat.le_trans (Nat.mul_le_mul (show N.length + 1 ≤ 1048576 by omega) (Nat.le_refl _)) (by decide))
  have hn : Nat.ble N.length N.length = true := Nat.ble_eq_true_of_le (Nat.le_refl _)
  have e3 : (flN N).map AV.d ++ (flatD [nd x]).map AV.d = (flN (N ++ [x])).map AV.d := by
    rw [← List.map_append]; congr 1; simp [flN, flatD, cellsD]
  have e4 : (N ++ [x]).length = N.length + 1 := by simp
  have e5 : vecN (N ++ [x]) = .vec 87 true 10 (N.length + 1) (List.take (N.length * 10) ((flN N).map AV.d) ++ (flatD [nd x]).map AV.d) := by rw [ht2, e3, vecN, e4]
  rw [e5]
  simp only [evAny, ha, ht, hb, h7, appendR, e1]
  show Option.map _ (match some ty87, appSrc0 Et 87 27 (.d (.sl 10 [nd x])) objs with
    | some z, some (szx, ys) => _
    | _, _ => none) = _
  rw [hs]
  simp only [h8, hsz]
  rw [if_pos (by rfl), if_pos (by rfl)]
  simp only [Option.map_some, List.length_cons, List.length_nil, Nat.zero_add, hn, hm, Bool.and_self]
end
section
variable {E : PT Ty} {H : Hd} {frz : List Nat} {rd : Operand → AV} {objs : List Ob} {o : Oper} {t : TypeId} {x xv : Operand} {y : Ty} {i off sz n : Nat} {T : TypeId} {ag : Bool} {cs : List AV} {c : AV}
theorem evAny_loadV (hop : o.op = .load t x) (h1 : E.get? t = some y) (ha : isAggT y.desc = false) (hx : rd x = .bp i off) (hi : objs[i]? = some (.vec T ag sz n cs)) (hc : cs[off]? = some c) : evAny E H frz rd objs o = some (c, none, true) := by
  obtain ⟨dst, op, ty, pos, after, guard⟩ := o
  simp only at hop
  subst hop
  cases cs with
  | nil => simp at hc
  | cons a l => simp only [evAny, quiet, evOp, loadR, h1, hx, hi, obCells, ha, hc, pureR, if_true, Option.map_some]
theorem evAny_storeV (hop : o.op = .store t x xv) (h1 : E.get? t = some y) (hs : y.size = 1) (hx : rd x = .bp i off) (hv : rd xv = c) (hk : knownA c = true) (hl : c.cells = [c]) (hi : objs[i]? = some (.vec T ag sz n cs)) (hc : off < cs.length) :
    evAny E H frz rd objs o = some (.d .any, some (objs.set i (.vec T ag sz n (cs.take off ++ [c] ++ cs.drop (off + 1)))), true) := by
  obtain ⟨dst, op, ty, pos, after, guard⟩ := o
  simp only at hop
  subst hop
  cases cs with
  | nil => simp at hc
  | cons a l =>
    have hb : Nat.ble (off + 1) (a :: l).length = true := Nat.ble_eq_true_of_le hc
    simp only [evAny, quiet, evOp, storeR, h1, hx, hv, hi, obCells, hk, hl, hs, hb, List.length_cons, List.length_nil, pureR, Bool.and_self, if_true, Option.map_some, obPut]
    simp [hb]
    simp only [List.length_cons] at hc
    omega
end
theorem ref_vecN (N : List Nd) (k : Nat) : refOb k (vecN N) = true := by
  show ((flN N).map AV.d).all (refA 8 k) = true
  rw [List.all_eq_true]; intro x hx
  obtain ⟨d, _, rfl⟩ := List.mem_map.1 hx; rfl
theorem ref_vN1 (N : List Nd) (k : Nat) : [vecN N].all (refOb k) = true := by
  simp only [List.all_cons, List.all_nil, Bool.and_true, ref_vecN]
theorem stepHas (N : List Nd) (h9 : N9 N) (a e : Nat) (n : Nd) (c : Int) (ha : N[a]? = some n) (he : e < 9) (hc : n.x[e]? = some c) (h0 : c ≠ 0) : ACall Try.prog 95 [.agg [.vs 0 10 0 N.length], .d (nI a), .d (nI e)] [vecN N] (.tup [.agg [.vs 0 10 0 N.length], .d (iI c)]) [vecN N] := by
  have w : Fz [30] := trivial
  have hal : a < N.length := (List.getElem?_eq_some_iff.1 ha).1
  have h9n := h9 n (List.mem_of_getElem? ha)
  have hcell : ((flN N).map AV.d)[a * 10 + e]? = some (.d (iI c)) := by
    rw [List.getElem?_map, flN_get h9 ha (by omega), List.getElem?_append_left (by simp; omega), List.getElem?_map, hc]; rfl
  refine acallW_of_run Et_ok (fnB Try.func95 [30]) rfl rfl rfl (ref_vN1 N _) rfl ?_
  repeat' (first
    | refine zW ?_
    | refine zB ?_ ?_ <;> intro h <;> try exact zk h
    | refine zCut rfl ?_
    | refine oV (v := .d (iI c)) ?_ (hv := evAny_loadV (c := .d (iI c)) rfl rfl rfl rfl rfl (by first | (simpa [ty87, ty3] using hcell) | fail))
    | refine eX (v := .d (iI c)) ?_ (hv := evAny_loadV (c := .d (iI c)) rfl rfl rfl rfl rfl (by first | (simpa [ty87, ty3] using hcell) | fail))
    | ((exfalso; exact h0 (by simpa using h)))
    | fail)
  refine Run.ret ?_
  exact ⟨trivial, _, _, rfl, rfl, .refl, wkE⟩
end Go.Av
end
noncomputable section
namespace Go.Av
set_option maxRecDepth 10000
abbrev TE := List (Nat × Nat)
def toT (Q : TE) (a e : Nat) : Nat := if (a, e) ∈ Q then Q.idxOf (a, e) + 1 else 0
structure Trt where
  (q : TE)
  (v : List Int)
def ndT (T : Trt) (a : Nat) : Nd := ⟨(List.range 9).map fun e => (toT T.q a e : Int), T.v.getD a (-1)⟩
def rowT (T : Trt) : List Nd := (List.range (T.q.length + 1)).map (ndT T)
def stepT (T : Trt) (a e : Nat) : Trt := if (a, e) ∈ T.q then T else ⟨T.q ++ [(a, e)], T.v ++ [-1]⟩
structure OkT (T : Trt) : Prop where
  len : T.v.length = T.q.length + 1
  nd : T.q.Nodup
  le : ∀ (i : Nat) a e, T.q[i]? = some (a, e) → a ≤ i ∧ e ≤ 8
theorem rowT_len (T : Trt) : (rowT T).length = T.q.length + 1 := by simp [rowT]
theorem rowT_9 (T : Trt) : N9 (rowT T) := by
  intro n hn
  obtain ⟨a, _, rfl⟩ := List.mem_map.1 hn
  simp [ndT]
theorem rowT_get {T : Trt} {a : Nat} (h : a ≤ T.q.length) : (rowT T)[a]? = some (ndT T a) := by
  rw [rowT, List.getElem?_map, List.getElem?_range (by omega)]; rfl
theorem ndT_x {T : Trt} {a e : Nat} (h : e < 9) : (ndT T a).x[e]? = some (toT T.q a e : Int) := by
  rw [ndT, List.getElem?_map, List.getElem?_range h]; rfl
theorem toT_mem {Q : TE} {a e : Nat} (h : (a, e) ∈ Q) : toT Q a e = Q.idxOf (a, e) + 1 := by rw [toT, if_pos h]
theorem toT_not {Q : TE} {a e : Nat} (h : (a, e) ∉ Q) : toT Q a e = 0 := by rw [toT, if_neg h]
theorem toT_lt {Q : TE} {a e : Nat} : toT Q a e ≤ Q.length := by
  by_cases h : (a, e) ∈ Q
  · rw [toT_mem h]; exact List.idxOf_lt_length_of_mem h
  · rw [toT_not h]; omega
theorem toT_app {Q : TE} {a e b f : Nat} (h : (b, f) ∉ Q) : toT (Q ++ [(b, f)]) a e = if (a, e) = (b, f) then Q.length + 1 else toT Q a e := by
  by_cases h1 : (a, e) = (b, f)
  · rw [if_pos h1, toT_mem (by rw [h1]; simp), h1, List.idxOf_append, if_neg h]; simp
  · rw [if_neg h1]
    by_cases h2 : (a, e) ∈ Q
    · rw [toT_mem h2, toT_mem (by simp [h2]), List.idxOf_append, if_pos h2]
    · rw [toT_not h2, toT_not (by simp only [List.mem_append, List.mem_cons, List.not_mem_nil, or_false]; exact fun h => h.elim h2 h1)]
theorem stepT_ok {T : Trt} (h : OkT T) {a e : Nat} (ha : a ≤ T.q.length) (he : e ≤ 8) : OkT (stepT T a e) := by
  unfold stepT
  split
  · exact h
  · rename_i hn
    refine ⟨by simp [h.len], ?_, fun i b f hi => ?_⟩
    · rw [List.nodup_append]
      exact ⟨h.nd, by simp, fun x hx y hy => by simp at hy; subst hy; exact fun e => hn (e ▸ hx)⟩
    · simp only at hi
      rcases Nat.lt_or_ge i T.q.length with hlt | hge
      · rw [List.getElem?_append_left hlt] at hi; exact h.le i b f hi
      · rw [List.getElem?_append_right hge] at hi
        have : i - T.q.length = 0 := by
          rcases Nat.eq_zero_or_pos (i - T.q.length) with h0 | h0
          · exact h0
          · rw [List.getElem?_eq_none (by simp; omega)] at hi; cases hi
        rw [this] at hi
        simp at hi
        obtain ⟨rfl, rfl⟩ := hi
        exact ⟨by omega, he⟩
theorem rowT_new {T : Trt} (h : OkT T) {a e : Nat} (ha : a ≤ T.q.length) (he : e < 9) (hn : (a, e) ∉ T.q) :
    rowT (stepT T a e) = (rowT T).set a ⟨(ndT T a).x.set e ((T.q.length + 1 : Nat) : Int), (ndT T a).p⟩ ++ [⟨List.replicate 9 0, -1⟩] := by
  rw [stepT, if_neg hn]
  refine List.ext_getElem? fun b => ?_
  rcases Nat.lt_trichotomy b (T.q.length + 1) with hb | hb | hb
  · rw [rowT_get (by simp; omega), List.getElem?_append_left (by simp [rowT_len]; omega)]
    have hv : (T.v ++ [-1]).getD b (-1) = T.v.getD b (-1) := by
      have := h.len
      rw [List.getD_eq_getElem?_getD, List.getD_eq_getElem?_getD, List.getElem?_append_left (by omega)]
    by_cases hab : a = b
    · subst hab
      rw [List.getElem?_set_self (by rw [rowT_len]; omega)]
      simp only [ndT, hv]
      congr 2
      refine List.ext_getElem? fun f => ?_
      by_cases hf : f < 9
      · rw [List.getElem?_map, List.getElem?_range hf, List.getElem?_set]
        simp only [Option.map_some, toT_app hn, List.length_map, List.length_range]
        by_cases hef : e = f
        · subst hef; simp [he]
        · rw [if_neg hef, if_neg (fun e' => hef (by cases e'; rfl)), List.getElem?_map, List.getElem?_range hf]; rfl
      · rw [List.getElem?_eq_none (by simp; omega), List.getElem?_eq_none (by simp; omega)]
    · rw [List.getElem?_set_ne hab, rowT_get (by omega)]
      simp only [ndT, hv]
      congr 2
      refine List.map_congr_left fun f _ => ?_
      rw [toT_app hn, if_neg (fun e' => hab (by cases e'; rfl))]
  · subst hb
    rw [rowT_get (by simp), List.getElem?_append_right (by simp [rowT_len])]
    simp only [List.length_set, rowT_len, Nat.sub_self, List.getElem?_cons_zero, ndT]
    congr 2
    · refine List.ext_getElem? fun f => ?_
      by_cases hf : f < 9
      · rw [List.getElem?_map, List.getElem?_range hf, List.getElem?_replicate, if_pos hf]
        simp only [Option.map_some]
        rw [toT_not]; · rfl
        intro hm
        simp only [List.mem_append, List.mem_cons, List.not_mem_nil, or_false] at hm
        rcases hm with hm | hm
        · obtain ⟨i, hi⟩ := List.getElem?_of_mem hm
          have := (h.le i _ _ hi).1
          have := (List.getElem?_eq_some_iff.1 hi).1
          omega
        · cases hm; omega
      · rw [List.getElem?_eq_none (by simp; omega), List.getElem?_eq_none (by simp; omega)]
    · have := h.len
      rw [List.getD_eq_getElem?_getD, ← this]; simp
  · rw [List.getElem?_eq_none (by simp [rowT_len]; omega), List.getElem?_eq_none (by simp [rowT_len]; omega)]
theorem rowT_set {T : Trt} (h : OkT T) {a : Nat} (ha : a ≤ T.q.length) (c : Int) : rowT ⟨T.q, T.v.set a c⟩ = (rowT T).set a ⟨(ndT T a).x, c⟩ := by
  refine List.ext_getElem? fun b => ?_
  have hl := h.len
  rcases Nat.lt_or_ge b (T.q.length + 1) with hb | hb
  · rw [rowT_get (by simp; omega)]
    by_cases hab : a = b
    · subst hab
      rw [List.getElem?_set_self (by rw [rowT_len]; omega)]
      simp only [ndT, List.getD_eq_getElem?_getD]
      rw [List.getElem?_set_self (by omega)]; rfl
    · rw [List.getElem?_set_ne hab, rowT_get (by omega)]
      simp only [ndT, List.getD_eq_getElem?_getD]
      rw [List.getElem?_set_ne hab]
  · rw [List.getElem?_eq_none (by simp [rowT_len]; omega), List.getElem?_eq_none (by simp [rowT_len]; omega)]
def walkT (T : Trt) (a : Nat) : List Nat → Trt × Nat
  | [] => (T, a)
  | e :: es => walkT (stepT T a e) (toT (stepT T a e).q a e) es
def edgesT (k : Nat) (x : List Nat) : List Nat := if x.length < k then x ++ [8] else x
def putT (k : Nat) (T : Trt) (x : List Nat × Int) : Trt := ⟨(walkT T 0 (edgesT k x.1)).1.q, (walkT T 0 (edgesT k x.1)).1.v.set (walkT T 0 (edgesT k x.1)).2 x.2⟩
def wasT (k : Nat) (T : Trt) (x : List Nat) : Int := (walkT T 0 (edgesT k x)).1.v.getD (walkT T 0 (edgesT k x)).2 (-1)
def insT (k : Nat) (T : Trt) : List (List Nat × Int) → Option Trt
  | [] => some T
  | x :: L => if wasT k T x.1 < 0 then insT k (putT k T x) L else none
def Tz0 : Trt := ⟨[], [-1]⟩
theorem Tz0_ok : OkT Tz0 := ⟨rfl, by simp [Tz0], fun i a e h => by simp [Tz0] at h⟩
def goT (Q : TE) (a : Nat) : List Nat → Option Nat
  | [] => some a
  | e :: es => if (a, e) ∈ Q then goT Q (toT Q a e) es else none
theorem goT_snoc {Q : TE} {e : Nat} : ∀ {es : List Nat} {a : Nat}, goT Q a (es ++ [e]) = (goT Q a es).bind fun b => if (b, e) ∈ Q then some (toT Q b e) else none
  | [], a => by simp [goT]
  | f :: es, a => by
    simp only [List.cons_append, goT]
    split
    · exact goT_snoc
    · rfl
theorem idx_inj {Q : TE} {x y : Nat × Nat} (hx : x ∈ Q) (hy : y ∈ Q) (h : Q.idxOf x = Q.idxOf y) : x = y := by
  have h1 := List.getElem_idxOf (List.idxOf_lt_length_of_mem hx)
  have h2 := List.getElem_idxOf (List.idxOf_lt_length_of_mem hy)
  rw [← h1, ← h2]; congr 1
theorem rev_ind {P : List Nat → Prop} (h0 : P []) (h1 : ∀ l e, P l → P (l ++ [e])) : ∀ l, P l := fun l => by
  have : ∀ l : List Nat, P l.reverse := fun l => by
    induction l with
    | nil => exact h0
    | cons a l ih => rw [List.reverse_cons]; exact h1 _ _ ih
  have := this l.reverse
  rwa [List.reverse_reverse] at this
theorem goT_inj {Q : TE} : ∀ (es : List Nat) {es' : List Nat} {n : Nat}, goT Q 0 es = some n → goT Q 0 es' = some n → es = es' := by
  have pos : ∀ {l : List Nat} {e n : Nat}, goT Q 0 (l ++ [e]) = some n → ∃ b, goT Q 0 l = some b ∧ (b, e) ∈ Q ∧ n = Q.idxOf (b, e) + 1 := by
    intro l e n h
    rw [goT_snoc] at h
    cases hb : goT Q 0 l with
    | none => rw [hb] at h; cases h
    | some b =>
      rw [hb] at h
      simp only [Option.bind_some] at h
      split at h
      · rename_i hm
        rw [toT_mem hm] at h
        exact ⟨b, rfl, hm, by simpa using h.symm⟩
      · cases h
  refine rev_ind (fun {es' n} h h' => ?_) (fun l e ih es' n h h' => ?_)
  · simp only [goT, Option.some.injEq] at h
    subst h
    rcases List.eq_nil_or_concat es' with rfl | ⟨l, e, rfl⟩
    · rfl
    · rw [List.concat_eq_append] at h'
      obtain ⟨b, _, _, h3⟩ := pos h'; omega
  · obtain ⟨b, h1, h2, h3⟩ := pos h
    rcases List.eq_nil_or_concat es' with rfl | ⟨l', e', rfl⟩
    · simp only [goT, Option.some.injEq] at h'; omega
    · rw [List.concat_eq_append] at h' ⊢
      obtain ⟨b', g1, g2, g3⟩ := pos h'
      have := idx_inj h2 g2 (by omega)
      cases this
      rw [ih h1 g1]
theorem goT_mono {Q R : TE} : ∀ {es : List Nat} {a n : Nat}, goT Q a es = some n → goT (Q ++ R) a es = some n
  | [], _, _, h => h
  | e :: es, a, n, h => by
    simp only [goT] at h ⊢
    split at h
    · rename_i hm
      have h1 : toT (Q ++ R) a e = toT Q a e := by rw [toT_mem hm, toT_mem (by simp [hm]), List.idxOf_append, if_pos hm]
      rw [if_pos (by simp [hm]), h1]
      exact goT_mono h
    · cases h
theorem goT_le {Q : TE} : ∀ {es : List Nat} {a n : Nat}, a ≤ Q.length → goT Q a es = some n → n ≤ Q.length
  | [], a, n, h, hn => by simp only [goT, Option.some.injEq] at hn; omega
  | e :: es, a, n, h, hn => by
    simp only [goT] at hn
    split at hn
    · exact goT_le toT_lt hn
    · cases hn
structure WalkOK (T T' : Trt) (a : Nat) (es : List Nat) (n : Nat) : Prop where
  ok : OkT T'
  go : goT T'.q a es = some n
  ext : ∃ R, T'.q = T.q ++ R ∧ T'.v = T.v ++ List.replicate R.length (-1) ∧ R.length ≤ es.length
theorem stepT_ext (T : Trt) (a e : Nat) : ∃ R, (stepT T a e).q = T.q ++ R ∧ (stepT T a e).v = T.v ++ List.replicate R.length (-1) ∧ R.length ≤ 1 ∧ (a, e) ∈ (stepT T a e).q := by
  unfold stepT
  split
  · rename_i h; exact ⟨[], by simp, by simp, by simp, h⟩
  · exact ⟨[(a, e)], rfl, rfl, by simp, by simp⟩
theorem walkT_ok : ∀ {es : List Nat} {T : Trt} {a : Nat}, OkT T → a ≤ T.q.length → (∀ e ∈ es, e ≤ 8) → WalkOK T (walkT T a es).1 a es (walkT T a es).2
  | [], T, a, h, ha, _ => ⟨h, rfl, [], by simp [walkT], by simp [walkT], by simp⟩
  | e :: es, T, a, h, ha, he => by
    obtain ⟨R, r1, r2, r3, r4⟩ := stepT_ext T a e
    obtain ⟨g1, g2, S, s1, s2, s3⟩ := walkT_ok (es := es) (stepT_ok h ha (he e (by simp))) (a := toT (stepT T a e).q a e) toT_lt (fun f hf => he f (by simp [hf]))
    refine ⟨g1, ?_, R ++ S, ?_, ?_, by simp; omega⟩
    · have hm : (a, e) ∈ (walkT T a (e :: es)).1.q := by
        show (a, e) ∈ (walkT (stepT T a e) _ es).1.q
        rw [s1]; simp [r4]
      have ht : toT (walkT T a (e :: es)).1.q a e = toT (stepT T a e).q a e := by
        rw [toT_mem hm, toT_mem r4]
        show (walkT (stepT T a e) _ es).1.q.idxOf (a, e) + 1 = _
        rw [s1, List.idxOf_append, if_pos r4]
      simp only [goT]
      rw [if_pos hm, ht]; exact g2
    · show (walkT (stepT T a e) _ es).1.q = _
      rw [s1, r1, List.append_assoc]
    · show (walkT (stepT T a e) _ es).1.v = _
      rw [s2, r2, List.append_assoc, List.length_append, ← List.replicate_append_replicate]
theorem goT_all {T : Trt} (h : OkT T) : ∀ n, n ≤ T.q.length → ∃ es, goT T.q 0 es = some n ∧ ∀ e ∈ es, e ≤ 8 := by
  intro n
  induction n using Nat.strongRecOn with
  | _ n ih =>
    intro hn
    cases n with
    | zero => exact ⟨[], rfl, by simp⟩
    | succ i =>
      have hi : i < T.q.length := by omega
      obtain ⟨ha, he⟩ := h.le i T.q[i].1 T.q[i].2 (by simp [hi])
      obtain ⟨es, h1, h2⟩ := ih T.q[i].1 (by omega) (by omega)
      refine ⟨es ++ [T.q[i].2], ?_, fun e hm => ?_⟩
      · have hm : (T.q[i].1, T.q[i].2) ∈ T.q := List.getElem_mem hi
        rw [goT_snoc, h1]
        simp only [Option.bind_some]
        rw [if_pos hm, toT_mem hm]
        rw [show T.q.idxOf (T.q[i].1, T.q[i].2) = i from List.Nodup.idxOf_getElem h.nd i hi]
      · rcases List.mem_append.1 hm with h3 | h3
        · exact h2 e h3
        · simp at h3; omega
structure HasT (T : Trt) (S : List (List Nat × Int)) : Prop where
  ok : OkT T
  has : ∀ es c, (es, c) ∈ S → ∃ n, goT T.q 0 es = some n ∧ T.v[n]? = some c
  none : ∀ es n, goT T.q 0 es = some n → (∀ c, (es, c) ∉ S) → T.v[n]? = some (-1)
theorem HasT.zero : HasT Tz0 [] := ⟨Tz0_ok, by simp, fun es n h _ => by
  cases es with
  | nil => simp [goT] at h; subst h; rfl
  | cons e es => simp [goT, Tz0] at h⟩
theorem HasT.walk {T : Trt} {S : List (List Nat × Int)} (h : HasT T S) {es : List Nat} (he : ∀ e ∈ es, e ≤ 8) :
    (walkT T 0 es).2 ≤ (walkT T 0 es).1.q.length ∧ (∀ c, (es, c) ∈ S → (walkT T 0 es).1.v[(walkT T 0 es).2]? = some c) ∧ ((∀ c, (es, c) ∉ S) → (walkT T 0 es).1.v[(walkT T 0 es).2]? = some (-1)) ∧ HasT (walkT T 0 es).1 S := by
  obtain ⟨g1, g2, R, r1, r2, r3⟩ := walkT_ok (es := es) h.ok (a := 0) (Nat.zero_le _) he
  generalize (walkT T 0 es).1 = T' at *
  generalize (walkT T 0 es).2 = n at *
  have hvl := h.ok.len
  have old : ∀ {es' : List Nat} {m : Nat}, goT T.q 0 es' = some m → goT T'.q 0 es' = some m := fun h => by rw [r1]; exact goT_mono h
  have hv : ∀ m, m ≤ T.q.length → T'.v[m]? = T.v[m]? := fun m hm => by rw [r2, List.getElem?_append_left (by omega)]
  have hn' : ∀ m, T.q.length < m → m ≤ T'.q.length → T'.v[m]? = some (-1) := fun m h1 h2 => by
    rw [r1, List.length_append] at h2
    rw [r2, List.getElem?_append_right (by omega), List.getElem?_replicate, if_pos (by omega)]
  have hnone : ∀ es' m, goT T'.q 0 es' = some m → (∀ c, (es', c) ∉ S) → T'.v[m]? = some (-1) := fun es' m hg hS => by
    have hm := goT_le (Nat.zero_le _) hg
    rcases Nat.lt_or_ge T.q.length m with h1 | h1
    · exact hn' m h1 hm
    · obtain ⟨es2, h2, _⟩ := goT_all h.ok m h1
      have := goT_inj es' hg (old h2)
      subst this
      rw [hv m h1]; exact h.none _ _ h2 hS
  refine ⟨goT_le (Nat.zero_le _) g2, fun c hc => ?_, fun hS => hnone es n g2 hS, g1, fun es' c hc => ?_, hnone⟩
  · obtain ⟨m, h1, h2⟩ := h.has es c hc
    have : m = n := by have := old h1; rw [g2] at this; exact (Option.some.inj this).symm
    subst this
    rw [hv m (goT_le (Nat.zero_le _) h1)]; exact h2
  · obtain ⟨m, h1, h2⟩ := h.has es' c hc
    exact ⟨m, old h1, by rw [hv m (goT_le (Nat.zero_le _) h1)]; exact h2⟩
theorem edges8 {k : Nat} {x : List Nat} (h : ∀ e ∈ x, e < 8) : ∀ e ∈ edgesT k x, e ≤ 8 := by
  intro e he
  unfold edgesT at he
  split at he
  · rcases List.mem_append.1 he with h1 | h1
    · have := h e h1; omega
    · simp at h1; omega
  · have := h e he; omega
theorem edges_inj {k : Nat} {x y : List Nat} (hx : ∀ e ∈ x, e < 8) (hy : ∀ e ∈ y, e < 8) (h : edgesT k x = edgesT k y) : x = y := by
  unfold edgesT at h
  split at h <;> split at h
  · exact List.append_cancel_right h
  · exfalso; have := hy 8 (by rw [← h]; simp); omega
  · exfalso; have := hx 8 (by rw [h]; simp); omega
  · exact h
theorem putT_has {k : Nat} {T : Trt} {S : List (List Nat × Int)} (h : HasT T S) {x : List Nat} {p : Int} (hx : ∀ e ∈ x, e < 8) (hS : ∀ c, (edgesT k x, c) ∉ S) : HasT (putT k T (x, p)) ((edgesT k x, p) :: S) := by
  have he := edges8 (k := k) hx
  obtain ⟨w1, w2, w3, w4⟩ := h.walk he
  obtain ⟨_, g2, _⟩ := walkT_ok (es := edgesT k x) h.ok (a := 0) (Nat.zero_le _) he
  unfold putT
  simp only
  generalize (walkT T 0 (edgesT k x)).1 = T' at *
  generalize (walkT T 0 (edgesT k x)).2 = n at *
  have hl := w4.ok.len
  refine ⟨⟨by simp [hl], w4.ok.nd, w4.ok.le⟩, fun es c hc => ?_, fun es m hg hn => ?_⟩
  · rcases List.mem_cons.1 hc with e | hc
    · cases e
      exact ⟨n, g2, by simp only; rw [List.getElem?_set_self (by omega)]⟩
    · obtain ⟨m, h1, h2⟩ := w4.has es c hc
      refine ⟨m, h1, ?_⟩
      have hne : n ≠ m := fun e => by
        subst e
        have := goT_inj es h1 g2
        subst this
        exact hS c hc
      simp only; rw [List.getElem?_set_ne hne]; exact h2
  · have hne : n ≠ m := fun e => by
      subst e
      have := goT_inj es hg g2
      subst this
      exact hn p (by simp)
    simp only; rw [List.getElem?_set_ne hne]
    exact w4.none es m hg fun c hc => hn c (by simp [hc])
theorem wasT_neg {k : Nat} {T : Trt} {S : List (List Nat × Int)} (h : HasT T S) (h0 : ∀ p ∈ S, 0 ≤ p.2) {x : List Nat} (hx : ∀ e ∈ x, e < 8) : wasT k T x < 0 ↔ ∀ c, (edgesT k x, c) ∉ S := by
  obtain ⟨_, w2, w3, _⟩ := h.walk (edges8 (k := k) hx)
  unfold wasT
  rw [List.getD_eq_getElem?_getD]
  constructor
  · intro hlt c hc
    rw [w2 c hc] at hlt
    have := h0 _ hc
    simp at hlt; omega
  · intro hn
    rw [w3 hn]; simp
def keyT' (k : Nat) (x : List Nat × Int) : List Nat × Int := (edgesT k x.1, x.2)
def NoT (k : Nat) (S : List (List Nat × Int)) (L : List (List Nat × Int)) : Prop := (L.map fun x => edgesT k x.1).Nodup ∧ ∀ x ∈ L, ∀ c, (edgesT k x.1, c) ∉ S
theorem insT_eq {k : Nat} : ∀ {L : List (List Nat × Int)} {T : Trt} {S : List (List Nat × Int)}, HasT T S → (∀ p ∈ S, 0 ≤ p.2) → (∀ x ∈ L, (∀ e ∈ x.1, e < 8) ∧ 0 ≤ x.2) →
    (NoT k S L → insT k T L = some (L.foldl (putT k) T) ∧ HasT (L.foldl (putT k) T) ((L.map (keyT' k)).reverse ++ S)) ∧ (¬ NoT k S L → insT k T L = none)
  | [], T, S, h, h0, _ => ⟨fun _ => ⟨rfl, by simpa using h⟩, fun hn => absurd ⟨by simp, by simp⟩ hn⟩
  | (x, p) :: L, T, S, h, h0, hL => by
    obtain ⟨hx, hp⟩ := hL (x, p) (by simp)
    have hw := wasT_neg (k := k) h h0 hx
    by_cases hS : ∀ c, (edgesT k x, c) ∉ S
    · have h' := putT_has (k := k) (p := p) h hx hS
      have h0' : ∀ q ∈ (edgesT k x, p) :: S, 0 ≤ q.2 := fun q hq => by
        rcases List.mem_cons.1 hq with e | hq
        · subst e; exact hp
        · exact h0 q hq
      obtain ⟨i1, i2⟩ := insT_eq (k := k) (L := L) h' h0' (fun y hy => hL y (by simp [hy]))
      have hcond : NoT k S ((x, p) :: L) ↔ NoT k ((edgesT k x, p) :: S) L := by
        simp only [NoT, List.map_cons, List.nodup_cons, List.mem_map, List.mem_cons, forall_eq_or_imp, not_exists, not_and, not_or]
        constructor
        · rintro ⟨⟨a1, a2⟩, a3, a4⟩
          exact ⟨a2, fun y hy c => ⟨fun e => a1 y hy (by have := congrArg Prod.fst e; exact this), a4 y hy c⟩⟩
        · rintro ⟨a2, a4⟩
          exact ⟨⟨fun y hy e => (a4 y hy p).1 (by rw [e]), a2⟩, hS, fun y hy c => (a4 y hy c).2⟩
      have hin : insT k T ((x, p) :: L) = insT k (putT k T (x, p)) L := by
        simp only [insT]
        rw [if_pos (hw.2 hS)]
      rw [hin, hcond]
      refine ⟨fun n => ?_, i2⟩
      obtain ⟨a1, a2⟩ := i1 n
      exact ⟨a1, by simpa [keyT'] using a2⟩
    · have hin : insT k T ((x, p) :: L) = none := by
        simp only [insT]
        rw [if_neg (fun h => hS (hw.1 h))]
      exact ⟨fun n => absurd (n.2 (x, p) (by simp)) hS, fun _ => hin⟩
end Go.Av
end
noncomputable section
namespace Go.Av
open Go Go.Proofs
set_option maxRecDepth 10000
abbrev nd0 : Nd := ⟨List.replicate 9 0, -1⟩
theorem set9 {N : List Nd} (h9 : N9 N) {a e : Nat} {n : Nd} {c : Int} (ha : N[a]? = some n) : N9 (N.set a ⟨n.x.set e c, n.p⟩) := by
  intro m hm
  rcases List.mem_or_eq_of_mem_set hm with h | rfl
  · exact h9 m h
  · simp [h9 n (List.mem_of_getElem? ha)]
theorem app9 {N : List Nd} (h9 : N9 N) : N9 (N ++ [nd0]) := by
  intro m hm
  rcases List.mem_append.1 hm with h | h
  · exact h9 m h
  · simp at h; subst h; rfl
theorem put_next {N : List Nd} (h9 : N9 N) {a e : Nat} {n : Nd} (c : Int) (ha : N[a]? = some n) (he : e < 9) :
    List.take (a * 10 + e) ((flN N).map AV.d) ++ [AV.d (iI c)] ++ List.drop (a * 10 + e + 1) ((flN N).map AV.d) = (flN (N.set a ⟨n.x.set e c, n.p⟩)).map AV.d := by
  have hal := (List.getElem?_eq_some_iff.1 ha).1
  have h9n := h9 n (List.mem_of_getElem? ha)
  rw [set_cut (by rw [List.length_map, flN_len h9]; omega), ← List.map_set, flN_set (m := ⟨n.x.set e c, n.p⟩) h9 ha (by omega)]
  simp only [ndC]
  rw [List.set_append_left _ _ (by simp; omega), List.map_set]
theorem bpR (b a : Nat) : AV.bp b ((0 + ((a : Nat) : Int).toNat) * 10) = .bp b (a * 10) := by simp
theorem bpE (b o e : Nat) : AV.bp b (o + 0 + ((e : Nat) : Int).toNat * 1) = .bp b (o + e) := by simp
theorem vec_put {N : List Nd} (h9 : N9 N) {a e : Nat} {n : Nd} (c : Int) (ha : N[a]? = some n) (he : e < 9) :
    Ob.vec 87 true 10 N.length (List.take (a * 10 + e) ((flN N).map AV.d) ++ [AV.d (iI c)] ++ List.drop (a * 10 + e + 1) ((flN N).map AV.d)) = vecN (N.set a ⟨n.x.set e c, n.p⟩) := by
  rw [put_next h9 c ha he]; simp
theorem flN_lt {N : List Nd} (h9 : N9 N) {a e : Nat} (ha : a < N.length) (he : e < 10) : a * 10 + e < ((flN N).map AV.d).length := by
  rw [List.length_map, flN_len h9]; omega
theorem cell_at {N : List Nd} (h9 : N9 N) {a e : Nat} {n : Nd} {c : Int} (ha : N[a]? = some n) (he : e < 9) (hc : n.x[e]? = some c) : ((flN N).map AV.d)[a * 10 + e]? = some (.d (iI c)) := by
  have h9n := h9 n (List.mem_of_getElem? ha)
  rw [List.getElem?_map, flN_get h9 ha (by omega), List.getElem?_append_left (by simp; omega), List.getElem?_map, hc]; rfl
theorem stepNew (N : List Nd) (h9 : N9 N) (hl : N.length ≤ 1000000) (a e : Nat) (n : Nd) (ha : N[a]? = some n) (he : e < 9) (hc : n.x[e]? = some 0) : ACall Try.prog 95 [.agg [.vs 0 10 0 N.length], .d (nI a), .d (nI e)] [vecN N]
    (.tup [.agg [.vs 3 10 0 (N.length + 1)], .d (nI N.length)]) [.gone, .gone, .gone, vecN (N.set a ⟨n.x.set e (N.length : Nat), n.p⟩ ++ [nd0])] := by
  have w : Fz [30] := trivial
  have hal : a < N.length := (List.getElem?_eq_some_iff.1 ha).1
  have h9n := h9 n (List.mem_of_getElem? ha)
  have hcell := cell_at h9 ha he hc
  have h9' := app9 (set9 h9 (e := e) (c := (N.length : Nat)) ha)
  have ha' : (N.set a ⟨n.x.set e (N.length : Nat), n.p⟩ ++ [nd0])[a]? = some ⟨n.x.set e (N.length : Nat), n.p⟩ := by
    rw [List.getElem?_append_left (by simpa using hal), List.getElem?_set_self hal]
  have hcell' := cell_at h9' ha' he (c := (N.length : Nat)) (by simp only; rw [List.getElem?_set_self (by omega)])
  refine acallG_of_run Et_ok (fnB Try.func95 [30]) rfl rfl (by simp) (by simp only [List.all_cons, ref_vecN]; rfl) rfl ?_
  have w : Fz [30] := trivial
  repeat refine zS ?_
  iterate 3 refine zX ?_
  repeat refine zS ?_
  iterate 4 refine zX ?_
  refine zCut (bpR 0 a) ?_
  refine zX ?_
  refine zCut (bpE 0 (a * 10) e) ?_
  refine oV (v := .d (iI 0)) ?_ (hv := evAny_loadV rfl rfl rfl rfl rfl hcell)
  refine zV (show AV.d (.bool ((0 : Int) == 0)) = .d (.bool true) from rfl) ?_
  repeat refine zS ?_
  refine Run.tidy (s' := ⟨PT.ofList [(1, .d (nI a)), (2, .d (nI e)), (3, .bp 1 0), (6, .bp 2 0)], [vecN N, .box [.vs 0 10 0 N.length], .box [.d .nilsl]], []⟩) (ti _ 3 (hr := by simp only [List.all_cons, ref_vecN]; rfl)) ?_
  repeat refine zS ?_
  refine dW w ?_
  iterate 7 refine zX ?_
  refine zCut (bpR 0 a) ?_
  refine zX ?_
  refine zCut (bpE 0 (a * 10) e) ?_
  refine eX (v := .d .any) (objs' := [vecN (N.set a ⟨n.x.set e (N.length : Nat), n.p⟩), .box [.vs 0 10 0 N.length], .box [.d .nilsl]]) ?_ (hv := evAny_storeV (c := .d (nI N.length)) rfl rfl rfl rfl rfl rfl rfl rfl (flN_lt h9 hal (by omega))) (ho := by exact congrArg (fun o => [o, Ob.box [.vs 0 10 0 N.length], Ob.box [.d .nilsl]]) (vec_put h9 _ ha he))
  refine eN ?_
  repeat refine zS ?_
  iterate 4 refine zX ?_
  refine oV (v := .vs 3 10 0 (N.length + 1)) (objs' := [.gone, .box [.vs 0 10 0 N.length], .box [.d .nilsl], vecN (N.set a ⟨n.x.set e (N.length : Nat), n.p⟩ ++ [nd0])]) ?_ (hv := evAny_appN (x := nd0) (N := N.set a ⟨n.x.set e (N.length : Nat), n.p⟩) (n := N.length) (set9 h9 ha) (by simp) rfl rfl rfl rfl rfl rfl rfl (by simp; omega)) (he := rfl) (ho := rfl)
  iterate 2 refine zX ?_
  repeat refine zS ?_
  refine Run.tidy (s' := ⟨PT.ofList [(1, .d (nI a)), (2, .d (nI e)), (3, .bp 1 0), (6, .bp 2 0)], [.gone, .box [.vs 3 10 0 (N.length + 1)], .box [.d .nilsl], vecN (N.set a ⟨n.x.set e (N.length : Nat), n.p⟩ ++ [nd0])], []⟩) (ti _ 4 (hr := by simp only [List.all_cons, ref_vecN]; rfl)) ?_
  repeat refine zS ?_
  refine dW w ?_
  iterate 5 refine zX ?_
  refine zCut (bpR 3 a) ?_
  refine zX ?_
  refine zCut (bpE 3 (a * 10) e) ?_
  refine eX (v := .d (nI N.length)) ?_ (hv := evAny_loadV rfl rfl rfl rfl rfl hcell')
  iterate 2 refine zX ?_
  refine eN ?_
  refine Run.ret ?_
  exact ⟨trivial, _, _, rfl, rfl, .refl, wkE⟩
section
variable {E : PT Ty} {H : Hd} {frz : List Nat} {rd : Operand → AV} {objs : List Ob} {o : Oper} {t kt et : TypeId} {y : Ty} {yt : Ty} {m k st v : Operand} {i j : Nat} {kk d z : DV} {kvs : List (DV × DV)} {r : Option (Nat × DV)}
end
abbrev CM := List (List Nat × Nat)
def incM : CM → List Nat → CM
  | [], x => [(x, 1)]
  | p :: M, x => if p.1 = x then (p.1, p.2 + 1) :: M else p :: incM M x
def cntM (L : List (List Nat)) : CM := L.foldl incM []
def dst (L : List (List Nat)) : List (List Nat) := (cntM L).map (·.1)
section
variable {E : PT Ty} {H : Hd} {frz : List Nat} {rd : Operand → AV} {objs : List Ob} {o : Oper} {t kt et : TypeId} {y : Ty} {yt : Ty} {m k v : Operand} {i : Nat} {kk d z : DV} {kvs : List (DV × DV)} {r : Option (Nat × DV)}
theorem evK_lookup2 (hop : o.op = .lookup t m k true) (h1 : E.get? t = some yt) (h2 : yt.desc = .map kt et) (h3 : E.get? et = some y) (hkt : keyT E kt kk = true) (hm : rd m = .mp i) (hi : objs[i]? = some (.map kvs)) (hk : rd k = .d kk)
    (hf : findKV (eqKey E kt) kk kvs = some r) (hz : zeroD y = some z) : evAny E H frz rd objs o = some (.tup [.d (match r with | some p => p.2 | none => z), .d (.bool r.isSome)], none, true) := by
  obtain ⟨dst, op, ty, pos, after, guard⟩ := o
  obtain ⟨desc, size, bytes, zero⟩ := yt
  simp only at hop h2
  subst hop h2
  simp only [evAny, quiet, evOp, lookupR, h1, hk, h3, hkt, kvsOf, hm, hi, hf]
  cases r with
  | none => simp only [hz, pureR, Option.map_some, Option.isSome]
  | some p => obtain ⟨j, v⟩ := p; simp only [pureR, Option.map_some, Option.isSome]
theorem evK_update (hop : o.op = .mapUpdate t m k v) (h1 : E.get? t = some yt) (h2 : yt.desc = .map kt et) (hkt : keyT E kt kk = true) (hm : rd m = .mp i) (hi : objs[i]? = some (.map kvs)) (hk : rd k = .d kk) (hv : rd v = .d d)
    (hf : findKV (eqKey E kt) kk kvs = some none) : evAny E H frz rd objs o = some (.d .any, some (objs.set i (.map (kvs ++ [(kk, d)]))), true) := by
  obtain ⟨dst, op, ty, pos, after, guard⟩ := o
  obtain ⟨desc, size, bytes, zero⟩ := yt
  simp only at hop h2
  subst hop h2
  simp only [evAny, quiet, evOp, mapUpdateR, h1, hm, hk, hv, hkt, hi, hf, pureR, Option.map_some]
end
abbrev pl (a e : Nat) : DV := .agg [nI a, nI e]
def kvT : Nat → TE → List (DV × DV)
  | _, [] => []
  | k, x :: Q => (pl x.1 x.2, nI (k + 1)) :: kvT (k + 1) Q
theorem kvT_snoc (x : Nat × Nat) : ∀ (k : Nat) (Q : TE), kvT k (Q ++ [x]) = kvT k Q ++ [(pl x.1 x.2, nI (k + Q.length + 1))]
  | k, [] => rfl
  | k, y :: Q => by
    simp only [List.cons_append, kvT, kvT_snoc x (k + 1) Q, List.length_cons]
    rw [show k + 1 + Q.length + 1 = k + (Q.length + 1) + 1 by omega]
theorem eqKeyP (a e b f : Nat) : eqKey Et 140 (pl a e) (pl b f) = some (decide ((a, e) = (b, f))) := by
  have e1 : eqAgg Et 140 [nI a, nI e] [nI b, nI f] = some (((a : Int) == (b : Int)) && (((e : Int) == (f : Int)) && true)) := rfl
  have e2 : eqCells [nI a, nI e] [nI b, nI f] = some (((a : Int) == (b : Int)) && (((e : Int) == (f : Int)) && true)) := rfl
  show (match eqAgg Et 140 [nI a, nI e] [nI b, nI f], eqCells [nI a, nI e] [nI b, nI f] with
    | some true, some true => some true
    | some false, some false => some false
    | _, _ => none) = _
  rw [e1, e2]
  have : (((a : Int) == (b : Int)) && (((e : Int) == (f : Int)) && true)) = decide ((a, e) = (b, f)) := by
    by_cases h1 : a = b
    · subst h1
      by_cases h2 : e = f
      · subst h2; simp
      · simp [h2]; omega
    · have : ((a : Int) == (b : Int)) = false := by simp; omega
      simp [this, h1]
  rw [this]
  cases decide ((a, e) = (b, f)) <;> rfl
theorem findT (a e : Nat) : ∀ (k : Nat) (Q : TE), findKV (eqKey Et 140) (pl a e) (kvT k Q) = some (if (a, e) ∈ Q then some (Q.idxOf (a, e), nI (k + Q.idxOf (a, e) + 1)) else none)
  | k, [] => by simp [kvT, findKV]
  | k, x :: Q => by
    simp only [kvT, findKV, eqKeyP]
    by_cases h : (a, e) = (x.1, x.2)
    · have h' : (a, e) = x := h
      simp only [h', decide_true]
      subst h'
      simp
    · have h' : (a, e) ≠ x := h
      simp only [h, decide_false]
      rw [findT a e (k + 1) Q]
      by_cases hm : (a, e) ∈ Q
      · have hi : (x :: Q).idxOf (a, e) = Q.idxOf (a, e) + 1 := by
          rw [List.idxOf_cons, show (x == (a, e)) = false by simpa using Ne.symm h']; rfl
        rw [if_pos hm, if_pos (by simp [hm]), hi]
        simp only [Option.map_some]
        rw [show k + 1 + Q.idxOf (a, e) + 1 = k + (Q.idxOf (a, e) + 1) + 1 by omega]
      · rw [if_neg hm, if_neg (by simp [hm, h'])]; rfl
theorem walkOld (N : List Nd) (kvs : List (DV × DV)) (a e c j : Nat) (hf : findKV (eqKey Et 140) (pl a e) kvs = some (some (j, nI c))) : ACall Try.prog 92 [.bp 2 0, .d (nI a), .d (nI e)] [vecN N, .map kvs, .box [.vs 0 10 0 N.length, .mp 1]]
    (.d (nI c)) [vecN N, .map kvs, .box [.vs 0 10 0 N.length, .mp 1]] := by
  have w : Fz [37] := trivial
  refine acallG_of_run Et_ok (fnB Try.func92 [37]) rfl rfl (by simp) (by simp only [List.all_cons, ref_vecN]; rfl) rfl ?_
  have w : Fz [37] := trivial
  repeat refine zS ?_
  refine zX ?_
  repeat refine zS ?_
  iterate 5 refine zX ?_
  repeat refine zS ?_
  refine dW w ?_
  iterate 5 refine zX ?_
  refine eX (v := .tup [.d (nI c), .d (.bool true)]) ?_ (hv := evK_lookup2 rfl rfl rfl rfl rfl rfl rfl rfl hf rfl) (he := rfl)
  iterate 5 refine zX ?_
  refine eN ?_
  repeat refine zS ?_
  iterate 2 refine zX ?_
  repeat refine zS ?_
  iterate 2 refine zX ?_
  repeat refine zS ?_
  refine Run.ret ?_
  exact ⟨trivial, _, _, rfl, rfl, .refl, wkE⟩
set_option maxHeartbeats 1000000 in
theorem walkNew (N : List Nd) (h9 : N9 N) (hl : N.length ≤ 1000000) (kvs : List (DV × DV)) (a e : Nat) (n : Nd) (ha : N[a]? = some n) (he : e < 9) (hf : findKV (eqKey Et 140) (pl a e) kvs = some none) : ACall Try.prog 92 [.bp 2 0, .d (nI a), .d (nI e)] [vecN N, .map kvs, .box [.vs 0 10 0 N.length, .mp 1]]
    (.d (nI N.length)) [.gone, .map (kvs ++ [(pl a e, nI N.length)]), .box [.vs 4 10 0 (N.length + 1), .mp 1], .gone, vecN (N.set a ⟨n.x.set e (N.length : Nat), n.p⟩ ++ [nd0])] := by
  have w : Fz [37] := trivial
  have hal : a < N.length := (List.getElem?_eq_some_iff.1 ha).1
  have h9a := app9 h9
  have haa : (N ++ [nd0])[a]? = some n := by rw [List.getElem?_append_left hal]; exact ha
  have hla : (N ++ [nd0]).length = N.length + 1 := by simp
  have hset : (N ++ [nd0]).set a ⟨n.x.set e (N.length : Nat), n.p⟩ = N.set a ⟨n.x.set e (N.length : Nat), n.p⟩ ++ [nd0] := List.set_append_left _ _ hal
  have hput := vec_put h9a (N.length : Nat) haa he
  rw [hset, hla] at hput
  refine acallG_of_run Et_ok (fnB Try.func92 [37]) rfl rfl (by simp) (by simp only [List.all_cons, ref_vecN]; rfl) rfl ?_
  have w : Fz [37] := trivial
  repeat refine zS ?_
  refine zX ?_
  repeat refine zS ?_
  iterate 5 refine zX ?_
  repeat refine zS ?_
  refine dW w ?_
  iterate 5 refine zX ?_
  refine eX (v := .tup [.d (nI 0), .d (.bool false)]) ?_ (hv := evK_lookup2 rfl rfl rfl rfl rfl rfl rfl rfl hf rfl) (he := rfl)
  iterate 5 refine zX ?_
  refine eN ?_
  repeat refine zS ?_
  iterate 2 refine zX ?_
  repeat refine zS ?_
  refine RunOps.tidy (s' := ⟨PT.ofList [(0, .bp 2 0), (1, .d (nI a)), (2, .d (nI e)), (7, .bp 3 0)], [vecN N, .map kvs, .box [.vs 0 10 0 N.length, .mp 1], .box [.d (nI a), .d (nI e)]], []⟩) (ti _ 4 (hr := by simp only [List.all_cons, ref_vecN]; rfl)) ?_
  repeat refine zS ?_
  iterate 7 refine zX ?_
  repeat refine zS ?_
  iterate 8 refine zX ?_
  refine oV (v := .vs 4 10 0 (N.length + 1)) (objs' := [.gone, .map kvs, .box [.vs 0 10 0 N.length, .mp 1], .box [.d (nI a), .d (nI e)], vecN (N ++ [nd0])]) ?_ (hv := evAny_appN (x := nd0) (N := N) (n := N.length) h9 rfl rfl rfl rfl rfl rfl rfl rfl (by omega)) (he := rfl) (ho := rfl)
  iterate 4 refine zX ?_
  repeat refine zS ?_
  refine RunOps.tidy (s' := ⟨PT.ofList [(0, .bp 2 0), (1, .d (nI a)), (2, .d (nI e)), (7, .bp 3 0), (8, .d (nI N.length))], [.gone, .map kvs, .box [.vs 4 10 0 (N.length + 1), .mp 1], .box [.d (nI a), .d (nI e)], vecN (N ++ [nd0])], []⟩) (ti _ 5 (hr := by simp only [List.all_cons, ref_vecN]; rfl)) ?_
  repeat refine zS ?_
  iterate 8 refine zX ?_
  refine zCut (bpR 4 a) ?_
  refine zX ?_
  refine zCut (bpE 4 (a * 10) e) ?_
  refine oV (v := .d .any) (objs' := [.gone, .map kvs, .box [.vs 4 10 0 (N.length + 1), .mp 1], .box [.d (nI a), .d (nI e)], vecN (N.set a ⟨n.x.set e (N.length : Nat), n.p⟩ ++ [nd0])]) ?_ (hv := evAny_storeV (c := .d (nI N.length)) rfl rfl rfl rfl rfl rfl rfl rfl (flN_lt h9a (by omega) (by omega))) (ho := by rw [← hput, ← hla]; rfl)
  repeat refine zS ?_
  refine dW w ?_
  iterate 6 refine zX ?_
  refine eX (v := .d .any) (objs' := [.gone, .map (kvs ++ [(pl a e, nI N.length)]), .box [.vs 4 10 0 (N.length + 1), .mp 1], .box [.d (nI a), .d (nI e)], vecN (N.set a ⟨n.x.set e (N.length : Nat), n.p⟩ ++ [nd0])]) ?_ (hv := evK_update rfl rfl rfl rfl rfl rfl rfl rfl hf) (ho := rfl)
  refine eN ?_
  repeat refine zS ?_
  iterate 2 refine zX ?_
  repeat refine zS ?_
  refine Run.ret ?_
  exact ⟨trivial, _, _, rfl, rfl, .refl, wkE⟩
theorem okA0_ref : ∀ (k : Nat) {x : AV} {n : Nat}, okA 0 k x = true → refA k n x = true := by
  intro k
  induction k with
  | zero => intro x n h; cases h
  | succ k ih =>
    intro x n h
    cases x <;> simp only [okA, Nat.blt_eq, Nat.not_lt_zero, Bool.false_eq_true, List.all_eq_true] at h <;> simp only [refA, List.all_eq_true]
    · exact fun y hy => ih (h y hy)
theorem okO0_ref {o : Ob} {n : Nat} (h : okO 0 o = true) : refOb n o = true := by
  cases o <;> simp only [okO, List.all_eq_true, Bool.false_eq_true] at h <;> simp only [refOb, List.all_eq_true]
  · exact fun y hy => okA0_ref 8 (h y hy)
  · exact fun y hy => okA0_ref 8 (h y hy)
  · exact fun y hy => okA0_ref 8 (h y hy)
theorem okO0_reO {ρ : Nat → Nat} {o : Ob} (h : okO 0 o = true) : reO ρ o = o := reO_id (n := 0) (fun i hi => absurd hi (Nat.not_lt_zero _)) h
theorem vecN_ok0 (N : List Nd) (n : Nat) : okO n (vecN N) = true := by
  show ((flN N).map AV.d).all (okA n 8) = true
  rw [List.all_eq_true]; intro x hx
  obtain ⟨d, _, rfl⟩ := List.mem_map.1 hx; rfl
theorem wkRefl : ∀ l : List Ob, WkObs l l
  | [] => trivial
  | _ :: l => ⟨.refl, wkRefl l⟩
theorem growL_cases {Big : List Ob} {pos : List Nat} {A' : List Ob} (hnd : pos.Nodup) (hlt : ∀ p ∈ pos, p < Big.length) (hge : pos.length ≤ A'.length) {j : Nat} {o : Ob} (h : (growL Big pos pos.length A')[j]? = some o) :
    (j < Big.length ∧ j ∉ pos ∧ Big[j]? = some o) ∨ ∃ k o', A'[k]? = some o' ∧ o = reO (atOf pos Big.length) o' ∧ j = atOf pos Big.length k := by
  have at' : ∀ k, k < A'.length → j = atOf pos Big.length k → ∃ k o', A'[k]? = some o' ∧ o = reO (atOf pos Big.length) o' ∧ j = atOf pos Big.length k := fun k hk e => by
    have := growL_at (A' := A') hnd hlt (List.getElem?_eq_getElem hk)
    rw [← e, h] at this
    exact ⟨k, A'[k], List.getElem?_eq_getElem hk, Option.some.inj this, e⟩
  rcases Nat.lt_or_ge j Big.length with hj | hj
  · by_cases hm : j ∈ pos
    · obtain ⟨k, hk, e⟩ := List.getElem_of_mem hm
      exact .inr (at' k (by omega) (by simp [atOf, hk, e]))
    · rw [growL_old hj hm] at h
      exact .inl ⟨hj, hm, h⟩
  · have hl := (List.getElem?_eq_some_iff.1 h).1
    rw [growL_len] at hl
    exact .inr (at' (pos.length + (j - Big.length)) (by omega) (by simp only [atOf]; rw [List.getElem?_eq_none (by omega)]; simp only; omega))
def BO (T : Trt) (m b : Nat) (objs : List Ob) : Prop := ∃ r, objs[r]? = some (vecN (rowT T)) ∧ objs[m]? = some (.map (kvT 0 T.q)) ∧ objs[b]? = some (.box [.vs r 10 0 (T.q.length + 1), .mp m]) ∧ ∀ j o, objs[j]? = some o → j ≠ b → okO 0 o = true
abbrev bO (T : Trt) : List Ob := [vecN (rowT T), .map (kvT 0 T.q), .box [.vs 0 10 0 (T.q.length + 1), .mp 1]]
theorem bO_ok (T : Trt) : BO T 1 2 (bO T) := by
  refine ⟨0, rfl, rfl, rfl, fun j o h hj => ?_⟩
  match j, h with
  | 0, h => simp at h; subst h; exact vecN_ok0 _ _
  | 1, h => simp at h; subst h; rfl
  | 2, _ => exact absurd rfl hj
  | j + 3, h => simp at h
theorem BO.refs {T : Trt} {m b : Nat} {objs : List Ob} (h : BO T m b objs) : objs.all (refOb objs.length) = true := by
  obtain ⟨r, h1, h2, h3, h4⟩ := h
  rw [List.all_eq_true]
  intro o ho
  obtain ⟨j, hj⟩ := List.getElem?_of_mem ho
  by_cases hb : j = b
  · subst hb
    rw [h3] at hj; cases hj
    have e1 := (List.getElem?_eq_some_iff.1 h1).1
    have e2 := (List.getElem?_eq_some_iff.1 h2).1
    simp only [refOb, refA, List.all_cons, List.all_nil, Bool.and_true, Bool.and_eq_true, Nat.blt_eq]
    exact ⟨e1, e2⟩
  · exact okO0_ref (h4 j o hj hb)
theorem BO.lift {T T' : Trt} {m b : Nat} {Big A' : List Ob} {f : FuncId} {ds : List DV} {x : DV} (h : ACall Try.prog f (.bp 2 0 :: ds.map .d) (bO T) (.d x) A') (hA : BO T' 1 2 A') (h3 : 3 ≤ A'.length) (hB : BO T m b Big) :
    ∃ Big', ACall Try.prog f (.bp b 0 :: ds.map .d) Big (.d x) Big' ∧ BO T' m b Big' ∧ Big.length ≤ Big'.length ∧ ∀ j cs, j ≠ b → Big[j]? = some (.box cs) → Big'[j]? = some (.box cs) := by
  obtain ⟨r, h1, h2, hb, h4⟩ := hB
  have hrm : r ≠ m := fun e => by subst e; rw [h1] at h2; cases h2
  have hrb : r ≠ b := fun e => by subst e; rw [h1] at hb; cases hb
  have hmb : m ≠ b := fun e => by subst e; rw [h2] at hb; cases hb
  have hnd : [r, m, b].Nodup := by simp [hrm, hrb, hmb]
  have l1 := (List.getElem?_eq_some_iff.1 h1).1
  have l2 := (List.getElem?_eq_some_iff.1 h2).1
  have l3 := (List.getElem?_eq_some_iff.1 hb).1
  have hlt : ∀ p ∈ [r, m, b], p < Big.length := by simp [l1, l2, l3]
  have hg := h.grow [r, m, b] (Big := Big) rfl h3 hnd ⟨by rw [okO0_reO (vecN_ok0 _ _)]; exact h1, by exact h2, by exact hb, trivial⟩
    (by simp only [List.all_cons, vecN_ok0, List.all_nil]; rfl) (by simp only [List.all_cons, List.all_map, Bool.and_eq_true, List.all_eq_true]; exact ⟨rfl, fun _ _ => rfl⟩)
  obtain ⟨r', a1, a2, a3, a4⟩ := hA
  refine ⟨growL Big [r, m, b] [r, m, b].length A', ?_, ?_, by rw [growL_len]; exact Nat.le_add_right _ _, fun j cs hj hjc => ?_⟩
  · have e : (AV.bp 2 0 :: ds.map AV.d).map (reA (atOf [r, m, b] Big.length) 8) = .bp b 0 :: ds.map AV.d := by
      simp only [List.map_cons, List.map_map]
      congr 1
    rw [e] at hg
    exact hg
  · have at' := fun (k : Nat) (ob : Ob) (hk : A'[k]? = some ob) => growL_at (A' := A') (pos := [r, m, b]) hnd hlt hk
    refine ⟨atOf [r, m, b] Big.length r', ?_, ?_, ?_, fun j o ho hj => ?_⟩
    · have := at' r' _ a1
      rwa [okO0_reO (vecN_ok0 _ _)] at this
    · exact at' 1 _ a2
    · exact at' 2 _ a3
    · rcases growL_cases hnd hlt h3 ho with ⟨_, _, c3⟩ | ⟨k, o', c1, c2, c3⟩
      · exact h4 j o c3 hj
      · have hk : k ≠ 2 := fun e => hj (by subst e; exact c3)
        have := a4 k o' c1 hk
        rw [c2, okO0_reO this]; exact this
  · have hn : j ∉ [r, m, b] := by
      simp only [List.mem_cons, List.not_mem_nil, or_false, not_or]
      refine ⟨fun e => ?_, fun e => ?_, hj⟩
      · subst e; rw [h1] at hjc; cases hjc
      · subst e; rw [h2] at hjc; cases hjc
    rw [growL_old (List.getElem?_eq_some_iff.1 hjc).1 hn]; exact hjc
theorem walkA (T : Trt) (hT : OkT T) (hl : T.q.length ≤ 999999) (a e : Nat) (ha : a ≤ T.q.length) (he : e ≤ 8) : ∃ A', ACall Try.prog 92 [.bp 2 0, .d (nI a), .d (nI e)] (bO T) (.d (nI (toT (stepT T a e).q a e))) A' ∧ BO (stepT T a e) 1 2 A' ∧ 3 ≤ A'.length := by
  have hf := findT a e 0 T.q
  have hlen := rowT_len T
  by_cases hm : (a, e) ∈ T.q
  · rw [if_pos hm] at hf
    have e1 : stepT T a e = T := by rw [stepT, if_pos hm]
    rw [e1, toT_mem hm]
    rw [Nat.zero_add] at hf
    have h := walkOld (rowT T) _ a e _ _ hf
    rw [hlen] at h
    exact ⟨bO T, h, bO_ok T, Nat.le_refl _⟩
  · rw [if_neg hm] at hf
    have hr := rowT_new hT ha (show e < 9 by omega) hm
    have h := walkNew (rowT T) (rowT_9 T) (by omega) _ a e _ (rowT_get ha) (by omega) hf
    have e1 : stepT T a e = ⟨T.q ++ [(a, e)], T.v ++ [-1]⟩ := by rw [stepT, if_neg hm]
    have e2 : toT (stepT T a e).q a e = T.q.length + 1 := by rw [e1]; simp only; rw [toT_app hm, if_pos rfl]
    have e3 : kvT 0 (stepT T a e).q = kvT 0 T.q ++ [(pl a e, nI (T.q.length + 1))] := by rw [e1]; simp only; rw [kvT_snoc, Nat.zero_add]
    have e4 : (stepT T a e).q.length + 1 = T.q.length + 1 + 1 := by rw [e1]; simp
    rw [hlen, ← hr] at h
    rw [e2]
    refine ⟨_, h, ⟨4, rfl, by rw [e3]; rfl, by rw [e4]; rfl, fun j o ho hj => ?_⟩, by simp⟩
    match j, ho with
    | 0, ho => simp at ho; subst ho; rfl
    | 1, ho => simp at ho; subst ho; rfl
    | 2, _ => exact absurd rfl hj
    | 3, ho => simp at ho; subst ho; rfl
    | 4, ho => simp at ho; subst ho; exact vecN_ok0 _ _
    | j + 5, ho => simp at ho
theorem walkT_snoc (e : Nat) : ∀ (es : List Nat) (T : Trt) (a : Nat), walkT T a (es ++ [e]) = (stepT (walkT T a es).1 (walkT T a es).2 e, toT (stepT (walkT T a es).1 (walkT T a es).2 e).q (walkT T a es).2 e)
  | [], T, a => rfl
  | f :: es, T, a => by
    simp only [List.cons_append, walkT]
    exact walkT_snoc e es _ _
theorem walkT_le {es : List Nat} {T : Trt} {a : Nat} (hT : OkT T) (ha : a ≤ T.q.length) (he : ∀ e ∈ es, e ≤ 8) : OkT (walkT T a es).1 ∧ (walkT T a es).2 ≤ (walkT T a es).1.q.length ∧ (walkT T a es).1.q.length ≤ T.q.length + es.length := by
  obtain ⟨g1, g2, R, r1, r2, r3⟩ := walkT_ok hT ha he
  refine ⟨g1, goT_le (by rw [r1, List.length_append]; omega) g2, by rw [r1, List.length_append]; omega⟩
theorem walkSeq (es : List Nat) (T : Trt) (A : List Ob) (hT : OkT T) (hA : BO T 1 2 A) (he : ∀ e ∈ es, e ≤ 8) (hl : T.q.length + es.length ≤ 999999) : ∀ n, n ≤ es.length → ∃ As : Nat → List Ob, As 0 = A ∧
    (∀ i e, i < n → es[i]? = some e → ACall Try.prog 92 [.bp 2 0, .d (nI (walkT T 0 (es.take i)).2), .d (nI e)] (As i) (.d (nI (walkT T 0 (es.take (i + 1))).2)) (As (i + 1))) ∧ ∀ i, i ≤ n → BO (walkT T 0 (es.take i)).1 1 2 (As i)
  | 0, _ => ⟨fun _ => A, rfl, fun i e hi => absurd hi (Nat.not_lt_zero _), fun i hi => by rw [show i = 0 by omega]; exact hA⟩
  | n + 1, hn => by
    obtain ⟨As, h1, h2, h3⟩ := walkSeq es T A hT hA he hl n (by omega)
    have hlt : n < es.length := by omega
    obtain ⟨e, hen⟩ : ∃ e, es[n]? = some e := ⟨es[n], List.getElem?_eq_getElem hlt⟩
    obtain ⟨k1, k2, k3⟩ := walkT_le (es := es.take n) hT (Nat.zero_le _) (fun x hx => he x (List.mem_of_mem_take hx))
    have hsn : es.take (n + 1) = es.take n ++ [e] := by rw [List.take_add_one, hen]; rfl
    have hw := walkT_snoc e (es.take n) T 0
    rw [← hsn] at hw
    obtain ⟨A1, c1, c2, c3⟩ := walkA (walkT T 0 (es.take n)).1 k1 (by rw [List.length_take] at k3; omega) (walkT T 0 (es.take n)).2 e k2 (he e (List.mem_of_getElem? hen))
    obtain ⟨B, d1, d2, _, _⟩ := BO.lift (ds := [nI (walkT T 0 (es.take n)).2, nI e]) c1 c2 c3 (h3 n (Nat.le_refl _))
    refine ⟨fun i => if i = n + 1 then B else As i, by simp [h1], fun i e' hi hie => ?_, fun i hi => ?_⟩
    · by_cases hin : i = n
      · subst hin
        rw [hen] at hie; cases hie
        simp only [if_true, if_neg (show ¬ i = i + 1 by omega)]
        rw [hw]; exact d1
      · simp only [if_neg (show ¬ i = n + 1 by omega), if_neg (show ¬ i + 1 = n + 1 by omega)]
        exact h2 i e' (by omega) hie
    · by_cases hin : i = n + 1
      · subst hin
        simp only [if_true]
        rw [hw]; exact d2
      · simp only [if_neg hin]
        exact h3 i (by omega)
theorem lt_true {a b : Nat} (h : a < b) : AV.d (.bool (decide ((a : Int) < (b : Int)))) = .d (.bool true) := by
  rw [decide_eq_true (by omega)]
theorem lt_false {a b : Nat} (h : b ≤ a) : AV.d (.bool (decide ((a : Int) < (b : Int)))) = .d (.bool false) := by
  rw [decide_eq_false (by omega)]
theorem Run.midW {P : Program} {nt m : Nat} {ro' : Option Nat} {K : Ex → S → Prop} {x y : Code} {s : S} (S1 : S) (h1 : Run P nt m ro' x s (fun e s1 => match e with | .normal => Weak s1 S1 | e => K e s1)) (h2 : Run P nt m ro' y S1 K) :
    Run P nt m ro' x s (fun e s1 => match e with | .normal => Run P nt m ro' y s1 K | e => K e s1) :=
  h1.mono fun e s1 h => by
    cases e with
    | normal => exact Run.weak h h2
    | _ => exact h
theorem BO.set {T T' : Trt} {m b : Nat} {objs : List Ob} {r : Nat} (h1 : objs[r]? = some (vecN (rowT T))) (h2 : objs[m]? = some (.map (kvT 0 T.q))) (h3 : objs[b]? = some (.box [.vs r 10 0 (T.q.length + 1), .mp m])) (h4 : ∀ j o, objs[j]? = some o → j ≠ b → okO 0 o = true)
    (hq : T'.q = T.q) : BO T' m b (objs.set r (vecN (rowT T'))) := by
  have hrm : r ≠ m := fun e => by subst e; rw [h1] at h2; cases h2
  have hrb : r ≠ b := fun e => by subst e; rw [h1] at h3; cases h3
  refine ⟨r, by rw [List.getElem?_set_self (List.getElem?_eq_some_iff.1 h1).1], by rw [List.getElem?_set_ne hrm, hq]; exact h2, by rw [List.getElem?_set_ne hrb, hq]; exact h3, fun j o ho hj => ?_⟩
  by_cases hr : r = j
  · subst hr
    rw [List.getElem?_set_self (List.getElem?_eq_some_iff.1 h1).1] at ho
    cases ho; exact vecN_ok0 _ _
  · rw [List.getElem?_set_ne hr] at ho
    exact h4 j o ho hj
theorem put_prod {N : List Nd} (h9 : N9 N) {a : Nat} {n : Nd} (c : Int) (ha : N[a]? = some n) :
    Ob.vec 87 true 10 N.length (List.take (a * 10 + 9) ((flN N).map AV.d) ++ [AV.d (iI c)] ++ List.drop (a * 10 + 9 + 1) ((flN N).map AV.d)) = vecN (N.set a ⟨n.x, c⟩) := by
  have hal := (List.getElem?_eq_some_iff.1 ha).1
  have h9n := h9 n (List.mem_of_getElem? ha)
  rw [set_cut (flN_lt h9 hal (by omega)), ← List.map_set, flN_set (m := ⟨n.x, c⟩) h9 ha (by omega)]
  · simp
  · simp only [ndC]
    rw [List.set_append_right _ _ (by simp; omega)]
    simp [h9n]
theorem prod_at {N : List Nd} (h9 : N9 N) {a : Nat} {n : Nd} (ha : N[a]? = some n) : ((flN N).map AV.d)[a * 10 + 9]? = some (.d (iI n.p)) := by
  have h9n := h9 n (List.mem_of_getElem? ha)
  rw [List.getElem?_map, flN_get h9 ha (by omega), List.getElem?_append_right (by simp; omega)]
  simp [h9n]
set_option maxHeartbeats 1000000 in
theorem putA (T : Trt) (hT : OkT T) (hl : T.q.length ≤ 999900) (k : Nat) (l : List Nat) (hL : Rt l) (p : Int) : ∃ A', ACall Try.prog 56 [.bp 2 0, .d (nI k), .d (lk l), .d (iI p)] (bO T) (.d (.bool (decide (wasT k T l < 0)))) A' ∧ BO (putT k T (l, p)) 1 2 A' ∧ 3 ≤ A'.length := by
  have w : Fz [6] := trivial
  have hlen : (edgesT k l).length ≤ 5 := by have := hL.len; unfold edgesT; split <;> simp <;> omega
  have he8 := edges8 (k := k) hL.lt
  obtain ⟨As, a0, a1, a2⟩ := walkSeq (edgesT k l) T (bO T) hT (bO_ok T) he8 (by omega) (edgesT k l).length (Nat.le_refl _)
  obtain ⟨k1, k2, k3⟩ := walkT_le (es := edgesT k l) hT (Nat.zero_le _) he8
  have hB := a2 _ (Nat.le_refl _)
  rw [List.take_length] at hB
  unfold putT wasT
  simp only
  have hE : walkT T 0 (edgesT k l) = ((walkT T 0 ((edgesT k l).take (edgesT k l).length)).1, (walkT T 0 ((edgesT k l).take (edgesT k l).length)).2) := by rw [List.take_length]
  obtain ⟨T1, hT1⟩ : ∃ T1, T1 = (walkT T 0 (edgesT k l)).1 := ⟨_, rfl⟩
  obtain ⟨nd1, hnd1⟩ : ∃ n, n = (walkT T 0 (edgesT k l)).2 := ⟨_, rfl⟩
  rw [← hT1] at hB k1 k2 ⊢
  rw [← hnd1] at k2 ⊢
  obtain ⟨r, b1, b2, b3, b4⟩ := id hB
  have hset := rowT_set k1 k2 p
  have hBO := BO.set (T' := ⟨T1.q, T1.v.set nd1 p⟩) b1 b2 b3 b4 rfl
  have hge : 3 ≤ (As (edgesT k l).length).length := (List.getElem?_eq_some_iff.1 b3).1
  refine ⟨_, ?_, hBO, by rw [List.length_set]; exact hge⟩
  have hcell := prod_at (rowT_9 T1) (rowT_get k2)
  have hput := put_prod (rowT_9 T1) p (rowT_get k2)
  rw [← hset] at hput
  have hlt := flN_lt (rowT_9 T1) (show nd1 < (rowT T1).length by rw [rowT_len]; omega) (show 9 < 10 by omega)
  refine acallG_of_run Et_ok (fnB Try.func56 [6]) rfl rfl (by rw [List.length_set]; exact hge) (by have := hBO.refs; exact this) rfl ?_
  have w : Fz [6] := trivial
  have hl4 := hL.len
  have h4 := cut4 l hL.len l.length (Nat.le_refl _)
  rw [List.take_length] at h4
  repeat refine zS ?_
  iterate 2 refine zX ?_
  repeat refine zS ?_
  iterate 2 refine zX ?_
  repeat refine zS ?_
  iterate 3 refine zX ?_
  refine zCut h4 ?_
  iterate 2 refine zX ?_
  repeat refine zS ?_
  refine Run.loop (fun i : Nat => ⟨PT.ofList [(0, .bp 2 0), (1, .d (nI k)), (3, .d (iI p)), (6, .d (.ep (lkC l))), (8, .d (.bool false)), (9, .d (.fn (.func 92) [] [])), (10, .d (nI (walkT T 0 ((edgesT k l).take i)).2)), (17, .d (nats l)), (18, .d (nI (l.map nI).length)), (19, .d (.int .i64 i))], As i, []⟩) (fun i => i ≤ l.length) (fun i => l.length - i) 0 (Nat.zero_le _) (weak_of' (by rw [a0]) rfl ⟨rfl, rfl, rfl, rfl, rfl, rfl, rfl, rfl, rfl, rfl, trivial⟩) (fun i hi => ?_)
  have hnl : (l.map nI).length = l.length := by simp
  rcases Nat.lt_or_ge i l.length with hil | hig
  · obtain ⟨e, hie⟩ := get_ok hil
    have hie' : (edgesT k l)[i]? = some e := by
      unfold edgesT; split
      · rw [List.getElem?_append_left hil]; exact hie
      · exact hie
    have hc := a1 i e (List.getElem?_eq_some_iff.1 hie').1 hie'
    repeat refine zS ?_
    refine zV (lt_true (show i < (l.map nI).length by omega)) ?_
    repeat refine zS ?_
    refine zI w (.d (.ep [nI e])) hie ?_
    iterate 2 refine zX ?_
    repeat refine zS ?_
    iterate 4 refine zX ?_
    refine oA hc ?_
    refine zX ?_
    repeat' (first
      | refine zW ?_
      | refine zB ?_ ?_ <;> intro h <;> try exact zk h
      | (exact ⟨i + 1, hil, by omega, weak_of (by repeat' (first | exact trivial | refine ⟨rfl, ?_⟩ | refine ⟨(inc_get (k := i) (by kernel_rfl) (by omega)), ?_⟩))⟩)
      | fail)
  · have hie : i = l.length := by omega
    subst hie
    repeat refine zS ?_
    refine zV (lt_false (show (l.map nI).length ≤ l.length by omega)) ?_
    repeat refine zS ?_
    iterate 3 refine zX ?_
    refine zV (show AV.d (.bool (decide (((l.length : Nat) : Int) < ((k : Nat) : Int)))) = .d (.bool (decide (l.length < k))) by simp) ?_
    repeat refine zS ?_
    refine Run.midW ⟨PT.ofList [(0, .bp 2 0), (1, .d (nI k)), (3, .d (iI p)), (8, .d (.bool false)), (10, .d (nI nd1))], As (edgesT k l).length, []⟩ ?_ ?_
    · refine Run.cond (by rfl) (fun h => ?_) (fun h => ?_)
      · have hk : l.length < k := of_decide_eq_true h
        have hee : edgesT k l = l ++ [8] := by unfold edgesT; rw [if_pos hk]
        have hc := a1 l.length 8 (by rw [hee]; simp) (by rw [hee]; simp)
        rw [show (edgesT k l).take (l.length + 1) = edgesT k l by rw [hee]; exact List.take_of_length_le (by simp), ← hnd1, show As (l.length + 1) = As (edgesT k l).length by rw [hee]; simp] at hc
        repeat refine zS ?_
        iterate 3 refine zX ?_
        refine oA hc ?_
        refine zX ?_
        repeat refine zS ?_
        exact weak_of (by repeat' (first | exact trivial | refine ⟨rfl, ?_⟩))
      · have hk : ¬ l.length < k := of_decide_eq_false h
        have hee : edgesT k l = l := by unfold edgesT; rw [if_neg hk]
        have hAs : As l.length = As (edgesT k l).length := by rw [hee]
        have hnn : (walkT T 0 ((edgesT k l).take l.length)).2 = nd1 := by rw [hnd1, hee, List.take_length]
        rw [hnn, hAs]
        repeat refine zS ?_
        exact weak_of (by repeat' (first | exact trivial | refine ⟨rfl, ?_⟩))
    · generalize As (edgesT k l).length = Ae at *
      obtain ⟨o0, o1, o2, M, rfl⟩ : ∃ o0 o1 o2 M, Ae = o0 :: o1 :: o2 :: M := by
        match Ae, hge with
        | a :: b :: c :: M, _ => exact ⟨a, b, c, M, rfl⟩
      obtain rfl : o2 = .box [.vs r 10 0 (T1.q.length + 1), .mp 1] := by simpa using b3
      repeat refine zS ?_
      iterate 6 refine zX ?_
      refine zCut (bpR r nd1) ?_
      refine zX ?_
      refine oV (v := .d (iI (ndT T1 nd1).p)) ?_ (hv := evAny_loadV rfl rfl rfl rfl b1 hcell)
      refine zX ?_
      repeat refine zS ?_
      iterate 7 refine zX ?_
      refine zCut (bpR r nd1) ?_
      refine zX ?_
      refine oV (v := .d .any) (objs' := List.set (o0 :: o1 :: .box [.vs r 10 0 (T1.q.length + 1), .mp 1] :: M) r (vecN (rowT ⟨T1.q, T1.v.set nd1 p⟩))) ?_ (hv := evAny_storeV (c := .d (iI p)) rfl rfl rfl rfl rfl rfl rfl b1 hlt) (ho := by rw [← hput]; rfl)
      repeat refine zS ?_
      iterate 3 refine zX ?_
      repeat refine zS ?_
      refine Run.ret ?_
      exact ⟨trivial, _, _, rfl, rfl, .refl, wkRefl _⟩
theorem nine {x : List Int} (h : x.length = 9) : ∃ a b c d e f g i j, x = [a, b, c, d, e, f, g, i, j] := by
  match x, h with
  | [a, b, c, d, e, f, g, i, j], _ => exact ⟨a, b, c, d, e, f, g, i, j, rfl⟩
abbrev trD (N : List Nd) : DV := .agg [.sl 10 (N.map nd)]
theorem chunkN : ∀ (N : List Nd), N9 N → chunk true 10 N.length (flN N) = N.map nd
  | [], _ => rfl
  | n :: N, h => by
    have h9 := h n (by simp)
    have e : flN (n :: N) = ndC n ++ flN N := by simp [flN]
    have hl : (ndC n).length = 10 := by simp [h9]
    rw [e, List.length_cons, chunk, List.drop_left' hl, chunkN N (fun m hm => h m (by simp [hm])), List.map_cons]
    congr 1
    show elemA true 10 (ndC n ++ flN N) = nd n
    have : List.take 10 (ndC n ++ flN N) = ndC n := by rw [List.take_append_of_le_length (by omega), List.take_of_length_le (by omega)]
    simp only [elemA, this]
theorem allM_dv (objs : List Ob) (k : Nat) : ∀ l : List DV, allM (dvOf objs k) (l.map AV.d) = some l
  | [] => rfl
  | x :: l => by
    cases k <;> simp only [List.map_cons, allM, allM_dv objs _ l, dvOf]
theorem dv_vecN {objs : List Ob} {r k : Nat} {N : List Nd} (h : objs[r]? = some (vecN N)) (h9 : N9 N) {n : Nat} (hn : n = N.length) : dvOf objs (k + 1) (.vs r 10 0 n) = some (.sl 10 (N.map nd)) := by
  subst hn
  have e : List.take (N.length * 10) (List.drop (0 * 10) ((flN N).map AV.d)) = (flN N).map AV.d := by
    rw [Nat.zero_mul, List.drop_zero]
    exact List.take_of_length_le (by rw [List.length_map, flN_len h9]; exact Nat.le_refl _)
  have h1 : (Nat.beq 10 10 && Nat.ble (0 + N.length) N.length && Nat.ble 1 10 && (true || Nat.beq 10 1)) = true := by
    rw [Nat.zero_add, Nat.ble_eq_true_of_le (Nat.le_refl N.length)]; rfl
  simp only [dvOf, h]
  rw [if_pos h1, e, allM_dv, Option.map_some, chunkN N h9]
def RO (T : Trt) (b : Nat) (objs : List Ob) : Prop := ∃ r, objs[r]? = some (vecN (rowT T)) ∧ objs[b]? = some (.box [.vs r 10 0 (T.q.length + 1)]) ∧ ∀ j o, objs[j]? = some o → j ≠ b → okO 0 o = true
theorem RO.refs {T : Trt} {b : Nat} {objs : List Ob} (h : RO T b objs) : objs.all (refOb objs.length) = true := by
  obtain ⟨r, h1, h3, h4⟩ := h
  rw [List.all_eq_true]
  intro o ho
  obtain ⟨j, hj⟩ := List.getElem?_of_mem ho
  by_cases hb : j = b
  · subst hb
    rw [h3] at hj; cases hj
    have e1 := (List.getElem?_eq_some_iff.1 h1).1
    simp only [refOb, refA, List.all_cons, List.all_nil, Bool.and_true, Nat.blt_eq]
    exact e1
  · exact okO0_ref (h4 j o hj hb)
theorem stepA (T : Trt) (hT : OkT T) (hl : T.q.length ≤ 999999) (a e : Nat) (ha : a ≤ T.q.length) (he : e ≤ 8) : ∃ (A' : List Ob) (r' : Nat), ACall Try.prog 95 [.agg [.vs 0 10 0 (T.q.length + 1)], .d (nI a), .d (nI e)] [vecN (rowT T)]
    (.tup [.agg [.vs r' 10 0 ((stepT T a e).q.length + 1)], .d (nI (toT (stepT T a e).q a e))]) A' ∧ A'[r']? = some (vecN (rowT (stepT T a e))) ∧ 1 ≤ A'.length ∧ ∀ (j : Nat) (o : Ob), A'[j]? = some o → okO 0 o = true := by
  have hlen := rowT_len T
  by_cases hm : (a, e) ∈ T.q
  · have e1 : stepT T a e = T := by rw [stepT, if_pos hm]
    have hx := ndT_x (T := T) (a := a) (show e < 9 by omega)
    rw [e1]
    have h := stepHas (rowT T) (rowT_9 T) a e _ _ (rowT_get ha) (by omega) hx (by rw [toT_mem hm]; omega)
    rw [hlen] at h
    refine ⟨_, 0, h, rfl, by simp, fun j o ho => ?_⟩
    match j, ho with
    | 0, ho => simp at ho; subst ho; exact vecN_ok0 _ _
    | j + 1, ho => simp at ho
  · have hr := rowT_new hT ha (show e < 9 by omega) hm
    have hx := ndT_x (T := T) (a := a) (show e < 9 by omega)
    rw [toT_not hm] at hx
    have h := stepNew (rowT T) (rowT_9 T) (by omega) a e _ (rowT_get ha) (by omega) hx
    have e1 : stepT T a e = ⟨T.q ++ [(a, e)], T.v ++ [-1]⟩ := by rw [stepT, if_neg hm]
    have e2 : toT (stepT T a e).q a e = T.q.length + 1 := by rw [e1]; simp only; rw [toT_app hm, if_pos rfl]
    have e4 : (stepT T a e).q.length = T.q.length + 1 := by rw [e1]; simp
    rw [hlen, ← hr] at h
    rw [e2, e4]
    refine ⟨_, 3, h, rfl, by simp, fun j o ho => ?_⟩
    match j, ho with
    | 0, ho => simp at ho; subst ho; rfl
    | 1, ho => simp at ho; subst ho; rfl
    | 2, ho => simp at ho; subst ho; rfl
    | 3, ho => simp at ho; subst ho; exact vecN_ok0 _ _
    | j + 4, ho => simp at ho
theorem stepL {T : Trt} {r b : Nat} {Big : List Ob} {cs : List AV} (hT : OkT T) (hl : T.q.length ≤ 999999) (a e : Nat) (ha : a ≤ T.q.length) (he : e ≤ 8) (h1 : Big[r]? = some (vecN (rowT T))) (h3 : Big[b]? = some (.box cs)) (h4 : ∀ j o, Big[j]? = some o → j ≠ b → okO 0 o = true) :
    ∃ (Big' : List Ob) (r' : Nat), ACall Try.prog 95 [.agg [.vs r 10 0 (T.q.length + 1)], .d (nI a), .d (nI e)] Big (.tup [.agg [.vs r' 10 0 ((stepT T a e).q.length + 1)], .d (nI (toT (stepT T a e).q a e))]) Big' ∧
      Big'[r']? = some (vecN (rowT (stepT T a e))) ∧ Big.length ≤ Big'.length ∧ (∀ (j : Nat) cs, Big[j]? = some (Ob.box cs) → Big'[j]? = some (Ob.box cs)) ∧ ∀ (j : Nat) o, Big'[j]? = some o → j ≠ b → okO 0 o = true := by
  obtain ⟨A', r', c1, c2, c3, c4⟩ := stepA T hT hl a e ha he
  have hlt : ∀ p ∈ [r], p < Big.length := by simp [(List.getElem?_eq_some_iff.1 h1).1]
  have hg := c1.grow [r] (Big := Big) rfl c3 (by simp) ⟨by rw [okO0_reO (vecN_ok0 _ _)]; exact h1, trivial⟩ (by simp only [List.all_cons, vecN_ok0, List.all_nil]; rfl) rfl
  have at' := fun (k : Nat) (ob : Ob) (hk : A'[k]? = some ob) => growL_at (A' := A') (pos := [r]) (by simp) hlt hk
  refine ⟨growL Big [r] [r].length A', atOf [r] Big.length r', hg, ?_, by rw [growL_len]; exact Nat.le_add_right _ _, fun j cs hj => ?_, fun j o ho hj => ?_⟩
  · have := at' r' _ c2
    rwa [okO0_reO (vecN_ok0 _ _)] at this
  · have hn : j ∉ [r] := by
      simp only [List.mem_cons, List.not_mem_nil, or_false]
      intro e; subst e; rw [h1] at hj; cases hj
    rw [growL_old (List.getElem?_eq_some_iff.1 hj).1 hn]; exact hj
  · rcases growL_cases (by simp) hlt c3 ho with ⟨_, _, d3⟩ | ⟨k, o', d1, d2, d3⟩
    · exact h4 j o d3 hj
    · have := c4 k o' d1
      rw [d2, okO0_reO this]; exact this
theorem three {α : Type} {l : List α} (h : 3 ≤ l.length) : ∃ a b c M, l = a :: b :: c :: M := by
  match l, h with
  | a :: b :: c :: M, _ => exact ⟨a, b, c, M, rfl⟩
abbrev lfC (e : List Nat × Int) : List DV := lkC e.1 ++ [iI e.2]
abbrev lf (e : List Nat × Int) : DV := .agg (lfC e)
def nodeAt (N : List Nd) (i : Int) : Option Nd := if i < 0 then none else N[i.toNat]?
def kidsF (f : Int → List Nat → List (List Nat × Int)) (n : Nd) (x : List Nat) : Nat → List (List Nat × Int)
  | 0 => []
  | m + 1 => (if n.x.getD (7 - m) 0 = 0 then [] else f (n.x.getD (7 - m) 0) (x ++ [7 - m])) ++ kidsF f n x m
def lvF (N : List Nd) : Nat → Int → List Nat → List (List Nat × Int)
  | 0, i, x => match nodeAt N i with
    | none => [([], -2)]
    | some n => [(x, n.p)]
  | d + 1, i, x => match nodeAt N i with
    | none => [([], -2)]
    | some n => if n.x.getD 8 0 = 0 then kidsF (lvF N d) n x 8 else match nodeAt N (n.x.getD 8 0) with
      | none => [([], -2)]
      | some m => (x, m.p) :: kidsF (lvF N d) n x 8
theorem nodeAt_none {N : List Nd} {i : Int} (h : nodeAt N i = none) : i < 0 ∨ (N.length : Int) ≤ i := by
  unfold nodeAt at h
  split at h
  · exact .inl ‹_›
  · have := List.getElem?_eq_none_iff.1 h; omega
theorem nodeAt_some {N : List Nd} {i : Int} {n : Nd} (h : nodeAt N i = some n) : ∃ j : Nat, i = j ∧ N[j]? = some n := by
  unfold nodeAt at h
  split at h
  · cases h
  · exact ⟨i.toNat, by omega, h⟩
structure Feed (yi L : Nat) (E : List (List Nat × Int)) (B : Nat → List Ob) (n : Nat) (obs : List Ob) : Prop where
  ylt : yi < L
  len : ∀ c, (B c).length = L
  refs : ∀ c, (B c).all (refOb L) = true
  le : n ≤ E.length
  go : ∀ c e, c < n → E[c]? = some e → AYield Try.prog yi [.d (lf e)] (B c) (.d (.bool true)) (B (c + 1))
  fin : (n = E.length ∧ obs = B n) ∨ ∃ e, E[n]? = some e ∧ AYield Try.prog yi [.d (lf e)] (B n) (.d (.bool false)) obs
  ol : obs.length = L
  ore : obs.all (refOb L) = true
theorem Feed.nil {yi L : Nat} {B : Nat → List Ob} {n : Nat} {obs : List Ob} (h : Feed yi L [] B n obs) : obs = B 0 := by
  have h0 : n = 0 := by have := h.le; simpa using this
  subst h0
  rcases h.fin with ⟨_, h⟩ | ⟨e, h, _⟩
  · exact h
  · simp at h
theorem Feed.cons {yi L : Nat} {e : List Nat × Int} {E : List (List Nat × Int)} {B : Nat → List Ob} {n : Nat} {obs : List Ob} (h : Feed yi L (e :: E) B n obs) :
    (AYield Try.prog yi [.d (lf e)] (B 0) (.d (.bool true)) (B 1) ∧ Feed yi L E (fun c => B (1 + c)) (n - 1) obs) ∨ AYield Try.prog yi [.d (lf e)] (B 0) (.d (.bool false)) obs := by
  rcases Nat.eq_zero_or_pos n with h0 | h0
  · subst h0
    rcases h.fin with ⟨h1, _⟩ | ⟨e', h1, h2⟩
    · simp at h1
    · simp at h1; subst h1; exact .inr h2
  · left
    refine ⟨h.go 0 e h0 rfl, h.ylt, fun c => h.len _, fun c => h.refs _, by have := h.le; simp at this; omega, fun c e' hc he => ?_, ?_, h.ol, h.ore⟩
    · have := h.go (1 + c) e' (by omega) (by rw [Nat.add_comm]; simpa using he)
      exact this
    · rcases h.fin with ⟨h1, h2⟩ | ⟨e', h1, h2⟩
      · left
        refine ⟨by simp at h1; omega, ?_⟩
        rw [h2]; congr 1; omega
      · right
        refine ⟨e', ?_, ?_⟩
        · rw [show n = (n - 1) + 1 by omega] at h1; simpa using h1
        · have : 1 + (n - 1) = n := by omega
          simp only [this]; exact h2
theorem Feed.app {yi L : Nat} {E1 E2 : List (List Nat × Int)} {B : Nat → List Ob} {n : Nat} {obs : List Ob} (h : Feed yi L (E1 ++ E2) B n obs) :
    (Feed yi L E1 B E1.length (B E1.length) ∧ Feed yi L E2 (fun c => B (E1.length + c)) (n - E1.length) obs) ∨ (n < E1.length ∧ Feed yi L E1 B n obs) := by
  have hle := h.le
  rw [List.length_append] at hle
  rcases Nat.lt_or_ge n E1.length with h0 | h0
  · right
    refine ⟨h0, h.ylt, h.len, h.refs, by omega, fun c e hc he => h.go c e hc (by rw [List.getElem?_append_left (by omega)]; exact he), ?_, h.ol, h.ore⟩
    rcases h.fin with ⟨h1, _⟩ | ⟨e, h1, h2⟩
    · rw [List.length_append] at h1; omega
    · exact .inr ⟨e, by rw [List.getElem?_append_left h0] at h1; exact h1, h2⟩
  · left
    refine ⟨⟨h.ylt, h.len, h.refs, Nat.le_refl _, fun c e hc he => h.go c e (by omega) (by rw [List.getElem?_append_left hc]; exact he), .inl ⟨rfl, rfl⟩, h.len _, h.refs _⟩,
      h.ylt, fun c => h.len _, fun c => h.refs _, by omega, fun c e hc he => ?_, ?_, h.ol, h.ore⟩
    · exact h.go (E1.length + c) e (by omega) (by rw [List.getElem?_append_right (by omega), Nat.add_sub_cancel_left]; exact he)
    · rcases h.fin with ⟨h1, h2⟩ | ⟨e, h1, h2⟩
      · left
        rw [List.length_append] at h1
        refine ⟨by omega, ?_⟩
        rw [h2]; congr 1; omega
      · right
        refine ⟨e, ?_, ?_⟩
        · rw [List.getElem?_append_right h0] at h1; exact h1
        · have : E1.length + (n - E1.length) = n := by omega
          simp only [this]; exact h2
theorem Feed.one {yi L : Nat} {e : List Nat × Int} {B : Nat → List Ob} {n : Nat} {obs : List Ob} (h : Feed yi L [e] B n obs) : ∃ b, AYield Try.prog yi [.d (lf e)] (B 0) (.d (.bool b)) obs := by
  rcases h.cons with ⟨h1, h2⟩ | h1
  · have := h2.nil
    rw [this]; exact ⟨true, h1⟩
  · exact ⟨false, h1⟩
def Xp : Nat → List Ob
  | 0 => []
  | j + 1 => Xp j ++ [.raw (.deferred (some [])), .gone]
def mkP (L : Nat) : Nat → List Nat
  | 0 => []
  | j + 1 => (L + 1 + 2 * j) :: mkP L j
theorem Xp_len : ∀ j, (Xp j).length = 2 * j
  | 0 => rfl
  | j + 1 => by simp [Xp, Xp_len j]; omega
theorem Xp_refs (n : Nat) : ∀ j, (Xp j).all (refOb n) = true
  | 0 => rfl
  | j + 1 => by simp only [Xp, List.all_append, Xp_refs n j, List.all_cons, List.all_nil, Bool.true_and, Bool.and_true]; rfl
theorem mkP_mem {L : Nat} : ∀ {j i : Nat}, i ∈ mkP L j → ∃ k, k < j ∧ i = L + 1 + 2 * k
  | 0, i, h => by simp [mkP] at h
  | j + 1, i, h => by
    simp only [mkP, List.mem_cons] at h
    rcases h with rfl | h
    · exact ⟨j, by omega, rfl⟩
    · obtain ⟨k, h1, h2⟩ := mkP_mem h
      exact ⟨k, by omega, h2⟩
theorem mkP_nodup (L : Nat) : ∀ j, (mkP L j).Nodup
  | 0 => by simp [mkP]
  | j + 1 => by
    simp only [mkP, List.nodup_cons]
    refine ⟨fun h => ?_, mkP_nodup L j⟩
    obtain ⟨k, h1, h2⟩ := mkP_mem h
    omega
theorem Xp_at : ∀ {j k : Nat}, k < j → (Xp j)[2 * k]? = some (.raw (.deferred (some [])))
  | 0, k, h => by omega
  | j + 1, k, h => by
    simp only [Xp]
    rcases Nat.lt_or_ge k j with h1 | h1
    · rw [List.getElem?_append_left (by rw [Xp_len]; omega)]; exact Xp_at h1
    · have : k = j := by omega
      subst this
      rw [List.getElem?_append_right (by rw [Xp_len]; exact Nat.le_refl _), Xp_len, Nat.sub_self]; rfl
theorem leave_xp {B : List Ob} {a : Ob} (j : Nat) : ∃ O', evLeave H0 ((mkP B.length j).map Dl.mark) none (B ++ a :: Xp j) = some (none, O') ∧ WkObs O' B := by
  obtain ⟨O', h1, h2, h3⟩ := leave_marks (mkP B.length j) (B ++ a :: Xp j) (mkP_nodup _ _) (fun i hi => by
    obtain ⟨k, hk, rfl⟩ := mkP_mem hi
    rw [List.getElem?_append_right (by omega), show B.length + 1 + 2 * k - B.length = 2 * k + 1 by omega]
    show (Xp j)[2 * k]? = _
    exact Xp_at hk)
  refine ⟨O', h1, wk_prefix fun i b hb => ?_⟩
  have hi := (List.getElem?_eq_some_iff.1 hb).1
  rw [h3 i (fun hm => by obtain ⟨k, _, e⟩ := mkP_mem hm; omega), List.getElem?_append_left hi]
  exact hb
theorem leavesK (k t : Nat) (N : List Nd) (i : Int) (x : List Nat) : KnownCall Try.prog 65 [nI k, iI t, trD N, iI i, lk x] (.d (.fn (.func 98) [] [.ep [iI i], .ep [.sl 10 (N.map nd)], .ep (lkC x), .ep [nI k], .ep [iI t]])) := by
  refine kF Try.func65 [5, 6, 7, 8, 9] fun w => ?_
  repeat' (first
    | refine zW ?_
    | refine zB ?_ ?_ <;> intro h <;> try exact zk h
    | refine zX ?_
    | rfl
    | fail)
theorem get_box {B X : List Ob} {b : Ob} : (B ++ b :: X)[B.length]? = some b := by
  rw [List.getElem?_append_right (Nat.le_refl _), Nat.sub_self]; rfl
theorem wk_app {l X : List Ob} : WkObs (l ++ X) l := wk_prefix fun i b hb => by
  rw [List.getElem?_append_left (List.getElem?_eq_some_iff.1 hb).1]; exact hb
theorem get_box' {B X : List Ob} {b : Ob} {L : Nat} (h : B.length = L) : (B ++ b :: X)[L]? = some b := by subst h; exact get_box
theorem get_box2 {B X Y : List Ob} {b : Ob} {L : Nat} (h : B.length = L) : ((B ++ b :: X) ++ Y)[L]? = some b := by
  rw [List.append_assoc, List.cons_append]; exact get_box' h
theorem Run.freezeD {P : Program} {nt m : Nat} {ro' : Option Nat} {K : Ex → S → Prop} {c : Code} {tm tm' : PT AV} {objs objs' : List Ob} {dl : List Dl} (i : Nat) {ds : List DV} (h : Run P nt m ro' c ⟨tm', objs', dl⟩ K) (hi : objs[i]? = some (.box (ds.map .d))) (he : objs.set i .gone = objs')
    (ht : ∀ t v, tm'.get? t = some v → tm.get? t = some v ∨ ∃ off, off ≤ ds.length ∧ tm.get? t = some (.bp i off) ∧ v = .d (.ep (ds.drop off))) : Run P nt m ro' c ⟨tm, objs, dl⟩ K := by
  subst he
  intro D0 β0 o0 w0 hb0 ro Q a w hro hK hs
  obtain ⟨D, β, h1, h2, h3⟩ := hs
  have hil := (List.getElem?_eq_some_iff.1 hi).1
  obtain ⟨bi, hb⟩ : ∃ bi, β[i]? = some bi := ⟨β[i]'(by have := h1.heap.len; simp only at this; rw [this]; exact hil), by simp⟩
  obtain ⟨st, hr⟩ := box_freeze h1.heap hb hi
  refine h D0 β0 o0 w0 hb0 ro Q a w hro hK ⟨_, β, h1.trans st, ⟨h2.1, fun t => ?_⟩, h3.mono st.dsub st.bext⟩
  cases hv : tm'.get? t with
  | none => exact .d .any
  | some v =>
    rcases ht t v hv with e | ⟨off, h4, h5, rfl⟩
    · have := h2.2 t
      simp only at this
      rw [e] at this
      exact st.repA this
    · have := h2.2 t
      simp only at this
      rw [h5] at this
      simp only [Option.getD_some] at this ⊢
      generalize a.tmps.getD t undef = u at this ⊢
      cases this with
      | bp hb' => rw [hb] at hb'; cases hb'; exact .d (hr off h4)
theorem Run.dropLastD {P : Program} {nt m : Nat} {ro' : Option Nat} {K : Ex → S → Prop} {c : Code} {tm : PT AV} {O : List Ob} {dl : List Dl} {ds : List DV} (l : List (Nat × AV)) (h : Run P nt m ro' c ⟨PT.ofList l, O, dl⟩ K) (hm : m ≤ O.length) (hO : O.all (refOb O.length) = true) (hd : dl.all (refDl O.length) = true)
    (ht : ∀ t v, (PT.ofList l).get? t = some v → tm.get? t = some v ∨ ∃ off, off ≤ ds.length ∧ tm.get? t = some (.bp O.length off) ∧ v = .d (.ep (ds.drop off))) (hr : allQ (refA 8 O.length) l) : Run P nt m ro' c ⟨tm, O ++ [.box (ds.map .d)], dl⟩ K := by
  refine Run.freezeD O.length (tm' := PT.ofList l) (objs' := O ++ [.gone]) (ds := ds) ?_ (by simp) (by rw [List.set_append_right _ _ (Nat.le_refl _)]; simp) ht
  refine Run.trunc O.length (by simpa using hm) ?_ ?_
  · simp only [refS, ptAll_ofList hr, List.take_left, hO, hd, Bool.and_self]
  · simpa [S.trunc] using h
theorem cellsUp (x : List Nat) (s : Nat) (h : x.length ≤ 3) : (((lkC x).map AV.d).set (1 + x.length) (.d (nI s))).set 0 (.d (nI (x.length + 1))) = (lkC (x ++ [s])).map AV.d := by
  match x, h with
  | [], _ => rfl
  | [a], _ => rfl
  | [a, b], _ => rfl
  | [a, b, c], _ => rfl
theorem leave_xp2 {B : List Ob} {a c : Ob} (j : Nat) : ∃ O', evLeave H0 ((mkP B.length (j + 1)).map Dl.mark) none ((B ++ a :: Xp j) ++ [.raw (.deferred (some [])), c]) = some (none, O') ∧ WkObs O' B := by
  obtain ⟨O', h1, h2, h3⟩ := leave_marks (mkP B.length (j + 1)) ((B ++ a :: Xp j) ++ [.raw (.deferred (some [])), c]) (mkP_nodup _ _) (fun i hi => by
    obtain ⟨k, hk, rfl⟩ := mkP_mem hi
    rw [List.append_assoc, List.getElem?_append_right (by omega), show B.length + 1 + 2 * k - B.length = 2 * k + 1 by omega]
    show (Xp j ++ [_, c])[2 * k]? = _
    rcases Nat.lt_or_ge k j with h1 | h1
    · rw [List.getElem?_append_left (by rw [Xp_len]; omega)]; exact Xp_at h1
    · have : k = j := by omega
      subst this
      rw [List.getElem?_append_right (by rw [Xp_len]; exact Nat.le_refl _), Xp_len, Nat.sub_self]; rfl)
  refine ⟨O', h1, wk_prefix fun i b hb => ?_⟩
  have hi := (List.getElem?_eq_some_iff.1 hb).1
  rw [h3 i (fun hm => by obtain ⟨k, _, e⟩ := mkP_mem hm; omega), List.append_assoc, List.getElem?_append_left hi]
  exact hb
theorem get_rng {B : List Ob} {tm : PT AV} {nt : Nat} {frz : List Nat} {ps : Array Tmp} {cas cbd : Code} {st : LoopState} {pend : Option Code} {L : Nat} (h : B.length = L) : (rangeObs B tm nt frz ps cas cbd st pend)[L + 1]? = some (.loop tm nt frz ps cas cbd st pend) := by subst h; simp [rangeObs]
theorem set_rng {B : List Ob} {tm : PT AV} {nt : Nat} {frz : List Nat} {ps : Array Tmp} {cas cbd : Code} {st : LoopState} {pend : Option Code} {L : Nat} (h : B.length = L) (x : Ob) : (rangeObs B tm nt frz ps cas cbd st pend).set (L + 1) x = B ++ [.raw (.deferred (some [])), x] := by
  subst h
  unfold rangeObs
  rw [List.set_append_right _ _ (by simp)]
  simp
theorem Run.rangeB {P : Program} {E : PT Ty} {frz : List Nat} {nt m : Nat} {K : Ex → S → Prop} {s : S} (hE : EnvOK P E) (hm : P.follows .mixedOrders = true) {f : Operand} {g : FuncId} {a b : List DV} {ps : Array Tmp} {assign body : Code} {r : AV} (B2 : List Ob) (st : LoopState) (pend : Option Code)
    (hf : rd s.tm f = .d (.fn (.func g) a b)) (hA : ACall P g (a.map .d ++ [.yl (s.objs.length + 1)] ++ b.map .d) (rangeObs s.objs s.tm nt frz ps assign body .ready none) r (rangeObs B2 s.tm nt frz ps assign body st pend)) (hp : isPan r = false) (hl : B2.length = s.objs.length) (hst : st ≠ .busy)
    (k : match pend with
      | none => K .normal ⟨s.tm, B2 ++ [.raw (.deferred (some [])), .loop s.tm nt frz ps assign body .exhausted none], .mark s.objs.length :: s.dl⟩
      | some .ret => K .ret ⟨s.tm, B2 ++ [.raw (.deferred (some [])), .loop s.tm nt frz ps assign body .exhausted (some .ret)], .mark s.objs.length :: s.dl⟩
      | _ => False) : Run P nt m none (.rangeFunc f ps assign body) s K := by
  refine Run.range hE hm hf hA hp (get_rng hl) hst ?_
  rw [set_rng hl]
  cases pend with
  | none => exact k
  | some c => cases c <;> first | exact k | exact k.elim
theorem wk_last {a b : Ob} : ∀ l : List Ob, WkObs (l ++ [a, b]) (l ++ [a, .gone])
  | [] => ⟨.refl, .gone, trivial⟩
  | _ :: l => ⟨.refl, wk_last l⟩
theorem ep_take {D : DMap} {cs : List DV} {n : Nat} {v : Value} (h : RepD D (.ep cs) v) : RepD D (.ep (cs.take n)) v := by
  cases h with
  | ep vs hs hv hD hr =>
    have tk : ∀ {α : Type} {l : List α} {j : Nat} {x : α}, (l.take n)[j]? = some x → l[j]? = some x := fun h => (getElem?_take_of h).1
    exact .ep (vs.take n) hs (by simp [hv]) (fun j v hj => hD j v (tk hj)) (fun j c v hc hj => hr j c v (tk hc) (tk hj))
theorem RunOps.epTake {P : Program} {nt m : Nat} {ro' : Option Nat} {K : Ex → S → Prop} {ops : Array Oper} {lo : List Oper} {tm : PT AV} {objs : List Ob} {dl : List Dl} (t n : Nat) (cs : List DV) (l : List (Nat × AV)) (ht : tm.get? t = some (.d (.ep cs)))
    (hl : ∀ t' v, (PT.ofList l).get? t' = some v → (t' = t ∧ v = .d (.ep (cs.take n))) ∨ tm.get? t' = some v) (h : RunOps P nt m ro' ops lo ⟨PT.ofList l, objs, dl⟩ K) : RunOps P nt m ro' ops lo ⟨tm, objs, dl⟩ K := by
  intro D0 β0 o0 w0 hb0 ro Q a w i hro hlo hK hs
  obtain ⟨D, β, h1, h2, h3⟩ := hs
  refine h D0 β0 o0 w0 hb0 ro Q a w i hro hlo hK ⟨D, β, h1, ⟨h2.1, fun t' => ?_⟩, h3⟩
  cases hv : (PT.ofList l).get? t' with
  | none => exact .d .any
  | some v =>
    have h2t := h2.2 t'
    simp only at h2t
    rcases hl t' v hv with ⟨rfl, rfl⟩ | ho
    · rw [ht] at h2t
      cases h2t with
      | d h2t => exact .d (ep_take h2t)
    · rw [ho] at h2t
      exact h2t
abbrev lvA (yi : Nat) (N : List Nd) (i : Int) (x : List Nat) (k t : Nat) : List AV := [.yl yi, .d (.ep [iI i]), .d (.ep [.sl 10 (N.map nd)]), .d (.ep (lkC x)), .d (.ep [nI k]), .d (.ep [iI t])]
theorem leavesN (N : List Nd) (hl : N.length ≤ 1048576) (t k : Nat) (x : List Nat) (i : Int) (yi L : Nat) (B : Nat → List Ob) (n : Nat) (obs : List Ob) (hn : nodeAt N i = none) (hF : Feed yi L [([], -2)] B n obs) :
    ACall Try.prog 98 (lvA yi N i x k t) (B 0) (.tup []) obs := by
  have w : Fz [] := trivial
  have hnl : (N.map nd).length = N.length := by simp
  obtain rfl : L = (B 0).length := (hF.len 0).symm
  obtain ⟨b, hy⟩ := hF.one
  have hy' := hy.frame (ds := [lf ([], -2)]) (X := [.box [.yl yi]]) hF.ylt hF.ol (hF.refs 0)
  have hor := nodeAt_none hn
  refine acallG_of_run Et_ok (fnB Try.func98 []) rfl rfl (by rw [hF.ol]; exact Nat.le_refl _) (by rw [hF.ol]; exact hF.ore) rfl ?_
  have w : Fz [] := trivial
  repeat' (first
    | refine zW ?_
    | refine zB ?_ ?_ <;> intro h <;> try exact zk h
    | refine oV (v := .yl yi) ?_ (hv := evAny_loadB rfl rfl rfl rfl get_box rfl) (he := rfl)
    | refine oY hy' ?_
    | (refine Run.ret ?_ ; exact ⟨trivial, _, _, rfl, rfl, .refl, wk_app⟩)
    | ((exfalso; simp only [List.length_map, decide_eq_true_eq, decide_eq_false_iff_not, ge_iff_le] at *; omega))
    | fail)
set_option maxHeartbeats 2000000 in
theorem leaves0 (N : List Nd) (h9 : N9 N) (hl : N.length ≤ 1048576) (t : Nat) (k : Nat) (x : List Nat) (hx : x.length = k) (i : Int) (yi L : Nat) (B : Nat → List Ob) (n : Nat) (obs : List Ob) (hF : Feed yi L (lvF N 0 i x) B n obs) :
    ACall Try.prog 98 (lvA yi N i x k t) (B 0) (.tup []) obs := by
  have w : Fz [] := trivial
  have hnl : (N.map nd).length = N.length := by simp
  unfold lvF at hF
  cases hn : nodeAt N i with
  | none =>
    rw [hn] at hF
    exact leavesN N hl t k x i yi L B n obs hn hF
  | some nn =>
    rw [hn] at hF
    obtain rfl : L = (B 0).length := (hF.len 0).symm
    obtain ⟨j, rfl, hj⟩ := nodeAt_some hn
    have hjl := (List.getElem?_eq_some_iff.1 hj).1
    obtain ⟨b, hy⟩ := hF.one
    have hy' := hy.frame (ds := [lf (x, nn.p)]) (X := [.box [.yl yi]]) hF.ylt hF.ol (hF.refs 0)
    have hylt := hF.ylt
    have href : (B 0 ++ [Ob.box [.yl yi]]).all (refOb (B 0 ++ [Ob.box [.yl yi]]).length) = true := by
      rw [List.all_append, List.length_append, refs_mono (Nat.le_add_right _ _) (hF.refs 0)]
      simp only [List.all_cons, List.all_nil, Bool.and_true, Bool.true_and, refOb, refA, List.length_cons, List.length_nil, Nat.blt_eq]
      omega
    have h9n := h9 nn (List.mem_of_getElem? hj)
    obtain ⟨nx, np⟩ := nn
    obtain ⟨a0, a1, a2, a3, a4, a5, a6, a7, a8, rfl⟩ := nine h9n
    refine acallG_of_run Et_ok (fnB Try.func98 []) rfl rfl (by rw [hF.ol]; exact Nat.le_refl _) (by rw [hF.ol]; exact hF.ore) rfl ?_
    have w : Fz [] := trivial
    repeat' (first
      | refine zW ?_
      | refine zB ?_ ?_ <;> intro h <;> try exact zk h
      | refine zI w (.d (.ep (ndC ⟨[a0, a1, a2, a3, a4, a5, a6, a7, a8], np⟩))) hj ?_
      | ((exfalso; simp only [List.length_map, decide_eq_true_eq, decide_eq_false_iff_not, ge_iff_le] at *; omega))
      | fail)
    refine oV ?_ (hv := evAny_store_last)
    refine RunOps.nil ?_
    refine Run.dropLast (ds := ndC ⟨[a0, a1, a2, a3, a4, a5, a6, a7, a8], np⟩) [(2, .d (.ep [.sl 10 (N.map nd)])), (3, .d (.ep (lkC x))), (4, .d (.ep [nI k])), (5, .d (.ep [iI t])), (6, .bp (B 0).length 0), (7, .d (.ep (ndC ⟨[a0, a1, a2, a3, a4, a5, a6, a7, a8], np⟩)))] ?_ (by simp) href (ofList_cases (by intro q hq; simp only [List.mem_cons, List.not_mem_nil, or_false] at hq; rcases hq with rfl | rfl | rfl | rfl | rfl | rfl; exact .inl (by kernel_rfl); exact .inl (by kernel_rfl); exact .inl (by kernel_rfl); exact .inl (by kernel_rfl); exact .inl (by kernel_rfl); exact .inr ⟨0, Nat.zero_le _, by kernel_rfl, rfl⟩)) ⟨rfl, rfl, rfl, rfl, by simp [refA], rfl, trivial⟩
    repeat' (first
      | refine zW ?_
      | refine zB ?_ ?_ <;> intro h <;> try exact zk h
      | refine oV (v := .yl yi) ?_ (hv := evAny_loadB rfl rfl rfl rfl get_box rfl) (he := rfl)
      | refine oY hy' ?_
      | (refine Run.ret ?_ ; exact ⟨trivial, _, _, rfl, rfl, .refl, wk_app⟩)
      | ((exfalso; simp only [hx, beq_self_eq_true, reduceCtorEq] at h))
      | fail)
set_option maxHeartbeats 8000000 in
theorem leavesS (N : List Nd) (h9 : N9 N) (hl : N.length ≤ 1048576) (t k d : Nat) (hk : k ≤ 4) (ih : ∀ (x : List Nat) (i : Int) (yi L : Nat) (B : Nat → List Ob) (n : Nat) (obs : List Ob), x.length + d = k → Feed yi L (lvF N d i x) B n obs → ACall Try.prog 98 (lvA yi N i x k t) (B 0) (.tup []) obs)
    (x : List Nat) (hx : x.length + (d + 1) = k) (i : Int) (yi L : Nat) (B : Nat → List Ob) (n : Nat) (obs : List Ob) (hF : Feed yi L (lvF N (d + 1) i x) B n obs) :
    ACall Try.prog 98 (lvA yi N i x k t) (B 0) (.tup []) obs := by
  have w : Fz [] := trivial
  have hnl : (N.map nd).length = N.length := by simp
  unfold lvF at hF
  cases hn : nodeAt N i with
  | none =>
    rw [hn] at hF
    exact leavesN N hl t k x i yi L B n obs hn hF
  | some nn =>
    rw [hn] at hF
    simp only at hF
    obtain rfl : L = (B 0).length := (hF.len 0).symm
    obtain ⟨j, rfl, hj⟩ := nodeAt_some hn
    have hjl := (List.getElem?_eq_some_iff.1 hj).1
    have hylt := hF.ylt
    have hol := hF.ol
    have hore := hF.ore
    have href : (B 0 ++ [Ob.box [.yl yi]]).all (refOb (B 0 ++ [Ob.box [.yl yi]]).length) = true := by
      rw [List.all_append, List.length_append, refs_mono (Nat.le_add_right _ _) (hF.refs 0)]
      simp only [List.all_cons, List.all_nil, Bool.and_true, Bool.true_and, refOb, refA, List.length_cons, List.length_nil, Nat.blt_eq]
      omega
    have h9n := h9 nn (List.mem_of_getElem? hj)
    obtain ⟨nx, np⟩ := nn
    obtain ⟨a0, a1, a2, a3, a4, a5, a6, a7, a8, rfl⟩ := nine h9n
    refine acallG_of_run Et_ok (fnB Try.func98 []) rfl rfl (by rw [hol]; exact Nat.le_refl _) (by rw [hol]; exact hore) rfl ?_
    have w : Fz [] := trivial
    repeat' (first
      | refine zW ?_
      | refine zB ?_ ?_ <;> intro h <;> try exact zk h
      | refine zI w (.d (.ep (ndC ⟨[a0, a1, a2, a3, a4, a5, a6, a7, a8], np⟩))) hj ?_
      | ((exfalso; simp only [List.length_map, decide_eq_true_eq, decide_eq_false_iff_not, ge_iff_le] at *; omega))
      | fail)
    refine oV ?_ (hv := evAny_store_last)
    refine RunOps.nil ?_
    refine Run.dropLast (ds := ndC ⟨[a0, a1, a2, a3, a4, a5, a6, a7, a8], np⟩) [(2, .d (.ep [.sl 10 (N.map nd)])), (3, .d (.ep (lkC x))), (4, .d (.ep [nI k])), (5, .d (.ep [iI t])), (6, .bp (B 0).length 0), (7, .d (.ep (ndC ⟨[a0, a1, a2, a3, a4, a5, a6, a7, a8], np⟩)))] ?_ (by simp) href (ofList_cases (by intro q hq; simp only [List.mem_cons, List.not_mem_nil, or_false] at hq; rcases hq with rfl | rfl | rfl | rfl | rfl | rfl; exact .inl (by kernel_rfl); exact .inl (by kernel_rfl); exact .inl (by kernel_rfl); exact .inl (by kernel_rfl); exact .inl (by kernel_rfl); exact .inr ⟨0, Nat.zero_le _, by kernel_rfl, rfl⟩)) ⟨rfl, rfl, rfl, rfl, by simp [refA], rfl, trivial⟩
    have hxk : ((x.length : Int) == (k : Int)) = false := by simp; omega
    repeat refine zS ?_
    iterate 3 refine zX ?_
    refine zV (show AV.d (.bool ((x.length : Int) == (k : Int))) = .d (.bool false) by rw [hxk]) ?_
    repeat refine zS ?_
    iterate 4 refine zX ?_
    repeat refine zS ?_
    iterate 2 refine zX ?_
    repeat refine zS ?_
    generalize hL : (B 0).length = L at *
    refine Run.midI (fun a : (Nat → List Ob) × Nat => ⟨PT.ofList [(2, .d (.ep [.sl 10 (N.map nd)])), (3, .d (.ep (lkC x))), (4, .d (.ep [nI k])), (5, .d (.ep [iI t])), (6, .bp L 0), (7, .d (.ep (ndC ⟨[a0, a1, a2, a3, a4, a5, a6, a7, a8], np⟩)))], a.1 0 ++ [.box [.yl yi]], []⟩) (fun a => Feed yi L (kidsF (lvF N d) ⟨[a0, a1, a2, a3, a4, a5, a6, a7, a8], np⟩ x 8) a.1 a.2 obs) ?_ (fun ⟨B', n'⟩ hF' => ?_)
    · refine Run.cond (by rfl) (fun h => ?_) (fun h => ?_)
      · have h8 : a8 ≠ 0 := by simpa using h
        rw [if_neg (by exact h8)] at hF
        cases hn8 : nodeAt N a8 with
        | none =>
          rw [show nodeAt N (List.getD [a0, a1, a2, a3, a4, a5, a6, a7, a8] 8 0) = none from hn8] at hF
          obtain ⟨b, hy⟩ := Feed.one hF
          have hy' := hy.frame (ds := [lf ([], -2)]) (X := [.box [.yl yi]]) (by rw [hL]; exact hylt) (by rw [hol, hL]) (by rw [hL]; exact hF.refs 0)
          have hor := nodeAt_none hn8
          repeat' (first
            | refine zW ?_
            | refine zB ?_ ?_ <;> intro h <;> try exact zk h
            | refine oV (v := .yl yi) ?_ (hv := evAny_loadB rfl rfl rfl rfl (get_box' hL) rfl) (he := rfl)
            | refine oY hy' ?_
            | (refine Run.ret ?_ ; exact ⟨trivial, _, _, rfl, rfl, .refl, wk_app⟩)
            | ((exfalso; simp only [List.length_map, decide_eq_true_eq, decide_eq_false_iff_not, ge_iff_le] at *; omega))
            | fail)
        | some n8 =>
          rw [show nodeAt N (List.getD [a0, a1, a2, a3, a4, a5, a6, a7, a8] 8 0) = some n8 from hn8] at hF
          obtain ⟨j8, hj8e, hj8⟩ := nodeAt_some hn8
          subst hj8e
          have hj8l := (List.getElem?_eq_some_iff.1 hj8).1
          have h9m := h9 n8 (List.mem_of_getElem? hj8)
          obtain ⟨mx, mp⟩ := n8
          obtain ⟨b0, b1, b2, b3, b4, b5, b6, b7, b8, rfl⟩ := nine h9m
          rcases hF.cons with ⟨hy, hF2⟩ | hy
          · have hy' := hy.frame (ds := [lf (x, mp)]) (X := [.box [.yl yi]]) (by rw [hL]; exact hylt) (by rw [hF.len, hL]) (by rw [hL]; exact hF.refs 0)
            repeat' (first
              | refine zW ?_
              | refine zB ?_ ?_ <;> intro h <;> try exact zk h
              | refine eX (v := .yl yi) ?_ (hv := evAny_loadB rfl rfl rfl rfl (get_box' hL) rfl) (he := rfl)
              | refine zI w (.d (.ep (ndC ⟨[b0, b1, b2, b3, b4, b5, b6, b7, b8], mp⟩))) hj8 ?_
              | refine eY hy' ?_
              | (exact ⟨(fun c => B (1 + c), n - 1), hF2, weak_of' (by rfl) rfl (by repeat' (first | exact trivial | refine ⟨rfl, ?_⟩))⟩)
              | ((exfalso; simp only [List.length_map, decide_eq_true_eq, decide_eq_false_iff_not, ge_iff_le] at *; omega))
              | fail)
          · have hy' := hy.frame (ds := [lf (x, mp)]) (X := [.box [.yl yi]]) (by rw [hL]; exact hylt) (by rw [hol, hL]) (by rw [hL]; exact hF.refs 0)
            repeat' (first
              | refine zW ?_
              | refine zB ?_ ?_ <;> intro h <;> try exact zk h
              | refine eX (v := .yl yi) ?_ (hv := evAny_loadB rfl rfl rfl rfl (get_box' hL) rfl) (he := rfl)
              | refine zI w (.d (.ep (ndC ⟨[b0, b1, b2, b3, b4, b5, b6, b7, b8], mp⟩))) hj8 ?_
              | refine eY hy' ?_
              | (refine Run.ret ?_ ; exact ⟨trivial, _, _, rfl, rfl, .refl, wk_app⟩)
              | ((exfalso; simp only [List.length_map, decide_eq_true_eq, decide_eq_false_iff_not, ge_iff_le] at *; omega))
              | fail)
      · have h8 : a8 = 0 := by simpa using h
        rw [if_pos (by exact h8)] at hF
        repeat refine zS ?_
        exact ⟨(B, n), hF, weak_of' (by rfl) rfl (by repeat' (first | exact trivial | refine ⟨rfl, ?_⟩))⟩
    · simp only at hF'
      repeat refine zS ?_
      refine zX ?_
      refine RunOps.epTake 68 9 (ndC ⟨[a0, a1, a2, a3, a4, a5, a6, a7, a8], np⟩) [(2, .d (.ep [.sl 10 (N.map nd)])), (3, .d (.ep (lkC x))), (4, .d (.ep [nI k])), (5, .d (.ep [iI t])), (6, .bp L 0), (7, .d (.ep (ndC ⟨[a0, a1, a2, a3, a4, a5, a6, a7, a8], np⟩))), (68, .d (.ep ((ndC ⟨[a0, a1, a2, a3, a4, a5, a6, a7, a8], np⟩).take 9)))] (by kernel_rfl) (ofList_cases (by intro q hq; simp only [List.mem_cons, List.not_mem_nil, or_false] at hq; rcases hq with rfl | rfl | rfl | rfl | rfl | rfl | rfl; exact .inr (by kernel_rfl); exact .inr (by kernel_rfl); exact .inr (by kernel_rfl); exact .inr (by kernel_rfl); exact .inr (by kernel_rfl); exact .inr (by kernel_rfl); exact .inl ⟨rfl, rfl⟩)) ?_
      iterate 3 refine zX ?_
      repeat refine zS ?_
      refine Run.loop (fun a : Nat × Nat × (Nat → List Ob) × Nat => ⟨PT.ofList [(2, .d (.ep [.sl 10 (N.map nd)])), (3, .d (.ep (lkC x))), (4, .d (.ep [nI k])), (5, .d (.ep [iI t])), (6, .bp L 0), (7, .d (.ep (ndC ⟨[a0, a1, a2, a3, a4, a5, a6, a7, a8], np⟩))), (69, .d (.sl 1 ([a0, a1, a2, a3, a4, a5, a6, a7].map iI))), (70, .d (nI 8)), (71, .d (.int .i64 a.1))], a.2.2.1 0 ++ .box [.yl yi] :: Xp a.2.1, (mkP L a.2.1).map Dl.mark⟩)
        (fun a => a.1 ≤ 8 ∧ Feed yi L (kidsF (lvF N d) ⟨[a0, a1, a2, a3, a4, a5, a6, a7, a8], np⟩ x (8 - a.1)) a.2.2.1 a.2.2.2 obs) (fun a => 8 - a.1) (0, 0, B', n') ⟨Nat.zero_le _, hF'⟩ (weak_of' (by rfl) rfl (by repeat' (first | exact trivial | refine ⟨rfl, ?_⟩))) (fun ⟨s, q, Bs, m⟩ ⟨hs, hFs⟩ => ?_)
      simp only at hs hFs
      have hB0 := hFs.len 0
      rcases Nat.lt_or_ge s 8 with hlt | hge
      · obtain ⟨v, hv⟩ : ∃ v, [a0, a1, a2, a3, a4, a5, a6, a7][s]? = some v := ⟨_, List.getElem?_eq_getElem hlt⟩
        have hgv : List.getD [a0, a1, a2, a3, a4, a5, a6, a7, a8] s 0 = v := by
          have : s = 0 ∨ s = 1 ∨ s = 2 ∨ s = 3 ∨ s = 4 ∨ s = 5 ∨ s = 6 ∨ s = 7 := by omega
          rcases this with rfl | rfl | rfl | rfl | rfl | rfl | rfl | rfl <;> simpa using hv
        have hix : AV.d (.ep (cellsD (([a0, a1, a2, a3, a4, a5, a6, a7].map iI).getD ((s : Nat) : Int).toNat .any))) = .d (.ep [iI v]) := by
          have : s = 0 ∨ s = 1 ∨ s = 2 ∨ s = 3 ∨ s = 4 ∨ s = 5 ∨ s = 6 ∨ s = 7 := by omega
          rcases this with rfl | rfl | rfl | rfl | rfl | rfl | rfl | rfl <;> (simp at hv; subst hv; rfl)
        have hks : kidsF (lvF N d) ⟨[a0, a1, a2, a3, a4, a5, a6, a7, a8], np⟩ x (8 - s) = (if v = 0 then [] else lvF N d v (x ++ [s])) ++ kidsF (lvF N d) ⟨[a0, a1, a2, a3, a4, a5, a6, a7, a8], np⟩ x (8 - (s + 1)) := by
          rw [show 8 - s = (7 - s) + 1 by omega, kidsF, show 7 - (7 - s) = s by omega, show 8 - (s + 1) = 7 - s by omega]
          simp only [hgv]
        rw [hks] at hFs
        have href2 : (Bs 0 ++ Ob.box [.yl yi] :: Xp q).all (refOb (Bs 0 ++ Ob.box [.yl yi] :: Xp q).length) = true := by
          rw [List.all_append, List.length_append, List.all_cons, refs_mono (show L ≤ _ by omega) (hFs.refs 0), Xp_refs]
          simp only [Bool.true_and, Bool.and_true, refOb, refA, List.all_cons, List.all_nil, Nat.blt_eq]
          omega
        have hM : (Bs 0 ++ Ob.box [.yl yi] :: Xp q).length = L + 1 + 2 * q := by simp [hB0, Xp_len]; omega
        have hmk : ((mkP L q).map Dl.mark).all (refDl (Bs 0 ++ Ob.box [.yl yi] :: Xp q).length) = true := by
          rw [hM, List.all_map, List.all_eq_true]
          intro i hi
          obtain ⟨k', h1, rfl⟩ := mkP_mem hi
          simp only [Function.comp, refDl, Nat.blt_eq]; omega
        by_cases hv0 : v = 0
        · rw [if_pos hv0, List.nil_append] at hFs
          subst hv0
          repeat refine zS ?_
          refine zV (lt_true hlt) ?_
          repeat refine zS ?_
          refine zX ?_
          refine zCut hix ?_
          iterate 3 refine zX ?_
          repeat refine zS ?_
          refine zX ?_
          refine zV (show AV.d (.bool ((0 : Int) == 0)) = .d (.bool true) from rfl) ?_
          repeat refine zS ?_
          iterate 2 refine zX ?_
          repeat refine zS ?_
          exact ⟨(s + 1, q, Bs, m), ⟨hlt, hFs⟩, by simp only; omega, weak_of' (by rfl) rfl (by repeat' (first | exact trivial | refine ⟨rfl, ?_⟩ | refine ⟨(inc_get (k := s) (by kernel_rfl) (by omega)), ?_⟩))⟩
        · rw [if_neg hv0] at hFs
          have hvb : ((v : Int) == 0) = false := by simpa using hv0
          have hx3 : x.length ≤ 3 := by omega
          have hup := cellsUp x s hx3
          have hwr : AV.d (.int .i64 (IntKind.i64.wrap (((x.length : Nat) : Int) + 1))) = .d (nI (x.length + 1)) := by
            congr 2
            have := wrap_nat (n := x.length + 1) (by omega)
            rw [← this]; congr 1
          have hbp : AV.bp (Bs 0 ++ Ob.box [.yl yi] :: Xp q).length (0 + 1 + ((x.length : Nat) : Int).toNat * 1) = .bp (Bs 0 ++ Ob.box [.yl yi] :: Xp q).length (1 + x.length) := by simp
          have hck := leavesK k t N v (x ++ [s])
          have hN0 : (((lkC x).map AV.d).set (1 + x.length) (.d (nI s)))[0]? = some (.d (nI x.length)) := by rw [List.getElem?_set_ne (by omega)]; rfl
          repeat refine zS ?_
          refine zV (lt_true hlt) ?_
          repeat refine zS ?_
          refine zX ?_
          refine zCut hix ?_
          iterate 3 refine zX ?_
          repeat refine zS ?_
          refine zX ?_
          refine zV (show AV.d (.bool ((v : Int) == 0)) = .d (.bool false) by rw [hvb]) ?_
          repeat refine zS ?_
          iterate 2 refine zX ?_
          refine oV (objs' := (Bs 0 ++ Ob.box [.yl yi] :: Xp q) ++ [.box ((lkC x).map AV.d)]) ?_ (hv := evAny_store_last) (ho := rfl)
          repeat refine zS ?_
          refine zX ?_
          refine oV (v := .d (nI x.length)) ?_ (hv := evAny_loadB rfl rfl rfl rfl get_last rfl)
          iterate 2 refine zX ?_
          refine zCut hbp ?_
          refine oV (v := .d .any) (objs' := (Bs 0 ++ Ob.box [.yl yi] :: Xp q) ++ [.box (((lkC x).map AV.d).set (1 + x.length) (.d (nI s)))]) ?_ (hv := evAny_storeB (c := .d (nI s)) rfl rfl rfl rfl rfl rfl rfl get_last (by show 1 + x.length < 5; omega)) (ho := by exact set_last)
          repeat refine zS ?_
          refine zX ?_
          refine oV (v := .d (nI x.length)) ?_ (hv := evAny_loadB rfl rfl rfl rfl get_last hN0)
          refine zV hwr ?_
          refine zX ?_
          refine oV (v := .d .any) (objs' := (Bs 0 ++ Ob.box [.yl yi] :: Xp q) ++ [.box ((lkC (x ++ [s])).map AV.d)]) ?_ (hv := evAny_storeB (c := .d (nI (x.length + 1))) rfl rfl rfl rfl rfl rfl rfl get_last (by rw [List.length_set]; show 0 < 5; omega)) (ho := by rw [← hup]; exact set_last)
          refine RunOps.nil ?_
          refine Run.dropLastD (ds := lkC (x ++ [s])) [(2, .d (.ep [.sl 10 (N.map nd)])), (3, .d (.ep (lkC x))), (4, .d (.ep [nI k])), (5, .d (.ep [iI t])), (6, .bp L 0), (7, .d (.ep (ndC ⟨[a0, a1, a2, a3, a4, a5, a6, a7, a8], np⟩))), (69, .d (.sl 1 ([a0, a1, a2, a3, a4, a5, a6, a7].map iI))), (70, .d (nI 8)), (71, .d (.int .i64 s)), (10, .d (iI v)), (11, .d (.ep (lkC (x ++ [s]))))] ?_ (by rw [hM]; omega) href2 hmk (ofList_cases (by intro q hq; simp only [List.mem_cons, List.not_mem_nil, or_false] at hq; rcases hq with rfl | rfl | rfl | rfl | rfl | rfl | rfl | rfl | rfl | rfl | rfl; exact .inl (by kernel_rfl); exact .inl (by kernel_rfl); exact .inl (by kernel_rfl); exact .inl (by kernel_rfl); exact .inl (by kernel_rfl); exact .inl (by kernel_rfl); exact .inl (by kernel_rfl); exact .inl (by kernel_rfl); exact .inl (by kernel_rfl); exact .inl (by kernel_rfl); exact .inr ⟨0, Nat.zero_le _, by kernel_rfl, rfl⟩)) ⟨rfl, rfl, rfl, rfl, by rw [hM]; simp only [refA, Nat.blt_eq]; omega, rfl, rfl, rfl, rfl, rfl, rfl, trivial⟩
          repeat refine zS ?_
          iterate 5 refine zX ?_
          refine zC hck ?_
          refine RunOps.nil ?_
          repeat refine zS ?_
          have hmix : Try.prog.follows .mixedOrders = true := by kernel_rfl
          have hT : ptAll (refA 8 ((Bs 0 ++ Ob.box [.yl yi] :: Xp q).length + 2)) (PT.ofList [(2, .d (.ep [.sl 10 (N.map nd)])), (3, .d (.ep (lkC x))), (4, .d (.ep [nI k])), (5, .d (.ep [iI t])), (6, .bp L 0), (7, .d (.ep (ndC ⟨[a0, a1, a2, a3, a4, a5, a6, a7, a8], np⟩))), (69, .d (.sl 1 ([a0, a1, a2, a3, a4, a5, a6, a7].map iI))), (70, .d (nI 8)), (71, .d (.int .i64 s)), (93, .d (.fn (.func 98) [] [.ep [iI v], .ep [.sl 10 (N.map nd)], .ep (lkC (x ++ [s])), .ep [nI k], .ep [iI t]]))]) = true := ptAll_ofList ⟨rfl, rfl, rfl, rfl, by rw [hM]; simp only [refA, Nat.blt_eq]; omega, rfl, rfl, rfl, rfl, rfl, trivial⟩
          refine Run.weak (weak_of (l := [(2, .d (.ep [.sl 10 (N.map nd)])), (3, .d (.ep (lkC x))), (4, .d (.ep [nI k])), (5, .d (.ep [iI t])), (6, .bp L 0), (7, .d (.ep (ndC ⟨[a0, a1, a2, a3, a4, a5, a6, a7, a8], np⟩))), (69, .d (.sl 1 ([a0, a1, a2, a3, a4, a5, a6, a7].map iI))), (70, .d (nI 8)), (71, .d (.int .i64 s)), (93, .d (.fn (.func 98) [] [.ep [iI v], .ep [.sl 10 (N.map nd)], .ep (lkC (x ++ [s])), .ep [nI k], .ep [iI t]]))]) (by repeat' (first | exact trivial | refine ⟨rfl, ?_⟩))) ?_
          have hlc : ∀ C : List Ob, C.length = L → (C ++ Ob.box [.yl yi] :: Xp q).length = (Bs 0 ++ Ob.box [.yl yi] :: Xp q).length := fun C hC => by rw [hM]; simp [hC, Xp_len]; omega
          have hrc : ∀ C : List Ob, C.all (refOb L) = true → (C ++ Ob.box [.yl yi] :: Xp q).all (refOb ((Bs 0 ++ Ob.box [.yl yi] :: Xp q).length + 2)) = true := fun C hC => by
            rw [List.all_append, List.all_cons, refs_mono (show L ≤ (Bs 0 ++ Ob.box [.yl yi] :: Xp q).length + 2 by rw [hM]; omega) hC, Xp_refs, hM]
            simp only [Bool.true_and, Bool.and_true, refOb, refA, List.all_cons, List.all_nil, Nat.blt_eq]
            omega
          rcases hFs.app with ⟨hF1, hF2⟩ | ⟨hnlt, hF1⟩
          · refine Run.rangeB (frz := []) (s := ⟨PT.ofList [(2, .d (.ep [.sl 10 (N.map nd)])), (3, .d (.ep (lkC x))), (4, .d (.ep [nI k])), (5, .d (.ep [iI t])), (6, .bp L 0), (7, .d (.ep (ndC ⟨[a0, a1, a2, a3, a4, a5, a6, a7, a8], np⟩))), (69, .d (.sl 1 ([a0, a1, a2, a3, a4, a5, a6, a7].map iI))), (70, .d (nI 8)), (71, .d (.int .i64 s)), (93, .d (.fn (.func 98) [] [.ep [iI v], .ep [.sl 10 (N.map nd)], .ep (lkC (x ++ [s])), .ep [nI k], .ep [iI t]]))], (Bs 0 ++ Ob.box [.yl yi] :: Xp q), (mkP L q).map Dl.mark⟩) (r := .tup []) Et_ok hmix (Bs (lvF N d v (x ++ [s])).length ++ Ob.box [.yl yi] :: Xp q) .ready none rfl ?_ rfl (hlc _ (hF1.len _)) (by simp) ?_
            · refine ih (x ++ [s]) v ((Bs 0 ++ Ob.box [.yl yi] :: Xp q).length + 1) ((Bs 0 ++ Ob.box [.yl yi] :: Xp q).length + 2) (fun c => rangeObs (Bs c ++ Ob.box [.yl yi] :: Xp q) (PT.ofList [(2, .d (.ep [.sl 10 (N.map nd)])), (3, .d (.ep (lkC x))), (4, .d (.ep [nI k])), (5, .d (.ep [iI t])), (6, .bp L 0), (7, .d (.ep (ndC ⟨[a0, a1, a2, a3, a4, a5, a6, a7, a8], np⟩))), (69, .d (.sl 1 ([a0, a1, a2, a3, a4, a5, a6, a7].map iI))), (70, .d (nI 8)), (71, .d (.int .i64 s)), (93, .d (.fn (.func 98) [] [.ep [iI v], .ep [.sl 10 (N.map nd)], .ep (lkC (x ++ [s])), .ep [nI k], .ep [iI t]]))]) _ [] _ _ _ .ready none) (lvF N d v (x ++ [s])).length _ (by simp; omega) ⟨by omega, fun c => by simp [rangeObs, hF1.len, hB0]; omega, fun c => ?_, Nat.le_refl _, fun c e hc he => ?_, .inl ⟨rfl, rfl⟩, ?_, ?_⟩
              · show (rangeObs (Bs c ++ Ob.box [.yl yi] :: Xp q) (PT.ofList [(2, .d (.ep [.sl 10 (N.map nd)])), (3, .d (.ep (lkC x))), (4, .d (.ep [nI k])), (5, .d (.ep [iI t])), (6, .bp L 0), (7, .d (.ep (ndC ⟨[a0, a1, a2, a3, a4, a5, a6, a7, a8], np⟩))), (69, .d (.sl 1 ([a0, a1, a2, a3, a4, a5, a6, a7].map iI))), (70, .d (nI 8)), (71, .d (.int .i64 s)), (93, .d (.fn (.func 98) [] [.ep [iI v], .ep [.sl 10 (N.map nd)], .ep (lkC (x ++ [s])), .ep [nI k], .ep [iI t]]))]) _ [] _ _ _ .ready none).all _ = true
                unfold rangeObs
                simp only [List.all_append, hrc _ (hF1.refs c), List.all_cons, List.all_nil, Bool.true_and, Bool.and_true, refOb, hT]
              · have hyc := hF1.go c e hc he
                refine ayield_box2 (L := (Bs 0 ++ Ob.box [.yl yi] :: Xp q).length) (B := (Bs c ++ Ob.box [.yl yi] :: Xp q)) (B' := (Bs (c + 1) ++ Ob.box [.yl yi] :: Xp q)) true (lfC e) [(6, .bp L 0), (12, .d (.ep (lfC e)))] rfl rfl (hlc _ (hF1.len _)) (hlc _ (hF1.len _)) (hrc _ (hF1.refs _)) hT ⟨by rw [hM]; simp only [refA, Nat.blt_eq]; omega, rfl, trivial⟩ ?_ (fun a b ha hb => ?_)
                · repeat' (first
                    | refine zW ?_
                    | refine zB ?_ ?_ <;> intro h <;> try exact zk h
                    | refine oV ?_ (hv := evAny_store_last)
                    | (fail)
                    | fail)
                  exact ⟨rfl, _, rfl, ofList_cases (by intro q hq; simp only [List.mem_cons, List.not_mem_nil, or_false] at hq; rcases hq with rfl | rfl; exact .inl (by kernel_rfl); exact .inr ⟨0, Nat.zero_le _, by kernel_rfl, rfl⟩)⟩
                · have hy := hyc.frame (ds := [lf e]) (X := (Ob.box [.yl yi] :: Xp q) ++ [a, b]) (by rw [hF1.len]; exact hylt) (by rw [hF1.len, (hF1.len _)]) (by rw [hF1.len]; exact hF1.refs _)
                  rw [← List.append_assoc, ← List.append_assoc] at hy
                  repeat refine zS ?_
                  refine oV (v := .yl yi) ?_ (hv := evAny_loadB rfl rfl rfl rfl (get_box2 (hF1.len _)) rfl) (he := rfl)
                  refine zX ?_
                  refine oY hy ?_
                  refine zX ?_
                  repeat refine zS ?_
                  exact ⟨rfl, rfl⟩
              · simp [rangeObs, hF1.len, hB0]; omega
              · show (rangeObs (Bs (lvF N d v (x ++ [s])).length ++ Ob.box [.yl yi] :: Xp q) (PT.ofList [(2, .d (.ep [.sl 10 (N.map nd)])), (3, .d (.ep (lkC x))), (4, .d (.ep [nI k])), (5, .d (.ep [iI t])), (6, .bp L 0), (7, .d (.ep (ndC ⟨[a0, a1, a2, a3, a4, a5, a6, a7, a8], np⟩))), (69, .d (.sl 1 ([a0, a1, a2, a3, a4, a5, a6, a7].map iI))), (70, .d (nI 8)), (71, .d (.int .i64 s)), (93, .d (.fn (.func 98) [] [.ep [iI v], .ep [.sl 10 (N.map nd)], .ep (lkC (x ++ [s])), .ep [nI k], .ep [iI t]]))]) _ [] _ _ _ .ready none).all _ = true
                unfold rangeObs
                simp only [List.all_append, hrc _ (hF1.refs _), List.all_cons, List.all_nil, Bool.true_and, Bool.and_true, refOb, hT]
            · simp only
              refine Run.wk (objs' := (Bs (lvF N d v (x ++ [s])).length ++ Ob.box [.yl yi] :: Xp q) ++ [.raw (.deferred (some [])), .gone]) ?_ (wk_last _) (by simp) (by simp [hF1.len] <;> omega) (by
                rw [List.all_append, refs_mono (n := (Bs 0 ++ Ob.box [.yl yi] :: Xp q).length + 2) (by simp [hF1.len, hB0]; omega) (hrc _ (hF1.refs _))]
                rfl)
              repeat refine zS ?_
              iterate 2 refine zX ?_
              repeat refine zS ?_
              exact ⟨(s + 1, q + 1, fun c => Bs ((lvF N d v (x ++ [s])).length + c), m - (lvF N d v (x ++ [s])).length), ⟨hlt, hF2⟩, by simp only; omega, weak_of' (by simp [Xp]) (by simp [mkP, hM]) (by repeat' (first | exact trivial | refine ⟨rfl, ?_⟩ | refine ⟨(inc_get (k := s) (by kernel_rfl) (by omega)), ?_⟩))⟩
          · obtain ⟨e0, he0, hy0⟩ : ∃ e, (lvF N d v (x ++ [s]))[m]? = some e ∧ AYield Try.prog yi [.d (lf e)] (Bs m) (.d (.bool false)) obs := by
              rcases hF1.fin with ⟨h1, _⟩ | h1
              · omega
              · exact h1
            refine Run.rangeB (frz := []) (s := ⟨PT.ofList [(2, .d (.ep [.sl 10 (N.map nd)])), (3, .d (.ep (lkC x))), (4, .d (.ep [nI k])), (5, .d (.ep [iI t])), (6, .bp L 0), (7, .d (.ep (ndC ⟨[a0, a1, a2, a3, a4, a5, a6, a7, a8], np⟩))), (69, .d (.sl 1 ([a0, a1, a2, a3, a4, a5, a6, a7].map iI))), (70, .d (nI 8)), (71, .d (.int .i64 s)), (93, .d (.fn (.func 98) [] [.ep [iI v], .ep [.sl 10 (N.map nd)], .ep (lkC (x ++ [s])), .ep [nI k], .ep [iI t]]))], (Bs 0 ++ Ob.box [.yl yi] :: Xp q), (mkP L q).map Dl.mark⟩) (r := .tup []) Et_ok hmix (obs ++ Ob.box [.yl yi] :: Xp q) .done (some .ret) rfl ?_ rfl (hlc _ hol) (by simp) ?_
            · refine ih (x ++ [s]) v ((Bs 0 ++ Ob.box [.yl yi] :: Xp q).length + 1) ((Bs 0 ++ Ob.box [.yl yi] :: Xp q).length + 2) (fun c => rangeObs (Bs c ++ Ob.box [.yl yi] :: Xp q) (PT.ofList [(2, .d (.ep [.sl 10 (N.map nd)])), (3, .d (.ep (lkC x))), (4, .d (.ep [nI k])), (5, .d (.ep [iI t])), (6, .bp L 0), (7, .d (.ep (ndC ⟨[a0, a1, a2, a3, a4, a5, a6, a7, a8], np⟩))), (69, .d (.sl 1 ([a0, a1, a2, a3, a4, a5, a6, a7].map iI))), (70, .d (nI 8)), (71, .d (.int .i64 s)), (93, .d (.fn (.func 98) [] [.ep [iI v], .ep [.sl 10 (N.map nd)], .ep (lkC (x ++ [s])), .ep [nI k], .ep [iI t]]))]) _ [] _ _ _ .ready none) m _ (by simp; omega) ⟨by omega, fun c => by simp [rangeObs, hF1.len, hB0]; omega, fun c => ?_, hF1.le, fun c e hc he => ?_, .inr ⟨e0, he0, ?_⟩, ?_, ?_⟩
              · show (rangeObs (Bs c ++ Ob.box [.yl yi] :: Xp q) (PT.ofList [(2, .d (.ep [.sl 10 (N.map nd)])), (3, .d (.ep (lkC x))), (4, .d (.ep [nI k])), (5, .d (.ep [iI t])), (6, .bp L 0), (7, .d (.ep (ndC ⟨[a0, a1, a2, a3, a4, a5, a6, a7, a8], np⟩))), (69, .d (.sl 1 ([a0, a1, a2, a3, a4, a5, a6, a7].map iI))), (70, .d (nI 8)), (71, .d (.int .i64 s)), (93, .d (.fn (.func 98) [] [.ep [iI v], .ep [.sl 10 (N.map nd)], .ep (lkC (x ++ [s])), .ep [nI k], .ep [iI t]]))]) _ [] _ _ _ .ready none).all _ = true
                unfold rangeObs
                simp only [List.all_append, hrc _ (hF1.refs c), List.all_cons, List.all_nil, Bool.true_and, Bool.and_true, refOb, hT]
              · have hyc := hF1.go c e hc he
                refine ayield_box2 (L := (Bs 0 ++ Ob.box [.yl yi] :: Xp q).length) (B := (Bs c ++ Ob.box [.yl yi] :: Xp q)) (B' := (Bs (c + 1) ++ Ob.box [.yl yi] :: Xp q)) true (lfC e) [(6, .bp L 0), (12, .d (.ep (lfC e)))] rfl rfl (hlc _ (hF1.len _)) (hlc _ (hF1.len _)) (hrc _ (hF1.refs _)) hT ⟨by rw [hM]; simp only [refA, Nat.blt_eq]; omega, rfl, trivial⟩ ?_ (fun a b ha hb => ?_)
                · repeat' (first
                    | refine zW ?_
                    | refine zB ?_ ?_ <;> intro h <;> try exact zk h
                    | refine oV ?_ (hv := evAny_store_last)
                    | (fail)
                    | fail)
                  exact ⟨rfl, _, rfl, ofList_cases (by intro q hq; simp only [List.mem_cons, List.not_mem_nil, or_false] at hq; rcases hq with rfl | rfl; exact .inl (by kernel_rfl); exact .inr ⟨0, Nat.zero_le _, by kernel_rfl, rfl⟩)⟩
                · have hy := hyc.frame (ds := [lf e]) (X := (Ob.box [.yl yi] :: Xp q) ++ [a, b]) (by rw [hF1.len]; exact hylt) (by rw [hF1.len, (hF1.len _)]) (by rw [hF1.len]; exact hF1.refs _)
                  rw [← List.append_assoc, ← List.append_assoc] at hy
                  repeat refine zS ?_
                  refine oV (v := .yl yi) ?_ (hv := evAny_loadB rfl rfl rfl rfl (get_box2 (hF1.len _)) rfl) (he := rfl)
                  refine zX ?_
                  refine oY hy ?_
                  refine zX ?_
                  repeat refine zS ?_
                  exact ⟨rfl, rfl⟩
              · skip
                refine ayield_box2 (L := (Bs 0 ++ Ob.box [.yl yi] :: Xp q).length) (B := (Bs m ++ Ob.box [.yl yi] :: Xp q)) (B' := (obs ++ Ob.box [.yl yi] :: Xp q)) false (lfC e0) [(6, .bp L 0), (12, .d (.ep (lfC e0)))] rfl rfl (hlc _ (hF1.len _)) (hlc _ hol) (hrc _ (hF1.refs _)) hT ⟨by rw [hM]; simp only [refA, Nat.blt_eq]; omega, rfl, trivial⟩ ?_ (fun a b ha hb => ?_)
                · repeat' (first
                    | refine zW ?_
                    | refine zB ?_ ?_ <;> intro h <;> try exact zk h
                    | refine oV ?_ (hv := evAny_store_last)
                    | (fail)
                    | fail)
                  exact ⟨rfl, _, rfl, ofList_cases (by intro q hq; simp only [List.mem_cons, List.not_mem_nil, or_false] at hq; rcases hq with rfl | rfl; exact .inl (by kernel_rfl); exact .inr ⟨0, Nat.zero_le _, by kernel_rfl, rfl⟩)⟩
                · have hy := hy0.frame (ds := [lf e0]) (X := (Ob.box [.yl yi] :: Xp q) ++ [a, b]) (by rw [hF1.len]; exact hylt) (by rw [hF1.len, hol]) (by rw [hF1.len]; exact hF1.refs _)
                  rw [← List.append_assoc, ← List.append_assoc] at hy
                  repeat refine zS ?_
                  refine oV (v := .yl yi) ?_ (hv := evAny_loadB rfl rfl rfl rfl (get_box2 (hF1.len _)) rfl) (he := rfl)
                  refine zX ?_
                  refine oY hy ?_
                  refine zX ?_
                  repeat refine zS ?_
                  refine Run.ret ?_
                  exact ⟨rfl, rfl⟩
              · simp [rangeObs, hol, hB0]; omega
              · show (rangeObs (obs ++ Ob.box [.yl yi] :: Xp q) _ _ [] _ _ _ .done (some .ret)).all _ = true
                unfold rangeObs
                simp only [List.all_append, hrc _ hore, List.all_cons, List.all_nil, Bool.true_and, Bool.and_true, refOb, hT]
            · simp only
              obtain ⟨O', h1, h2⟩ := leave_xp2 (B := obs) (a := Ob.box [.yl yi]) (c := .loop _ _ [] _ _ _ .exhausted (some .ret)) q
              refine ⟨trivial, O', _, ?_, rfl, .refl, h2⟩
              rw [hol] at h1
              show evLeave H0 (.mark (Bs 0 ++ Ob.box [.yl yi] :: Xp q).length :: (mkP L q).map Dl.mark) none _ = _
              rw [hM]
              exact h1
      · have hse : s = 8 := by omega
        subst hse
        have hob := Feed.nil (by simpa [kidsF] using hFs)
        subst hob
        obtain ⟨O', h1, h2⟩ := leave_xp (B := Bs 0) (a := Ob.box [.yl yi]) q
        rw [hB0] at h1
        repeat refine zS ?_
        refine zV (lt_false (Nat.le_refl 8)) ?_
        repeat refine zS ?_
        exact ⟨trivial, O', _, h1, rfl, .refl, h2⟩
theorem cmpL_neg : ∀ x y, cmpL y x = -cmpL x y
  | [], [] => rfl
  | [], _ :: _ => rfl
  | _ :: _, [] => rfl
  | a :: x, b :: y => by
    simp only [cmpL]
    rcases Nat.lt_trichotomy a b with h | h | h
    · rw [if_neg (by omega), if_pos h, if_pos h]; rfl
    · subst h; simp only [Nat.lt_irrefl, if_false]; exact cmpL_neg x y
    · rw [if_pos h, if_neg (by omega), if_pos h]
theorem cmpL_trans : ∀ {x y z}, cmpL x y < 0 → cmpL y z < 0 → cmpL x z < 0
  | [], [], _, h, _ => by simp [cmpL] at h
  | _ :: _, [], _, h, _ => by simp [cmpL] at h
  | [], _ :: _, [], _, h => by simp [cmpL] at h
  | _ :: _, _ :: _, [], _, h => by simp [cmpL] at h
  | [], _ :: _, _ :: _, _, _ => by simp [cmpL]
  | a :: x, b :: y, c :: z, h, k => by
    simp only [cmpL] at h k ⊢
    by_cases h1 : a < b
    · by_cases k1 : b < c
      · rw [if_pos (by omega)]; decide
      · by_cases k2 : c < b
        · rw [if_neg k1, if_pos k2] at k; simp at k
        · rw [if_pos (by omega)]; decide
    · by_cases h2 : b < a
      · rw [if_neg h1, if_pos h2] at h; simp at h
      · rw [if_neg h1, if_neg h2] at h
        by_cases k1 : b < c
        · rw [if_pos (by omega)]; decide
        · by_cases k2 : c < b
          · rw [if_neg k1, if_pos k2] at k; simp at k
          · rw [if_neg k1, if_neg k2] at k
            rw [if_neg (by omega), if_neg (by omega)]
            exact cmpL_trans h k
def ordE : Int → List Int → Int
  | _, [] => 0
  | l, p :: P => if p ≤ l ∨ 24 ≤ p then 9 else ordE p P
def setsE (k t : Int) : List (List Raw) → Int
  | [] => 0
  | L :: S => if setE k t L = 0 then setsE k t S else setE k t L
def NCr (S : List (List Raw)) : Prop := ∀ (i j : Nat) L M, j < i → S[i]? = some L → S[j]? = some M → ∀ x ∈ L, x ∉ M
def ofE (k t : Int) (S : List (List Raw)) (P : List Int) : Int :=
  if sizE k t ≠ 0 ∨ 24 < S.length ∨ P.length ≠ S.length then 2 else if ordE (-1) P ≠ 0 then 9 else setsE k t S
open Classical in
def chkAll (k t : Int) (S : List (List Raw)) (P : List Int) : Int := if ofE k t S P ≠ 0 then ofE k t S P else if NCr S then 0 else 18
abbrev rws2 (S : List (List Raw)) : DV := .sl 1 (S.map rws)
def pvI (P : List Int) : Nat → Int
  | 0 => -1
  | j + 1 => P.getD j 0
def dj (S : List (List Raw)) (i j : Nat) : Prop := ∀ L M, S[i]? = some L → S[j]? = some M → ∀ x ∈ L, x ∉ M
theorem raw_eq {r q : Raw} (h : r.n = q.n ∧ r.a = q.a ∧ r.b = q.b ∧ r.c = q.c ∧ r.d = q.d) : r = q := by
  obtain ⟨a, b, c, d, e⟩ := r
  obtain ⟨a', b', c', d', e'⟩ := q
  obtain ⟨rfl, rfl, rfl, rfl, rfl⟩ := h
  rfl
theorem not_take {α : Type} {L : List α} {n : Nat} {x : α} {P : α → Prop} (hx : L[n]? = some x) (h : ∀ y ∈ L.take n, P y) (hp : P x) : ∀ y ∈ L.take (n + 1), P y := by
  rw [List.take_add_one, hx]
  intro y hy
  rcases List.mem_append.1 hy with h1 | h1
  · exact h y h1
  · simp at h1; subst h1; exact hp
theorem pvI_at {P : List Int} {i : Nat} {p : Int} (h : P[i]? = some p) : pvI P (i + 1) = p := by
  show P.getD i 0 = p
  rw [List.getD_eq_getElem?_getD, h]; rfl
set_option maxHeartbeats 8000000 in
theorem checkedK (k t : Int) (S : List (List Raw)) (P : List Int) (hS : S.length ≤ 1048576) (hP : P.length ≤ 1048576) (hL : ∀ L ∈ S, L.length ≤ 1048576) : KnownCall Try.prog 57 [iI k, iI t, rws2 S, .sl 1 (P.map iI)] (.d (iI (chkAll k t S P))) := by
  have c0 := numbers18 k t
  have hsl : (S.map rws).length = S.length := by simp
  have hpl : (P.map iI).length = P.length := by simp
  by_cases h1 : sizE k t ≠ 0 ∨ 24 < S.length ∨ P.length ≠ S.length
  · have hR : chkAll k t S P = 2 := by
      have : ofE k t S P = 2 := by unfold ofE; rw [if_pos h1]
      unfold chkAll; rw [this]; rfl
    rw [hR]
    generalize sizE k t = z at *
    refine kF Try.func57 [] fun w => ?_
    repeat' (first
      | refine zW ?_
      | refine zB ?_ ?_ <;> intro h <;> try exact zk h
      | refine zK (c0) ?_ ?_ <;> intro h <;> try exact zk h
      | refine zC (c0) ?_
      | rfl
      | ((exfalso; simp only [decide_eq_true_eq, decide_eq_false_iff_not, bne_iff_ne, ne_eq, bne_eq_false_iff_eq] at *; omega))
      | fail)
  have h1' : sizE k t = 0 ∧ S.length ≤ 24 ∧ P.length = S.length := by
    refine ⟨?_, ?_, ?_⟩
    · exact Classical.byContradiction fun h => h1 (.inl h)
    · omega
    · omega
  obtain ⟨hz, hs24, hps⟩ := h1'
  rw [hz] at c0
  have hof : ofE k t S P = if ordE (-1) P ≠ 0 then 9 else setsE k t S := by unfold ofE; rw [if_neg h1]
  generalize hR : chkAll k t S P = R
  have hR9 : ordE (-1) P ≠ 0 → R = 9 := fun h => by
    rw [← hR]; unfold chkAll; rw [hof, if_pos h]; rfl
  have hRs : ordE (-1) P = 0 → setsE k t S ≠ 0 → R = setsE k t S := fun h h' => by
    rw [← hR]; have h2 : ofE k t S P = setsE k t S := by rw [hof, if_neg (by simpa using h)]
    unfold chkAll; rw [h2, if_pos h']
  have hRn : ordE (-1) P = 0 → setsE k t S = 0 → (NCr S → R = 0) ∧ (¬ NCr S → R = 18) := fun h h' => by
    have h2 : ofE k t S P = 0 := by rw [hof, if_neg (by simpa using h), h']
    rw [← hR]; unfold chkAll; rw [h2, if_neg (by simp)]
    exact ⟨fun hn => if_pos hn, fun hn => if_neg hn⟩
  clear hR
  refine kF Try.func57 [] fun w => ?_
  repeat' (first
    | refine zW ?_
    | refine zB ?_ ?_ <;> intro h <;> try exact zk h
    | refine zK (c0) ?_ ?_ <;> intro h <;> try exact zk h
    | refine zC (c0) ?_
    | ((exfalso; simp only [decide_eq_true_eq, decide_eq_false_iff_not, bne_iff_ne, ne_eq, bne_eq_false_iff_eq] at *; omega))
    | fail)
  refine Run.loopT (fun i : Nat => ⟨PT.ofList [(0, .d (iI k)), (1, .d (iI t)), (2, .d (rws2 S)), (3, .d (.sl 1 (P.map iI))), (9, .d (nI i))], [], []⟩) (fun i => i ≤ P.length ∧ ordE (-1) P = ordE (pvI P i) (P.drop i) ∧ -1 ≤ pvI P i) (fun i => P.length - i) 0 ⟨Nat.zero_le _, rfl, by simp [pvI]⟩ (ti _ 0) (fun i ⟨hi1, hi2, hi3⟩ => ?_)
  · rcases Nat.lt_or_ge i P.length with hlt | hge
    · obtain ⟨p, hp⟩ := get_ok hlt
      rw [drop_at hp] at hi2
      simp only [ordE] at hi2
      have hpp := pvI_at hp
      by_cases hb : p ≤ pvI P i ∨ 24 ≤ p
      · rw [if_pos hb] at hi2
        have hR := hR9 (by omega)
        subst hR
        rcases i with _ | i
        · have hb' : p < 0 ∨ 24 ≤ p := by simp only [pvI] at hb; omega
          repeat' (first
            | refine zW ?_
            | refine zB ?_ ?_ <;> intro h <;> try exact zk h
            | refine zI w (.d (.ep [iI p])) hp ?_
            | rfl
            | ((exfalso; simp only [List.length_map, decide_eq_true_eq, decide_eq_false_iff_not] at *; omega))
            | fail)
        · obtain ⟨q, hq⟩ := get_ok (show i < P.length by omega)
          have hb' : p ≤ q ∨ 24 ≤ p := by rw [pvI_at hq] at hb; exact hb
          have hsub : AV.d (.int .i64 (IntKind.i64.wrap (((i + 1 : Nat) : Int) - 1))) = .d (nI i) := by
            congr 2; rw [show ((i + 1 : Nat) : Int) - 1 = (i : Nat) by omega]; exact wrap_nat (by omega)
          repeat' (first
            | refine zV hsub ?_
            | refine zW ?_
            | refine zB ?_ ?_ <;> intro h <;> try exact zk h
            | refine zI w (.d (.ep [iI p])) hp ?_
            | refine zI w (.d (.ep [iI q])) hq ?_
            | rfl
            | ((exfalso; simp only [List.length_map, decide_eq_true_eq, decide_eq_false_iff_not] at *; omega))
            | fail)
      · rw [if_neg hb] at hi2
        rcases i with _ | i
        · have hb' : ¬ (p < 0 ∨ 24 ≤ p) := by simp only [pvI] at hb; omega
          have hg : ordE (-1) P = ordE (pvI P 1) (P.drop 1) := by rw [hpp]; exact hi2
          repeat' (first
            | refine zW ?_
            | refine zB ?_ ?_ <;> intro h <;> try exact zk h
            | refine zI w (.d (.ep [iI p])) hp ?_
            | (exact ⟨1, ⟨hlt, hg, by rw [hpp]; omega⟩, by omega, (ti _ 0)⟩)
            | ((exfalso; simp only [List.length_map, decide_eq_true_eq, decide_eq_false_iff_not] at *; omega))
            | fail)
        · obtain ⟨q, hq⟩ := get_ok (show i < P.length by omega)
          have hb' : ¬ (p ≤ q ∨ 24 ≤ p) := by rw [pvI_at hq] at hb; exact hb
          rw [pvI_at hq] at hi3
          have hg : ordE (-1) P = ordE (pvI P (i + 2)) (P.drop (i + 2)) := by rw [hpp]; exact hi2
          have hsub : AV.d (.int .i64 (IntKind.i64.wrap (((i + 1 : Nat) : Int) - 1))) = .d (nI i) := by
            congr 2; rw [show ((i + 1 : Nat) : Int) - 1 = (i : Nat) by omega]; exact wrap_nat (by omega)
          repeat' (first
            | refine zV hsub ?_
            | refine zW ?_
            | refine zB ?_ ?_ <;> intro h <;> try exact zk h
            | refine zI w (.d (.ep [iI p])) hp ?_
            | refine zI w (.d (.ep [iI q])) hq ?_
            | (exact ⟨i + 2, ⟨hlt, hg, by rw [hpp]; omega⟩, by omega, (ti _ 0)⟩)
            | ((exfalso; simp only [List.length_map, decide_eq_true_eq, decide_eq_false_iff_not] at *; omega))
            | fail)
    · have hie : i = P.length := by omega
      subst hie
      rw [List.drop_length] at hi2
      simp only [ordE] at hi2
      have hRs := hRs hi2
      have hRn := hRn hi2
      clear hR9 hi2 hi3
      repeat' (first
        | refine zW ?_
        | refine zB ?_ ?_ <;> intro h <;> try exact zk h
        | ((exfalso; simp only [List.length_map, decide_eq_true_eq, decide_eq_false_iff_not] at *; omega))
        | fail)
      refine Run.loopT (fun i : Nat => ⟨PT.ofList [(0, .d (iI k)), (1, .d (iI t)), (2, .d (rws2 S)), (3, .d (.sl 1 (P.map iI))), (10, .d (nI i))], [], []⟩) (fun i => i ≤ S.length ∧ setsE k t S = setsE k t (S.drop i)) (fun i => S.length - i) 0 ⟨Nat.zero_le _, rfl⟩ (ti _ 0) (fun i ⟨hi1, hi2⟩ => ?_)
      rcases Nat.lt_or_ge i S.length with hlt | hge
      · obtain ⟨L, hSL⟩ := get_ok hlt
        have hLl := hL L (List.mem_of_getElem? hSL)
        have hll : (L.map rw5).length = L.length := by simp
        rw [drop_at hSL] at hi2
        simp only [setsE] at hi2
        by_cases hl0 : L.length = 0
        · have he : setE k t L = 20 := by unfold setE; rw [if_pos hl0]
          rw [he] at hi2
          rw [if_neg (show ¬ (20 : Int) = 0 by decide)] at hi2
          have hR := hRs (by rw [hi2]; decide)
          rw [hi2] at hR
          subst hR
          repeat' (first
            | refine zW ?_
            | refine zB ?_ ?_ <;> intro h <;> try exact zk h
            | refine zI w (.d (.ep [rws L])) hSL ?_
            | rfl
            | ((exfalso; simp only [List.length_map, decide_eq_true_eq, decide_eq_false_iff_not, beq_iff_eq, beq_eq_false_iff_ne] at *; omega))
            | fail)
        · have he : setE k t L = chkW k t none L := by unfold setE; rw [if_neg hl0]
          rw [he] at hi2
          repeat' (first
            | refine zW ?_
            | refine zB ?_ ?_ <;> intro h <;> try exact zk h
            | refine zI w (.d (.ep [rws L])) hSL ?_
            | ((exfalso; simp only [List.length_map, decide_eq_true_eq, decide_eq_false_iff_not, beq_iff_eq, beq_eq_false_iff_ne] at *; omega))
            | fail)
          refine Run.loopT (fun j : Nat => ⟨PT.ofList [(0, .d (iI k)), (1, .d (iI t)), (2, .d (rws2 S)), (3, .d (.sl 1 (P.map iI))), (10, .d (nI i)), (11, .d (nI j))], [], []⟩) (fun j => j ≤ L.length ∧ chkW k t none L = chkW k t (pv L j) (L.drop j) ∧ ∀ q, pv L j = some q → chkR q t = 0) (fun j => L.length - j) 0 ⟨Nat.zero_le _, rfl, by simp [pv]⟩ (ti _ 0) (fun j ⟨hj1, hj2, hj3⟩ => ?_)
          rcases Nat.lt_or_ge j L.length with hjl | hjg
          · obtain ⟨r, hr⟩ := get_ok hjl
            have c1 := chkRef r t
            rw [drop_at hr] at hj2
            have hRw : chkW k t none L ≠ 0 → R = chkW k t none L := fun h => by
              have := hRs (by rw [hi2, if_neg h]; exact h)
              rw [this, hi2, if_neg h]
            by_cases h0 : chkR r t = 0
            · rw [h0] at c1
              by_cases hk : k < r.n
              · rw [chkW_long h0 hk] at hj2
                have hR := hRw (by rw [hj2]; decide)
                rw [hj2] at hR
                subst hR
                repeat' (first
                  | refine zW ?_
                  | refine zB ?_ ?_ <;> intro h <;> try exact zk h
                  | refine zC (c1) ?_
                  | refine zI w (.d (.ep [rws L])) hSL ?_
                  | refine zI w (.d (.ep (rwC r))) hr ?_
                  | rfl
                  | ((exfalso; simp only [List.length_map, decide_eq_true_eq, decide_eq_false_iff_not] at *; omega))
                  | fail)
              rcases j with _ | j
              · have hp1 : pv L 1 = some r := hr
                have hg : chkW k t none L = chkW k t (pv L 1) (L.drop 1) := by rw [hp1, hj2]; simp [pv, chkW, h0, hk]
                repeat' (first
                  | refine zW ?_
                  | refine zB ?_ ?_ <;> intro h <;> try exact zk h
                  | refine zC (c1) ?_
                  | refine zI w (.d (.ep [rws L])) hSL ?_
                  | refine zI w (.d (.ep (rwC r))) hr ?_
                  | (exact ⟨1, ⟨hjl, hg, fun q e => by rw [hp1] at e; cases e; exact h0⟩, by omega, (ti _ 0)⟩)
                  | ((exfalso; simp only [List.length_map, decide_eq_true_eq, decide_eq_false_iff_not] at *; omega))
                  | fail)
              · obtain ⟨q, hq⟩ := get_ok (show j < L.length by omega)
                have hq0 := hj3 q hq
                have hpq : pv L (j + 1) = some q := hq
                rw [hpq] at hj2
                obtain ⟨_, _, x, hx, e1, _⟩ := chkR_raw hq0
                obtain ⟨_, _, y, hy, e2, _⟩ := chkR_raw h0
                have c2 := before18 y x hy hx
                have hdx : dec q = x := by rw [e1, dec_of hx.len]
                have hdy : dec r = y := by rw [e2, dec_of hy.len]
                have hneg := cmpL_neg x y
                simp only [chkW, h0, if_true, if_neg hk, hdx, hdy] at hj2
                have hsub : AV.d (.int .i64 (IntKind.i64.wrap (((j + 1 : Nat) : Int) - 1))) = .d (nI j) := by
                  congr 2; rw [show ((j + 1 : Nat) : Int) - 1 = (j : Nat) by omega]; exact wrap_nat (by omega)
                have hp2 : pv L (j + 2) = some r := hr
                have hgo : ¬ cmpL y x ≤ 0 → chkW k t none L = chkW k t (pv L (j + 2)) (L.drop (j + 2)) := fun h => by rw [hj2, if_neg (by omega), hp2]
                have hbd : cmpL y x ≤ 0 → R = 9 := fun h => by
                  rw [if_pos (by omega)] at hj2
                  have := hRw (by rw [hj2]; decide)
                  rw [this, hj2]
                subst e1 e2
                generalize cmpL y x = e at *
                repeat' (first
                  | refine zV hsub ?_
                  | refine zW ?_
                  | refine zB ?_ ?_ <;> intro h <;> try exact zk h
                  | refine zC (c1) ?_
                  | refine zK (c2) ?_ ?_ <;> intro h <;> try exact zk h
                  | refine zC (c2) ?_
                  | refine zI w (.d (.ep [rws L])) hSL ?_
                  | refine zI w (.d (.ep (lkC y))) hr ?_
                  | refine zI w (.d (.ep (lkC x))) hq ?_
                  | (show _ = _; rw [hbd (by simp only [decide_eq_true_eq] at *; assumption)])
                  | (exact ⟨j + 2, ⟨hjl, hgo (by simp only [decide_eq_false_iff_not] at *; assumption), fun q e => by rw [hp2] at e; cases e; exact h0⟩, by omega, (ti _ 0)⟩)
                  | ((exfalso; simp only [List.length_map, decide_eq_true_eq, decide_eq_false_iff_not] at *; omega))
                  | fail)
            · rw [chkW_bad h0] at hj2
              have hR := hRw (by rw [hj2]; exact h0)
              rw [hj2] at hR
              rw [← hR] at c1 h0
              repeat' (first
                | refine zW ?_
                | refine zB ?_ ?_ <;> intro h <;> try exact zk h
                | refine zC (c1) ?_
                | refine zI w (.d (.ep [rws L])) hSL ?_
                | refine zI w (.d (.ep (rwC r))) hr ?_
                | rfl
                | ((exfalso; first | exact h0 (by simpa using h) | (simp only [List.length_map, decide_eq_true_eq, decide_eq_false_iff_not] at *; omega)))
                | fail)
          · have hje : j = L.length := by omega
            subst hje
            rw [List.drop_length, chkW_nil] at hj2
            rw [if_pos hj2] at hi2
            repeat' (first
              | refine zW ?_
              | refine zB ?_ ?_ <;> intro h <;> try exact zk h
              | refine zI w (.d (.ep [rws L])) hSL ?_
              | (exact ⟨i + 1, ⟨hlt, hi2⟩, by omega, (ti _ 0)⟩)
              | ((exfalso; simp only [List.length_map, decide_eq_true_eq, decide_eq_false_iff_not] at *; omega))
              | fail)
      · have hie : i = S.length := by omega
        subst hie
        rw [List.drop_length] at hi2
        simp only [setsE] at hi2
        obtain ⟨hR0, hR18⟩ := hRn hi2
        clear hRs hRn hi2
        repeat' (first
          | refine zW ?_
          | refine zB ?_ ?_ <;> intro h <;> try exact zk h
          | ((exfalso; simp only [List.length_map, decide_eq_true_eq, decide_eq_false_iff_not] at *; omega))
          | fail)
        refine Run.loopT (fun i : Nat => ⟨PT.ofList [(2, .d (rws2 S)), (13, .d (nI i))], [], []⟩) (fun i => i ≤ S.length ∧ ∀ i' j, i' < i → j < i' → dj S i' j) (fun i => S.length - i) 0 ⟨Nat.zero_le _, fun i' j h => absurd h (Nat.not_lt_zero _)⟩ (ti _ 0) (fun i ⟨hi1, hi2⟩ => ?_)
        rcases Nat.lt_or_ge i S.length with hlt | hge
        · obtain ⟨L, hSL⟩ := get_ok hlt
          have hLl := hL L (List.mem_of_getElem? hSL)
          have hll : (L.map rw5).length = L.length := by simp
          repeat' (first
            | refine zW ?_
            | refine zB ?_ ?_ <;> intro h <;> try exact zk h
            | ((exfalso; simp only [List.length_map, decide_eq_true_eq, decide_eq_false_iff_not] at *; omega))
            | fail)
          refine Run.loopT (fun j : Nat => ⟨PT.ofList [(2, .d (rws2 S)), (13, .d (nI i)), (14, .d (nI j))], [], []⟩) (fun j => j ≤ i ∧ ∀ j', j' < j → dj S i j') (fun j => i - j) 0 ⟨Nat.zero_le _, fun j' h => absurd h (Nat.not_lt_zero _)⟩ (ti _ 0) (fun j ⟨hj1, hj2⟩ => ?_)
          rcases Nat.lt_or_ge j i with hjl | hjg
          · obtain ⟨M, hSM⟩ := get_ok (show j < S.length by omega)
            have hMl := hL M (List.mem_of_getElem? hSM)
            have hml : (M.map rw5).length = M.length := by simp
            repeat' (first
              | refine zW ?_
              | refine zB ?_ ?_ <;> intro h <;> try exact zk h
              | ((exfalso; simp only [List.length_map, decide_eq_true_eq, decide_eq_false_iff_not] at *; omega))
              | fail)
            refine Run.loopT (fun n : Nat => ⟨PT.ofList [(2, .d (rws2 S)), (13, .d (nI i)), (14, .d (nI j)), (15, .d (nI n))], [], []⟩) (fun n => n ≤ L.length ∧ ∀ x ∈ L.take n, x ∉ M) (fun n => L.length - n) 0 ⟨Nat.zero_le _, by simp⟩ (ti _ 0) (fun n ⟨hn1, hn2⟩ => ?_)
            rcases Nat.lt_or_ge n L.length with hnl | hng
            · obtain ⟨r, hr⟩ := get_ok hnl
              repeat' (first
                | refine zW ?_
                | refine zB ?_ ?_ <;> intro h <;> try exact zk h
                | refine zI w (.d (.ep [rws L])) hSL ?_
                | ((exfalso; simp only [List.length_map, decide_eq_true_eq, decide_eq_false_iff_not] at *; omega))
                | fail)
              refine Run.loopT (fun m : Nat => ⟨PT.ofList [(2, .d (rws2 S)), (13, .d (nI i)), (14, .d (nI j)), (15, .d (nI n)), (16, .d (nI m))], [], []⟩) (fun m => m ≤ M.length ∧ ∀ y ∈ M.take m, r ≠ y) (fun m => M.length - m) 0 ⟨Nat.zero_le _, by simp⟩ (ti _ 0) (fun m ⟨hm1, hm2⟩ => ?_)
              rcases Nat.lt_or_ge m M.length with hml' | hmg
              · obtain ⟨q, hq⟩ := get_ok hml'
                have hbd : r = q → R = 18 := fun e => hR18 fun hn => hn i j L M hjl hSL hSM r (List.mem_of_getElem? hr) (e ▸ List.mem_of_getElem? hq)
                have hgo : r ≠ q → ∀ y ∈ M.take (m + 1), r ≠ y := fun h => not_take (P := fun y => r ≠ y) hq hm2 h
                repeat' (first
                  | refine zW ?_
                  | refine zB ?_ ?_ <;> intro h <;> try exact zk h
                  | refine zI w (.d (.ep [rws L])) hSL ?_
                  | refine zI w (.d (.ep [rws M])) hSM ?_
                  | refine zI w (.d (.ep (rwC r))) hr ?_
                  | refine zI w (.d (.ep (rwC q))) hq ?_
                  | (show _ = _; rw [hbd (raw_eq (by simpa only [Bool.and_eq_true, Bool.and_true, beq_iff_eq] using h))])
                  | (exact ⟨m + 1, ⟨hml', hgo (by intro e; subst e; simp at h)⟩, by omega, (ti _ 0)⟩)
                  | ((exfalso; simp only [List.length_map, decide_eq_true_eq, decide_eq_false_iff_not] at *; omega))
                  | fail)
              · have hme : m = M.length := by omega
                subst hme
                rw [List.take_length] at hm2
                have hgo := not_take (P := fun x => x ∉ M) hr hn2 (fun hx => hm2 r hx rfl)
                repeat' (first
                  | refine zW ?_
                  | refine zB ?_ ?_ <;> intro h <;> try exact zk h
                  | refine zI w (.d (.ep [rws M])) hSM ?_
                  | (exact ⟨n + 1, ⟨hnl, hgo⟩, by omega, (ti _ 0)⟩)
                  | ((exfalso; simp only [List.length_map, decide_eq_true_eq, decide_eq_false_iff_not] at *; omega))
                  | fail)
            · have hne : n = L.length := by omega
              subst hne
              rw [List.take_length] at hn2
              have hgo : ∀ j', j' < j + 1 → dj S i j' := fun j' hj' => by
                rcases Nat.lt_or_ge j' j with h1 | h1
                · exact hj2 j' h1
                · have : j' = j := by omega
                  subst this
                  intro L' M' h2 h3
                  rw [hSL] at h2; rw [hSM] at h3
                  cases h2; cases h3
                  exact hn2
              repeat' (first
                | refine zW ?_
                | refine zB ?_ ?_ <;> intro h <;> try exact zk h
                | refine zI w (.d (.ep [rws L])) hSL ?_
                | (exact ⟨j + 1, ⟨hjl, hgo⟩, by omega, (ti _ 0)⟩)
                | ((exfalso; simp only [List.length_map, decide_eq_true_eq, decide_eq_false_iff_not] at *; omega))
                | fail)
          · have hje : j = i := by omega
            subst hje
            have hgo : ∀ i' j', i' < j + 1 → j' < i' → dj S i' j' := fun i' j' h1 h2 => by
              rcases Nat.lt_or_ge i' j with h3 | h3
              · exact hi2 i' j' h3 h2
              · have : i' = j := by omega
                subst this
                exact hj2 j' h2
            repeat' (first
              | refine zW ?_
              | refine zB ?_ ?_ <;> intro h <;> try exact zk h
              | (exact ⟨j + 1, ⟨hlt, hgo⟩, by omega, (ti _ 0)⟩)
              | ((exfalso; simp only [List.length_map, decide_eq_true_eq, decide_eq_false_iff_not] at *; omega))
              | fail)
        · have hie : i = S.length := by omega
          subst hie
          have hR := hR0 fun i j L M h1 h2 h3 => hi2 i j (List.getElem?_eq_some_iff.1 h2).1 h1 L M h2 h3
          subst hR
          repeat' (first
            | refine zW ?_
            | refine zB ?_ ?_ <;> intro h <;> try exact zk h
            | rfl
            | ((exfalso; simp only [List.length_map, decide_eq_true_eq, decide_eq_false_iff_not] at *; omega))
            | fail)
def madeSet (k : Nat) (T : Trt) (p : Int) (L : List (List Nat)) : Trt := L.foldl (fun T x => putT k T (x, p)) T
def madeAll (k : Nat) : Trt → List (List (List Nat)) → List Int → Trt
  | T, L :: S, p :: P => madeAll k (madeSet k T p L) S P
  | T, _, _ => T
structure RM (T : Trt) (O : List Ob) : Prop where
  ok : OkT T
  ro : RO T 2 O
  b0 : O[0]? = some (.box [.d .nilsl])
theorem RM.three {T : Trt} {O : List Ob} (h : RM T O) : 3 ≤ O.length := by
  obtain ⟨r, _, h2, _⟩ := h.ro
  exact (List.getElem?_eq_some_iff.1 h2).1
theorem RM.put {T : Trt} {O : List Ob} {r : Nat} {cs : List AV} (ok : OkT T) (h1 : O[r]? = some (vecN (rowT T))) (h0 : O[0]? = some (.box [.d .nilsl])) (h2 : O[2]? = some (.box cs)) (h4 : ∀ j o, O[j]? = some o → j ≠ 2 → okO 0 o = true) :
    ∃ p0 p1 M, O = p0 :: p1 :: .box cs :: M ∧ RM T (p0 :: p1 :: .box [.vs r 10 0 (T.q.length + 1)] :: M) := by
  obtain ⟨p0, p1, p2, M, rfl⟩ := Go.Av.three (List.getElem?_eq_some_iff.1 h2).1
  obtain rfl : p2 = .box cs := by simpa using h2
  refine ⟨p0, p1, M, rfl, ok, ⟨r, ?_, rfl, fun j o ho hj => ?_⟩, h0⟩
  · match r, h1 with
    | 0, h1 => exact h1
    | 1, h1 => exact h1
    | 2, h1 => cases h1
    | r + 3, h1 => exact h1
  · match j, ho, hj with
    | 0, ho, hj => exact h4 0 o ho hj
    | 1, ho, hj => exact h4 1 o ho hj
    | 2, _, hj => exact absurd rfl hj
    | j + 3, ho, hj => exact h4 (j + 3) o ho hj
theorem RM.set {T T' : Trt} {O : List Ob} {r : Nat} (h : RM T O) (h1 : O[r]? = some (vecN (rowT T))) (h2 : O[2]? = some (.box [.vs r 10 0 (T.q.length + 1)])) (h4 : ∀ j o, O[j]? = some o → j ≠ 2 → okO 0 o = true) (hq : T'.q = T.q) (ok : OkT T') :
    RM T' (O.set r (vecN (rowT T'))) := by
  have hr0 : r ≠ 0 := fun e => by subst e; rw [h.b0] at h1; cases h1
  have hr2 : r ≠ 2 := fun e => by subst e; rw [h1] at h2; cases h2
  refine ⟨ok, ⟨r, by rw [List.getElem?_set_self (List.getElem?_eq_some_iff.1 h1).1], by rw [List.getElem?_set_ne hr2, hq]; exact h2, fun j o ho hj => ?_⟩, by rw [List.getElem?_set_ne hr0]; exact h.b0⟩
  by_cases hr : r = j
  · subst hr
    rw [List.getElem?_set_self (List.getElem?_eq_some_iff.1 h1).1] at ho
    cases ho; exact vecN_ok0 _ _
  · rw [List.getElem?_set_ne hr] at ho
    exact h4 j o ho hj
theorem putT_ok {k : Nat} {T : Trt} (hT : OkT T) {x : List Nat} (hx : Rt x) (p : Int) : OkT (putT k T (x, p)) ∧ (putT k T (x, p)).q.length ≤ T.q.length + (edgesT k x).length := by
  obtain ⟨k1, k2, k3⟩ := walkT_le (es := edgesT k x) hT (Nat.zero_le _) (edges8 hx.lt)
  unfold putT
  exact ⟨⟨by simp [k1.len], k1.nd, k1.le⟩, k3⟩
theorem edges5 {k : Nat} {x : List Nat} (hx : Rt x) : (edgesT k x).length ≤ 5 := by
  have := hx.len
  unfold edgesT; split <;> simp <;> omega
set_option maxHeartbeats 4000000 in
theorem madeK (k : Nat) (S : List (List (List Nat))) (P : List Int) (hlen : P.length = S.length) (hR : ∀ L ∈ S, ∀ x ∈ L, Rt x) (hb : S.flatten.length ≤ 1000) (hS : S.length ≤ 1000) : KnownCall Try.prog 58 [nI k, .sl 1 (S.map lks), .sl 1 (P.map iI)] (.d (trD (rowT (madeAll k Tz0 S P)))) := by
  generalize hF : madeAll k Tz0 S P = F
  refine kF Try.func58 [65550] fun w => ?_
  have w : Fz [65550] := trivial
  repeat refine zS ?_
  refine zX ?_
  repeat refine zS ?_
  iterate 5 refine zX ?_
  repeat refine zS ?_
  refine zX ?_
  repeat refine zS ?_
  refine Run.loop (fun a : Nat × Trt × List Ob => ⟨PT.ofList [(0, .d (nI k)), (1, .d (.sl 1 (S.map lks))), (2, .d (.sl 1 (P.map iI))), (6, .bp 0 0), (7, .bp 2 0), (8, .d (.int .i64 a.1))], a.2.2, []⟩)
    (fun a => a.1 ≤ S.length ∧ RM a.2.1 a.2.2 ∧ a.2.1.q.length + 5 * (S.drop a.1).flatten.length ≤ 5000 ∧ madeAll k a.2.1 (S.drop a.1) (P.drop a.1) = F) (fun a => S.length - a.1)
    (0, Tz0, [.box [.d .nilsl], vecN (rowT Tz0), .box [.vs 1 10 0 1]]) ⟨Nat.zero_le _, ⟨Tz0_ok, ⟨1, rfl, rfl, fun j o ho hj => ?_⟩, rfl⟩, by show 0 + 5 * S.flatten.length ≤ 5000; omega, hF⟩ (weak_of' (by rfl) rfl (by repeat' (first | exact trivial | refine ⟨rfl, ?_⟩))) (fun ⟨i, T, O⟩ ⟨hi, hm, hq, he⟩ => ?_)
  · match j, ho with
    | 0, ho => simp at ho; subst ho; rfl
    | 1, ho => simp at ho; subst ho; exact vecN_ok0 _ _
    | 2, ho => exact absurd rfl hj
    | j + 3, ho => simp at ho
  · simp only at hi hm hq he
    have hsl : (S.map lks).length = S.length := by simp
    rcases Nat.lt_or_ge i S.length with hlt | hge
    · obtain ⟨L, hL⟩ := get_ok hlt
      obtain ⟨p, hp⟩ := get_ok (show i < P.length by omega)
      rw [drop_at hL, drop_at hp] at he
      rw [drop_at hL] at hq
      simp only [madeAll, List.flatten_cons, List.length_append] at he hq
      have hLR := hR L (List.mem_of_getElem? hL)
      have hll : (L.map lk).length = L.length := by simp
      repeat refine zS ?_
      iterate 3 refine zX ?_
      refine zV (lt_true (show i < (S.map lks).length by omega)) ?_
      repeat refine zS ?_
      refine zX ?_
      repeat refine zS ?_
      refine Run.loop (fun a : Nat × Trt × List Ob => ⟨PT.ofList [(0, .d (nI k)), (1, .d (.sl 1 (S.map lks))), (2, .d (.sl 1 (P.map iI))), (6, .bp 0 0), (7, .bp 2 0), (8, .d (.int .i64 i)), (9, .d (.int .i64 a.1))], a.2.2, []⟩)
        (fun a => a.1 ≤ L.length ∧ RM a.2.1 a.2.2 ∧ a.2.1.q.length + 5 * ((L.length - a.1) + (S.drop (i + 1)).flatten.length) ≤ 5000 ∧ madeAll k (madeSet k a.2.1 p (L.drop a.1)) (S.drop (i + 1)) (P.drop (i + 1)) = F) (fun a => L.length - a.1)
        (0, T, O) ⟨Nat.zero_le _, hm, by simpa using hq, by simpa using he⟩ (weak_of' (by rfl) rfl (by repeat' (first | exact trivial | refine ⟨rfl, ?_⟩))) (fun ⟨j, T, O⟩ ⟨hj, hm, hq, he⟩ => ?_)
      simp only at hj hm hq he
      rcases Nat.lt_or_ge j L.length with hjl | hjg
      · obtain ⟨x, hx⟩ := get_ok hjl
        have hxR := hLR x (List.mem_of_getElem? hx)
        have hx4 := hxR.len
        have h3 := hm.three
        have href := hm.ro.refs
        rw [drop_at hx] at he
        simp only [madeSet, List.foldl_cons] at he
        repeat refine zS ?_
        iterate 3 refine zX ?_
        refine zI w (.d (.ep [lks L])) hL ?_
        iterate 2 refine zX ?_
        refine zV (lt_true (show j < (L.map lk).length by omega)) ?_
        repeat refine zS ?_
        iterate 2 refine zX ?_
        refine zI w (.d (.ep [lks L])) hL ?_
        iterate 2 refine zX ?_
        refine zI w (.d (.ep (lkC x))) hx ?_
        iterate 2 refine zX ?_
        refine oV ?_ (hv := evAny_store_last)
        refine zX ?_
        refine RunOps.nil ?_
        refine Run.dropLast (ds := lkC x) [(0, .d (nI k)), (1, .d (.sl 1 (S.map lks))), (2, .d (.sl 1 (P.map iI))), (6, .bp 0 0), (7, .bp 2 0), (8, .d (.int .i64 i)), (9, .d (.int .i64 j)), (10, .d (.ep (lkC x))), (11, .d (nI 0))] ?_ (Nat.zero_le _) href (ofList_cases (by intro q hq; simp only [List.mem_cons, List.not_mem_nil, or_false] at hq; rcases hq with rfl | rfl | rfl | rfl | rfl | rfl | rfl | rfl | rfl; exact .inl (by kernel_rfl); exact .inl (by kernel_rfl); exact .inl (by kernel_rfl); exact .inl (by kernel_rfl); exact .inl (by kernel_rfl); exact .inl (by kernel_rfl); exact .inl (by kernel_rfl); exact .inr ⟨0, Nat.zero_le _, by kernel_rfl, rfl⟩; exact .inl (by kernel_rfl))) ⟨rfl, rfl, rfl, by simp [refA]; omega, by simp [refA]; omega, rfl, rfl, rfl, rfl, trivial⟩
        repeat refine zS ?_
        refine zX ?_
        repeat refine zS ?_
        refine Run.loop (fun a : Nat × Trt × Nat × List Ob => ⟨PT.ofList [(0, .d (nI k)), (1, .d (.sl 1 (S.map lks))), (2, .d (.sl 1 (P.map iI))), (6, .bp 0 0), (7, .bp 2 0), (8, .d (.int .i64 i)), (9, .d (.int .i64 j)), (10, .d (.ep (lkC x))), (11, .d (nI a.2.2.1)), (12, .d (.int .i64 a.1))], a.2.2.2, []⟩)
          (fun a => a.1 ≤ x.length ∧ RM a.2.1 a.2.2.2 ∧ a.2.2.1 ≤ a.2.1.q.length ∧ a.2.1.q.length ≤ T.q.length + a.1 ∧ walkT a.2.1 a.2.2.1 (x.drop a.1) = walkT T 0 x) (fun a => x.length - a.1)
          (0, T, 0, O) ⟨Nat.zero_le _, hm, Nat.zero_le _, Nat.le_refl _, rfl⟩ (weak_of' (by rfl) rfl (by repeat' (first | exact trivial | refine ⟨rfl, ?_⟩))) (fun ⟨n, T', a, O'⟩ ⟨hn, hm', ha, hqn, hw⟩ => ?_)
        simp only at hn hm' ha hqn hw
        rcases Nat.lt_or_ge n x.length with hnl | hng
        · obtain ⟨e, hen⟩ := get_ok hnl
          obtain ⟨R, hdr⟩ := drop4 hx4 hen
          rw [drop_at hen] at hw
          obtain ⟨r, r1, r2, r3⟩ := hm'.ro
          have hT' := hm'.ok
          obtain ⟨O2, r', c1, c2, c3, c4, c5⟩ := stepL hT' (by omega) a e ha (by have := hxR.lt e (List.mem_of_getElem? hen); omega) r1 r2 r3
          obtain ⟨k1, k2, k3⟩ := walkT_le (es := [e]) hT' ha (by have := hxR.lt e (List.mem_of_getElem? hen); simp; omega)
          obtain ⟨p0, p1, M, rfl, hRM⟩ := RM.put k1 c2 (c4 0 _ hm'.b0) (c4 2 _ r2) c5
          have h3' := hm'.three
          obtain ⟨o0, o1, o2, M0, rfl⟩ := three h3'
          obtain rfl : o2 = .box [.vs r 10 0 (T'.q.length + 1)] := by simpa using r2
          repeat refine zS ?_
          iterate 3 refine zX ?_
          refine zV (lt_true hnl) ?_
          repeat refine zS ?_
          refine dW w ?_
          iterate 4 refine zX ?_
          refine zCut hdr ?_
          refine zX ?_
          refine eA c1 ?_
          iterate 5 refine zX ?_
          refine eN ?_
          repeat refine zS ?_
          iterate 3 refine zX ?_
          repeat refine zS ?_
          have k3' : (stepT T' a e).q.length ≤ T'.q.length + 1 := k3
          exact ⟨(n + 1, stepT T' a e, _, _), ⟨hnl, hRM, k2, by simp only; omega, hw⟩, by simp only; omega, weak_of (by repeat' (first | exact trivial | refine ⟨rfl, ?_⟩ | refine ⟨(inc_get (k := n) (by kernel_rfl) (by omega)), ?_⟩))⟩
        · have hne : n = x.length := by omega
          subst hne
          rw [List.drop_length] at hw
          simp only [walkT] at hw
          obtain ⟨T1, hT1⟩ : ∃ T1, T1 = (walkT T 0 (edgesT k x)).1 := ⟨_, rfl⟩
          obtain ⟨nd1, hnd1⟩ : ∃ n, n = (walkT T 0 (edgesT k x)).2 := ⟨_, rfl⟩
          obtain ⟨k1, k2, k3⟩ := walkT_le (es := edgesT k x) hm.ok (Nat.zero_le _) (edges8 hxR.lt)
          have hlen5 := edges5 (k := k) hxR
          rw [← hT1] at k1 k3
          rw [← hT1, ← hnd1] at k2
          repeat refine zS ?_
          iterate 3 refine zX ?_
          refine zV (lt_false (Nat.le_refl x.length)) ?_
          repeat refine zS ?_
          iterate 3 refine zX ?_
          refine zV (show AV.d (.bool (decide (((x.length : Nat) : Int) < ((k : Nat) : Int)))) = .d (.bool (decide (x.length < k))) by simp) ?_
          repeat refine zS ?_
          refine Run.midI (fun A : List Ob => ⟨PT.ofList [(0, .d (nI k)), (1, .d (.sl 1 (S.map lks))), (2, .d (.sl 1 (P.map iI))), (6, .bp 0 0), (7, .bp 2 0), (8, .d (.int .i64 i)), (9, .d (.int .i64 j)), (11, .d (nI nd1))], A, []⟩) (fun A => RM T1 A) ?_ (fun O1 hm1 => ?_)
          · refine Run.cond (by rfl) (fun h => ?_) (fun h => ?_)
            · have hk : x.length < k := of_decide_eq_true h
              have hee : edgesT k x = x ++ [8] := by unfold edgesT; rw [if_pos hk]
              have hs := walkT_snoc 8 x T 0
              rw [← hee, ← hw] at hs
              simp only at hs
              have e1 : T1 = stepT T' a 8 := by rw [hT1, hs]
              have e2 : nd1 = toT T1.q a 8 := by rw [hnd1, hs, e1]
              obtain ⟨r, r1, r2, r3⟩ := hm'.ro
              have hT' := hm'.ok
              obtain ⟨O2, r', c1, c2, c3, c4, c5⟩ := stepL hT' (by omega) a 8 ha (Nat.le_refl _) r1 r2 r3
              rw [← e1, ← e2] at c1
              rw [← e1] at c2
              obtain ⟨p0, p1, M, rfl, hRM⟩ := RM.put k1 c2 (c4 0 _ hm'.b0) (c4 2 _ r2) c5
              have h3' := hm'.three
              obtain ⟨o0, o1, o2, M0, rfl⟩ := three h3'
              obtain rfl : o2 = .box [.vs r 10 0 (T'.q.length + 1)] := by simpa using r2
              repeat refine zS ?_
              iterate 2 refine zX ?_
              refine oA c1 ?_
              iterate 5 refine zX ?_
              repeat refine zS ?_
              exact ⟨_, hRM, weak_of (by repeat' (first | exact trivial | refine ⟨rfl, ?_⟩))⟩
            · have hk : ¬ x.length < k := of_decide_eq_false h
              have hee : edgesT k x = x := by unfold edgesT; rw [if_neg hk]
              rw [hee, ← hw] at hT1 hnd1
              simp only at hT1 hnd1
              subst hT1 hnd1
              repeat refine zS ?_
              exact ⟨_, hm', weak_of (by repeat' (first | exact trivial | refine ⟨rfl, ?_⟩))⟩
          · obtain ⟨r, r1, r2, r3⟩ := hm1.ro
            have hset := rowT_set k1 k2 p
            have hput := put_prod (rowT_9 T1) p (rowT_get k2)
            rw [← hset] at hput
            have hlt' := flN_lt (rowT_9 T1) (show nd1 < (rowT T1).length by rw [rowT_len]; omega) (show 9 < 10 by omega)
            have hpt : putT k T (x, p) = ⟨T1.q, T1.v.set nd1 p⟩ := by unfold putT; rw [← hT1, ← hnd1]
            have hRM := RM.set (T' := putT k T (x, p)) hm1 r1 r2 r3 (by rw [hpt]) (putT_ok hm.ok hxR p).1
            have hq2 := (putT_ok (k := k) hm.ok hxR p).2
            rw [← hpt] at hput
            have h3' := hm1.three
            obtain ⟨o0, o1, o2, M0, rfl⟩ := three h3'
            obtain rfl : o2 = .box [.vs r 10 0 (T1.q.length + 1)] := by simpa using r2
            repeat refine zS ?_
            refine dW w ?_
            iterate 5 refine zX ?_
            refine zI w (.d (.ep [iI p])) hp ?_
            refine zX ?_
            refine zCut (bpR r nd1) ?_
            refine zX ?_
            refine eX (v := .d .any) (objs' := List.set (o0 :: o1 :: .box [.vs r 10 0 (T1.q.length + 1)] :: M0) r (vecN (rowT (putT k T (x, p))))) ?_ (hv := evAny_storeV (c := .d (iI p)) rfl rfl rfl rfl rfl rfl rfl r1 hlt') (ho := by rw [← hput]; rfl)
            refine eN ?_
            repeat refine zS ?_
            iterate 3 refine zX ?_
            repeat refine zS ?_
            exact ⟨(j + 1, putT k T (x, p), _), ⟨hjl, hRM, by simp only; omega, he⟩, by simp only; omega, weak_of (by repeat' (first | exact trivial | refine ⟨rfl, ?_⟩ | refine ⟨(inc_get (k := j) (by kernel_rfl) (by omega)), ?_⟩))⟩
      · have hje : j = L.length := by omega
        subst hje
        rw [List.drop_length] at he
        simp only [madeSet, List.foldl_nil] at he
        repeat refine zS ?_
        iterate 3 refine zX ?_
        refine zI w (.d (.ep [lks L])) hL ?_
        iterate 2 refine zX ?_
        refine zV (lt_false (show (L.map lk).length ≤ L.length by omega)) ?_
        repeat refine zS ?_
        iterate 3 refine zX ?_
        repeat refine zS ?_
        exact ⟨(i + 1, T, O), ⟨hlt, hm, by simp only; omega, he⟩, by simp only; omega, weak_of (by repeat' (first | exact trivial | refine ⟨rfl, ?_⟩ | refine ⟨(inc_get (k := i) (by kernel_rfl) (by omega)), ?_⟩))⟩
    · have hie : i = S.length := by omega
      subst hie
      rw [List.drop_length] at he
      obtain rfl : T = F := by simpa [madeAll] using he
      obtain ⟨r, r1, r2, r3⟩ := hm.ro
      have hb0 := hm.b0
      have h3' := hm.three
      obtain ⟨o0, o1, o2, M0, rfl⟩ := three h3'
      obtain rfl : o2 = .box [.vs r 10 0 (T.q.length + 1)] := by simpa using r2
      obtain rfl : o0 = .box [.d .nilsl] := by simpa using hb0
      repeat refine zS ?_
      iterate 3 refine zX ?_
      refine zV (lt_false (show (S.map lks).length ≤ S.length by omega)) ?_
      repeat refine zS ?_
      iterate 2 refine zX ?_
      repeat refine zS ?_
      refine Run.ret ?_
      refine ⟨trivial, _, _, rfl, rfl, ?_⟩
      have hd := fun (k : Nat) => dv_vecN (k := k) (objs := .box [.vs r 10 0 (T.q.length + 1)] :: o1 :: .box [.vs r 10 0 (T.q.length + 1)] :: M0) (r := r) (N := rowT T) (by
        match r, r1 with
        | 0, r1 => cases r1
        | r + 1, r1 => exact r1) (rowT_9 T) (rowT_len T).symm
      show Option.map AV.d ((allM (dvOf _ 7) [AV.vs r 10 0 (T.q.length + 1)]).map DV.agg) = _
      simp only [allM]
      erw [hd 6]
      rfl
end Go.Av
end
noncomputable section
namespace Go.Av
set_option maxRecDepth 10000
structure SetR (k t : Nat) (L : List (List Nat)) : Prop where
  ne : L ≠ []
  rt : ∀ x ∈ L, Rt x ∧ x.length ≤ k ∧ ∀ u ∈ x, u < t
  asc : L.Pairwise fun x y => cmpL x y < 0
theorem chkW_ok {k t : Int} : ∀ {L : List Raw} {p : Option Raw}, chkW k t p L = 0 → (∀ r ∈ L, chkR r t = 0 ∧ r.n ≤ k) ∧ (∀ q, p = some q → ∀ r, L[0]? = some r → cmpL (dec q) (dec r) < 0) ∧ ∀ i q r, L[i]? = some q → L[i + 1]? = some r → cmpL (dec q) (dec r) < 0
  | [], _, _ => by simp
  | r :: L, p, h => by
    have hr : chkR r t = 0 := by
      by_cases h0 : chkR r t = 0
      · exact h0
      · rw [chkW_bad h0] at h; exact absurd h h0
    have hk : r.n ≤ k := by
      rcases Int.lt_or_le k r.n with hk | hk
      · rw [chkW_long hr hk] at h; cases h
      · exact hk
    have hk' : ¬ k < r.n := by omega
    have hp : (∀ q, p = some q → cmpL (dec q) (dec r) < 0) ∧ chkW k t (some r) L = 0 := by
      cases p with
      | none => simp [chkW, hr, hk'] at h; exact ⟨by simp, h⟩
      | some q =>
        simp only [chkW, hr, if_true, if_neg hk'] at h
        split at h
        · cases h
        · rename_i hn
          refine ⟨fun q' e => ?_, h⟩
          cases e; omega
    obtain ⟨h1, h2, h3⟩ := chkW_ok hp.2
    refine ⟨fun x hx => ?_, fun q e r' e' => ?_, fun i q r' e e' => ?_⟩
    · rcases List.mem_cons.1 hx with rfl | hx
      · exact ⟨hr, hk⟩
      · exact h1 x hx
    · simp at e'; subst e'; exact hp.1 q e
    · cases i with
      | zero => simp at e e'; subst e; exact h2 _ rfl r' (by simpa using e')
      | succ i => simp at e e'; exact h3 i q r' e e'
theorem pairsR {α : Type} {R : α → α → Prop} (ht : ∀ a b c, R a b → R b c → R a c) : ∀ {l : List α}, (∀ (i : Nat) a b, l[i]? = some a → l[i + 1]? = some b → R a b) → l.Pairwise R
  | [], _ => List.Pairwise.nil
  | [a], _ => by simp
  | a :: b :: l, h => by
    have ih := pairsR ht (l := b :: l) fun i x y hx hy => h (i + 1) x y (by simpa using hx) (by simpa using hy)
    refine List.pairwise_cons.2 ⟨fun c hc => ?_, ih⟩
    have hab := h 0 a b rfl rfl
    rcases List.mem_cons.1 hc with rfl | hc
    · exact hab
    · exact ht _ _ _ hab ((List.pairwise_cons.1 ih).1 c hc)
theorem setE_ok {k t : Int} (hk : 0 ≤ k) {L : List Raw} (h : setE k t L = 0) : L = (L.map dec).map rawOf ∧ SetR k.toNat t.toNat (L.map dec) := by
  unfold setE at h
  split at h
  · cases h
  rename_i hne
  obtain ⟨h1, _, h3⟩ := chkW_ok h
  have hL : L = (L.map dec).map rawOf := by
    rw [List.map_map]; conv => lhs; rw [← List.map_id L]
    refine List.map_congr_left fun r hr => ?_
    obtain ⟨_, _, l, hl, e, _⟩ := chkR_raw (h1 r hr).1
    subst e; simp only [id, Function.comp, dec_of hl.len]
  refine ⟨hL, ?_, fun x hx => ?_, ?_⟩
  · intro e
    apply hne
    have := congrArg List.length e
    simpa using this
  · obtain ⟨r, hr, rfl⟩ := List.mem_map.1 hx
    obtain ⟨_, _, l, hl, e, hlt⟩ := chkR_raw (h1 r hr).1
    have hn := (h1 r hr).2
    subst e
    rw [dec_of hl.len]
    refine ⟨hl, ?_, fun u hu => ?_⟩
    · have : ((l.length : Nat) : Int) ≤ k := hn
      omega
    · have := hlt u hu; omega
  · refine pairsR (R := fun x y => cmpL x y < 0) (fun a b c => cmpL_trans) fun i x y hx hy => ?_
    rw [List.getElem?_map] at hx hy
    obtain ⟨q, hq, rfl⟩ := Option.map_eq_some_iff.1 hx
    obtain ⟨r, hr, rfl⟩ := Option.map_eq_some_iff.1 hy
    exact h3 i q r hq hr
def decS (S : List (List Raw)) : List (List (List Nat)) := S.map fun L => L.map dec
abbrev rawS (S : List (List (List Nat))) : List (List Raw) := S.map fun L => L.map rawOf
theorem setsE_ok {k t : Int} (hk : 0 ≤ k) : ∀ {S : List (List Raw)}, setsE k t S = 0 → S = rawS (decS S) ∧ ∀ L ∈ decS S, SetR k.toNat t.toNat L
  | [], _ => by simp [decS, rawS]
  | L :: S, h => by
    simp only [setsE] at h
    split at h
    · rename_i hL
      obtain ⟨h1, h2⟩ := setE_ok hk hL
      obtain ⟨h3, h4⟩ := setsE_ok hk h
      refine ⟨?_, fun M hM => ?_⟩
      · simp only [decS, rawS, List.map_cons]
        simp only [decS, rawS] at h3
        rw [← h1, ← h3]
      · simp only [decS, List.map_cons, List.mem_cons] at hM
        rcases hM with rfl | hM
        · exact h2
        · exact h4 M hM
    · rename_i hn; exact absurd h hn
theorem ordE_ok : ∀ {P : List Int} {l : Int}, ordE l P = 0 → -1 ≤ l → ∀ p ∈ P, 0 ≤ p ∧ p < 24
  | [], _, _, _ => by simp
  | p :: P, l, h, hl => by
    simp only [ordE] at h
    split at h
    · cases h
    · rename_i hn
      intro q hq
      rcases List.mem_cons.1 hq with rfl | hq
      · omega
      · exact ordE_ok h (by omega) q hq
def entS : List (List (List Nat)) → List Int → List (List Nat × Int)
  | L :: S, p :: P => L.map (fun x => (x, p)) ++ entS S P
  | _, _ => []
theorem madeAll_eq (k : Nat) : ∀ (S : List (List (List Nat))) (P : List Int) (T : Trt), madeAll k T S P = (entS S P).foldl (putT k) T
  | [], P, T => by simp [madeAll, entS]
  | L :: S, [], T => by simp [madeAll, entS]
  | L :: S, p :: P, T => by
    simp only [madeAll, entS, List.foldl_append, madeAll_eq k S P, madeSet, List.foldl_map]
theorem entS_mem {x : List Nat} {p : Int} : ∀ {S : List (List (List Nat))} {P : List Int}, (x, p) ∈ entS S P → ∃ L, L ∈ S ∧ x ∈ L ∧ p ∈ P
  | [], _, h => by simp [entS] at h
  | L :: S, [], h => by simp [entS] at h
  | L :: S, q :: P, h => by
    simp only [entS, List.mem_append, List.mem_map, Prod.mk.injEq] at h
    rcases h with ⟨y, hy, rfl, rfl⟩ | h
    · exact ⟨L, by simp, hy, by simp⟩
    · obtain ⟨M, h1, h2, h3⟩ := entS_mem h
      exact ⟨M, by simp [h1], h2, by simp [h3]⟩
theorem entS_keys (k : Nat) : ∀ {S : List (List (List Nat))} {P : List Int}, P.length = S.length → (entS S P).map (fun x => edgesT k x.1) = S.flatten.map (edgesT k)
  | [], [], _ => rfl
  | [], _ :: _, h => by simp at h
  | L :: S, [], h => by simp at h
  | L :: S, p :: P, h => by
    simp only [entS, List.map_append, List.flatten_cons, List.map_map, entS_keys k (show P.length = S.length by simpa using h)]
    rfl
theorem nodup_inj {α β : Type} {f : α → β} : ∀ {l : List α}, (∀ x ∈ l, ∀ y ∈ l, f x = f y → x = y) → ((l.map f).Nodup ↔ l.Nodup)
  | [], _ => by simp
  | a :: l, h => by
    simp only [List.map_cons, List.nodup_cons, List.mem_map, not_exists, not_and]
    rw [nodup_inj fun x hx y hy => h x (by simp [hx]) y (by simp [hy])]
    refine and_congr ⟨fun g hm => g a hm rfl, fun g x hx e => ?_⟩ Iff.rfl
    exact g (h x (by simp [hx]) a (by simp) e ▸ hx)
theorem SetR.nodup {k t : Nat} {L : List (List Nat)} (h : SetR k t L) : L.Nodup :=
  h.asc.imp fun {x y} hxy e => by subst e; rw [cmpL_self] at hxy; omega
theorem rawOf_inj {x y : List Nat} (hx : x.length ≤ 4) (hy : y.length ≤ 4) (h : rawOf x = rawOf y) : x = y := by
  rw [← dec_of hx, ← dec_of hy, h]
theorem noT_iff {k t : Nat} {S : List (List (List Nat))} {P : List Int} (hS : ∀ L ∈ S, SetR k t L) (hP : P.length = S.length) : NoT k [] (entS S P) ↔ NCr (rawS S) := by
  have hin : ∀ x ∈ S.flatten, Rt x := fun x hx => by
    obtain ⟨L, h1, h2⟩ := List.mem_flatten.1 hx
    exact ((hS L h1).rt x h2).1
  unfold NoT
  rw [entS_keys k hP, nodup_inj fun x hx y hy e => edges_inj (hin x hx).lt (hin y hy).lt e]
  have h0 : (∀ x ∈ entS S P, ∀ c, (edgesT k x.1, c) ∉ ([] : List (List Nat × Int))) := by simp
  rw [and_iff_left h0]
  have hnd : ∀ l ∈ S, List.Pairwise (fun x y => x ≠ y) l := fun L hL => (hS L hL).nodup
  unfold List.Nodup
  rw [List.pairwise_flatten, and_iff_right hnd, List.pairwise_iff_getElem]
  constructor
  · intro h i j L M hji hL hM x hx hxM
    rw [List.getElem?_map] at hL hM
    obtain ⟨L', hL', rfl⟩ := Option.map_eq_some_iff.1 hL
    obtain ⟨M', hM', rfl⟩ := Option.map_eq_some_iff.1 hM
    obtain ⟨li, ei⟩ := List.getElem?_eq_some_iff.1 hL'
    obtain ⟨lj, ej⟩ := List.getElem?_eq_some_iff.1 hM'
    obtain ⟨a, ha, rfl⟩ := List.mem_map.1 hx
    obtain ⟨b, hb, e⟩ := List.mem_map.1 hxM
    have := rawOf_inj ((hS M' (List.mem_of_getElem? hM')).rt b hb).1.len ((hS L' (List.mem_of_getElem? hL')).rt a ha).1.len e
    subst this
    exact h j i lj li hji b (by rw [ej]; exact hb) b (by rw [ei]; exact ha) rfl
  · intro h j i lj li hji x hx y hy e
    subst e
    exact h i j (S[i].map rawOf) (S[j].map rawOf) hji (by rw [List.getElem?_map, List.getElem?_eq_getElem li]; rfl) (by rw [List.getElem?_map, List.getElem?_eq_getElem lj]; rfl) (rawOf x) (List.mem_map.2 ⟨x, hy, rfl⟩) (List.mem_map.2 ⟨x, hx, rfl⟩)
end Go.Av
end

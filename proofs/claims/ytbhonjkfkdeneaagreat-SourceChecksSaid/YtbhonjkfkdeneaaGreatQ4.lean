/-
  Parts of the way to the law, joined: rules for code over data, and what the functions return. Conditions stand at each.
-/
import Derived.Test.YtbhonjkfkdeneaaGreatQ2
import Derived.Test.YtbhonjkfkdeneaaGreatRows
import Derived.Test.YtbhonjkfkdeneaaGreatQ3
namespace Go.Av
open Go Go.Proofs
def ty1 : Ty := ⟨.func #[] #[] false, 1, 8, [.nilfunc]⟩
def ty3 : Ty := ⟨.int .i64, 1, 8, [(.int .i64 0)]⟩
def ty4 : Ty := ⟨.bool, 1, 1, [(.bool false)]⟩
def ty5 : Ty := ⟨.int .u8, 1, 1, [(.int .u8 0)]⟩
def ty9 : Ty := ⟨.string, 1, 16, [(.str [])]⟩
def ty20 : Ty := ⟨.interface #[], 1, 16, [.niliface]⟩
def ty21 : Ty := ⟨.int .i32, 1, 4, [(.int .i32 0)]⟩
def ty22 : Ty := ⟨.slice 9, 1, 24, [.nilsl]⟩
def ty23 : Ty := ⟨.slice 82, 1, 24, [.nilsl]⟩
def ty25 : Ty := ⟨.struct #[⟨ "K", 3, 0, false, "", "", 0⟩, ⟨ "Tokens", 22, 1, false, "", "", 8⟩, ⟨ "Sep", 9, 2, false, "", "", 32⟩, ⟨ "Names", 22, 3, false, "", "", 48⟩, ⟨ "Start", 3, 4, false, "", "", 72⟩, ⟨ "Prods", 23, 5, false, "", "", 80⟩], 6, 104, [(.int .i64 0), .nilsl, (.str []), .nilsl, (.int .i64 0), .nilsl]⟩
def ty29 : Ty := ⟨.slice 96, 1, 24, [.nilsl]⟩
def ty31 : Ty := ⟨.struct #[⟨ "K", 3, 0, false, "", "", 0⟩, ⟨ "Tokens", 22, 1, false, "", "", 8⟩, ⟨ "Sep", 9, 2, false, "", "", 32⟩, ⟨ "Start", 9, 3, false, "", "", 48⟩, ⟨ "Rules", 29, 4, false, "", "", 64⟩], 5, 88, [(.int .i64 0), .nilsl, (.str []), (.str []), .nilsl]⟩
def ty32 : Ty := ⟨.int .i64, 1, 8, [(.int .i64 0)]⟩
def ty37 : Ty := ⟨.func #[25] #[32] false, 1, 8, [.nilfunc]⟩
def ty41 : Ty := ⟨.struct #[⟨ "Err", 32, 0, false, "", "", 0⟩, ⟨ "At", 3, 1, false, "", "", 8⟩], 2, 16, [(.int .i64 0), (.int .i64 0)]⟩
def ty44 : Ty := ⟨.func #[9] #[4] false, 1, 8, [.nilfunc]⟩
def ty55 : Ty := ⟨.func #[22, 22] #[4] false, 1, 8, [.nilfunc]⟩
def ty60 : Ty := ⟨.func #[3] #[4] false, 1, 8, [.nilfunc]⟩
def ty61 : Ty := ⟨.int .u64, 1, 8, [(.int .u64 0)]⟩
def ty66 : Ty := ⟨.slice 3, 1, 24, [.nilsl]⟩
def ty69 : Ty := ⟨.slice 25, 1, 24, [.nilsl]⟩
def ty75 : Ty := ⟨.slice 5, 1, 24, [.nilsl]⟩
def ty82 : Ty := ⟨.struct #[⟨ "Left", 3, 0, false, "", "", 0⟩, ⟨ "Right", 66, 1, false, "", "", 8⟩], 2, 32, [(.int .i64 0), .nilsl]⟩
def ty94 : Ty := ⟨.slice 22, 1, 24, [.nilsl]⟩
def ty96 : Ty := ⟨.struct #[⟨ "Name", 9, 0, false, "", "", 0⟩, ⟨ "Alts", 94, 1, false, "", "", 16⟩], 2, 40, [(.str []), .nilsl]⟩
def ty97 : Ty := ⟨.func #[230] #[] false, 1, 8, [.nilfunc]⟩
def ty98 : Ty := ⟨.func #[230] #[] false, 1, 8, [.nilfunc]⟩
def ty100 : Ty := ⟨.pointer 96, 1, 8, [.nilptr]⟩
def ty102 : Ty := ⟨.slice 37, 1, 24, [.nilsl]⟩
def ty105 : Ty := ⟨.func #[96, 96] #[4] false, 1, 8, [.nilfunc]⟩
def ty107 : Ty := ⟨.func #[82, 82] #[4] false, 1, 8, [.nilfunc]⟩
def ty109 : Ty := ⟨.slice 126, 1, 24, [.nilsl]⟩
def ty113 : Ty := ⟨.struct #[⟨ "Fault", 41, 0, true, "", "", 0⟩], 2, 16, [(.int .i64 0), (.int .i64 0)]⟩
def ty115 : Ty := ⟨.pointer 119, 1, 8, [.nilptr]⟩
def ty116 : Ty := ⟨.map 9 200, 1, 8, [.nilmap]⟩
def ty117 : Ty := ⟨.slice 198, 1, 24, [.nilsl]⟩
def ty119 : Ty := ⟨.struct #[⟨ "s", 9, 0, false, "", "stenotype/source", 0⟩, ⟨ "l", 109, 1, false, "", "stenotype/source", 16⟩, ⟨ "x", 31, 2, false, "", "stenotype/source", 40⟩, ⟨ "names", 116, 7, false, "", "stenotype/source", 128⟩, ⟨ "uses", 117, 8, false, "", "stenotype/source", 136⟩, ⟨ "total", 3, 9, false, "", "stenotype/source", 160⟩], 10, 168, [(.str []), .nilsl, (.int .i64 0), .nilsl, (.str []), (.str []), .nilsl, .nilmap, .nilsl, (.int .i64 0)]⟩
def ty120 : Ty := ⟨.func #[115] #[] false, 1, 8, [.nilfunc]⟩
def ty121 : Ty := ⟨.array 6 120, 6, 48, [.nilfunc, .nilfunc, .nilfunc, .nilfunc, .nilfunc, .nilfunc]⟩
def ty122 : Ty := ⟨.pointer 124, 1, 8, [.nilptr]⟩
def ty124 : Ty := ⟨.struct #[⟨ "text", 9, 0, false, "", "stenotype/stenotyperef08", 0⟩, ⟨ "l", 109, 1, false, "", "stenotype/stenotyperef08", 16⟩, ⟨ "at", 3, 2, false, "", "stenotype/stenotyperef08", 40⟩, ⟨ "f", 41, 3, false, "", "stenotype/stenotyperef08", 48⟩, ⟨ "alts", 3, 5, false, "", "stenotype/stenotyperef08", 64⟩, ⟨ "x", 31, 6, false, "", "stenotype/stenotyperef08", 72⟩], 11, 160, [(.str []), .nilsl, (.int .i64 0), (.int .i64 0), (.int .i64 0), (.int .i64 0), (.int .i64 0), .nilsl, (.str []), (.str []), .nilsl]⟩
def ty126 : Ty := ⟨.struct #[⟨ "Kind", 3, 0, false, "", "", 0⟩, ⟨ "Text", 9, 1, false, "", "", 8⟩, ⟨ "At", 3, 2, false, "", "", 24⟩], 3, 32, [(.int .i64 0), (.str []), (.int .i64 0)]⟩
def ty131 : Ty := ⟨.pointer 136, 1, 8, [.nilptr]⟩
def ty132 : Ty := ⟨.pointer 134, 1, 8, [.nilptr]⟩
def ty134 : Ty := ⟨.struct #[⟨ "addr", 132, 0, false, "", "strings", 0⟩, ⟨ "buf", 75, 1, false, "", "strings", 8⟩], 2, 32, [.nilptr, .nilsl]⟩
def ty136 : Ty := ⟨.struct #[⟨ "Builder", 134, 0, true, "", "", 0⟩], 2, 32, [.nilptr, .nilsl]⟩
def ty143 : Ty := ⟨.func #[96] #[4] false, 1, 8, [.nilfunc]⟩
def ty148 : Ty := ⟨.pointer 153, 1, 8, [.nilptr]⟩
def ty150 : Ty := ⟨.struct #[⟨ "S", 9, 0, false, "", "", 0⟩, ⟨ "Most", 3, 1, false, "", "", 16⟩, ⟨ "Err", 32, 2, false, "", "", 24⟩], 3, 32, [(.str []), (.int .i64 0), (.int .i64 0)]⟩
def ty153 : Ty := ⟨.struct #[⟨ "Writer", 150, 0, true, "", "", 0⟩], 3, 32, [(.str []), (.int .i64 0), (.int .i64 0)]⟩
def ty164 : Ty := ⟨.int .u64, 1, 8, [(.int .u64 0)]⟩
def ty165 : Ty := ⟨.map 9 3, 1, 8, [.nilmap]⟩
def ty166 : Ty := ⟨.struct #[⟨ "Fault", 41, 0, true, "", "", 0⟩], 2, 16, [(.int .i64 0), (.int .i64 0)]⟩
def ty168 : Ty := ⟨.pointer 173, 1, 8, [.nilptr]⟩
def ty170 : Ty := ⟨.struct #[⟨ "S", 9, 0, false, "", "", 0⟩, ⟨ "At", 3, 1, false, "", "", 16⟩, ⟨ "Fault", 41, 2, false, "", "", 24⟩], 4, 40, [(.str []), (.int .i64 0), (.int .i64 0), (.int .i64 0)]⟩
def ty173 : Ty := ⟨.struct #[⟨ "Reader", 170, 0, true, "", "", 0⟩], 4, 40, [(.str []), (.int .i64 0), (.int .i64 0), (.int .i64 0)]⟩
def ty185 : Ty := ⟨.map 9 4, 1, 8, [.nilmap]⟩
def ty188 : Ty := ⟨.func #[82] #[4] false, 1, 8, [.nilfunc]⟩
def ty189 : Ty := ⟨.func #[233] #[] false, 1, 8, [.nilfunc]⟩
def ty190 : Ty := ⟨.func #[233] #[] false, 1, 8, [.nilfunc]⟩
def ty198 : Ty := ⟨.struct #[⟨ "name", 9, 0, false, "", "stenotype/source", 0⟩, ⟨ "at", 3, 1, false, "", "stenotype/source", 16⟩], 2, 24, [(.str []), (.int .i64 0)]⟩
def ty200 : Ty := ⟨.struct #[⟨ "token", 4, 0, false, "", "stenotype/source", 0⟩, ⟨ "sep", 4, 1, false, "", "stenotype/source", 1⟩, ⟨ "rule", 4, 2, false, "", "stenotype/source", 2⟩], 3, 3, [(.bool false), (.bool false), (.bool false)]⟩
def ty207 : Ty := ⟨.interface #[("Error", 139)], 1, 16, [.niliface]⟩
def ty211 : Ty := ⟨.pointer 5, 1, 8, [.nilptr]⟩
def ty215 : Ty := ⟨.struct #[⟨ "Writer", 150, 0, true, "", "", 0⟩], 3, 32, [(.str []), (.int .i64 0), (.int .i64 0)]⟩
def ty216 : Ty := ⟨.pointer 215, 1, 8, [.nilptr]⟩
def ty222 : Ty := ⟨.struct #[⟨ "Reader", 170, 0, true, "", "", 0⟩], 4, 40, [(.str []), (.int .i64 0), (.int .i64 0), (.int .i64 0)]⟩
def ty223 : Ty := ⟨.pointer 222, 1, 8, [.nilptr]⟩
def ty230 : Ty := ⟨.func #[3, 82] #[4] false, 1, 8, [.nilfunc]⟩
def ty233 : Ty := ⟨.func #[126, 41] #[4] false, 1, 8, [.nilfunc]⟩
def ty234 : Ty := ⟨.pointer 238, 1, 8, [.nilptr]⟩
def ty236 : Ty := ⟨.struct #[⟨ "s", 9, 0, false, "", "stenotype/text", 0⟩, ⟨ "at", 3, 1, false, "", "stenotype/text", 16⟩], 2, 24, [(.str []), (.int .i64 0)]⟩
def ty238 : Ty := ⟨.struct #[⟨ "cursor", 236, 0, true, "", "stenotype/text", 0⟩], 2, 24, [(.str []), (.int .i64 0)]⟩
def ty247 : Ty := ⟨.slice 61, 1, 24, [.nilsl]⟩
def ty253 : Ty := ⟨.int .i64, 1, 8, [(.int .i64 0)]⟩
def ty256 : Ty := ⟨.func #[5] #[4] false, 1, 8, [.nilfunc]⟩
def ty257 : Ty := ⟨.unsafePointer, 1, 8, [.nilptr]⟩
def ty261 : Ty := ⟨.array 4 9, 4, 64, [(.str []), (.str []), (.str []), (.str [])]⟩
def ty262 : Ty := ⟨.func #[256] #[] false, 1, 8, [.nilfunc]⟩
def ty263 : Ty := ⟨.func #[256] #[] false, 1, 8, [.nilfunc]⟩
def ty266 : Ty := ⟨.pointer 236, 1, 8, [.nilptr]⟩
def ty268 : Ty := ⟨.slice 253, 1, 24, [.nilsl]⟩
def ty269 : Ty := ⟨.array 4 5, 4, 4, [(.int .u8 0), (.int .u8 0), (.int .u8 0), (.int .u8 0)]⟩
noncomputable def Et : PT Ty := (.node (.node (.node (.node (.node (.node .nil (some ty31) (.node .nil none (.node .nil (some ty223) .nil))) none (.node (.node (.node .nil (some ty143) .nil) none (.node .nil (some ty207) .nil)) none .nil)) none (.node (.node (.node (.node (.node .nil (some ty263) .nil) none .nil) none .nil) none .nil) (some ty23) (.node (.node .nil none (.node .nil (some ty215) .nil)) (some ty55) (.node .nil (some ty119) (.node .nil (some ty247) .nil))))) (some ty3) (.node (.node (.node (.node (.node .nil (some ty131) .nil) none .nil) none .nil) none (.node (.node .nil none (.node .nil (some ty211) .nil)) none (.node .nil (some ty115) .nil))) none (.node (.node (.node .nil (some ty75) .nil) none (.node .nil (some ty107) .nil)) none .nil))) (some ty1) (.node (.node (.node (.node (.node (.node (.node .nil (some ty257) .nil) none .nil) none .nil) none (.node .nil (some ty97) .nil)) none (.node .nil none (.node .nil (some ty113) .nil))) (some ty9) (.node (.node .nil (some ty41) (.node .nil (some ty105) (.node .nil (some ty233) .nil))) (some ty25) (.node (.node (.node .nil (some ty153) .nil) none .nil) none (.node (.node .nil (some ty185) .nil) (some ty121) .nil)))) (some ty5) (.node (.node (.node (.node (.node (.node .nil (some ty261) .nil) none .nil) (some ty69) .nil) (some ty37) (.node (.node .nil (some ty165) .nil) none .nil)) (some ty21) (.node .nil none (.node .nil (some ty117) .nil))) none (.node (.node (.node (.node (.node .nil (some ty269) .nil) none .nil) none .nil) none (.node (.node .nil (some ty173) .nil) (some ty109) .nil)) (some ty29) (.node .nil (some ty61) (.node (.node .nil (some ty189) .nil) none (.node .nil (some ty253) .nil))))))) none (.node (.node (.node (.node (.node (.node (.node (.node .nil (some ty256) .nil) none .nil) none .nil) (some ty32) (.node .nil (some ty96) .nil)) none .nil) none (.node (.node (.node (.node .nil (some ty136) .nil) none (.node .nil (some ty200) .nil)) none (.node (.node .nil (some ty168) .nil) none .nil)) none (.node (.node .nil none (.node .nil (some ty216) .nil)) none (.node .nil (some ty120) .nil)))) (some ty4) (.node (.node (.node (.node (.node .nil (some ty132) .nil) none .nil) none (.node (.node .nil (some ty164) .nil) (some ty100) .nil)) (some ty20) (.node (.node (.node .nil (some ty148) .nil) none .nil) none (.node .nil (some ty116) .nil))) none (.node (.node (.node (.node (.node .nil (some ty268) .nil) none .nil) none .nil) (some ty44) (.node .nil none (.node .nil (some ty236) .nil))) none (.node .nil (some ty60) (.node (.node .nil (some ty188) .nil) (some ty124) .nil))))) none (.node (.node (.node (.node (.node .nil (some ty66) .nil) none (.node .nil (some ty98) .nil)) none (.node (.node .nil (some ty82) .nil) none .nil)) none (.node (.node (.node (.node (.node .nil (some ty266) .nil) none .nil) none .nil) none (.node (.node .nil (some ty170) .nil) none (.node .nil (some ty234) .nil))) none (.node .nil none (.node .nil (some ty122) .nil)))) none (.node (.node (.node (.node (.node (.node .nil (some ty262) .nil) (some ty134) .nil) none (.node .nil (some ty198) .nil)) none (.node (.node .nil (some ty166) .nil) (some ty102) (.node .nil (some ty230) .nil))) (some ty22) (.node (.node (.node .nil (some ty150) .nil) none .nil) none .nil)) none (.node (.node .nil none (.node .nil none (.node .nil (some ty238) .nil))) none (.node (.node .nil (some ty94) (.node .nil (some ty222) .nil)) none (.node (.node .nil (some ty190) .nil) (some ty126) .nil)))))))
noncomputable def Ft : PT FnI := (.node (.node (.node (.node (.node (.node (.node (.node (.node .nil (some (mkFn Tryz.f255 [])) .nil) (some (mkFn Tryz.f127 [1])) .nil) (some (mkFn Tryz.f63 [])) (.node .nil (some (mkFn Tryz.f191 [])) .nil)) (some (mkFn Tryz.f31 [1, 24, 33, 45, 58, 68, 73])) (.node (.node .nil (some (mkFn Tryz.f159 [])) .nil) (some (mkFn Tryz.f95 [1, 2, 3, 4, 6])) (.node .nil (some (mkFn Tryz.f223 [])) .nil))) (some (mkFn Tryz.f15 [35])) (.node (.node (.node .nil (some (mkFn Tryz.f143 [22])) .nil) (some (mkFn Tryz.f79 [1, 18])) (.node .nil (some (mkFn Tryz.f207 [2, 9])) .nil)) (some (mkFn Tryz.f47 [1])) (.node (.node .nil (some (mkFn Tryz.f175 [2])) .nil) (some (mkFn Tryz.f111 [])) (.node .nil (some (mkFn Tryz.f239 [])) .nil)))) (some (mkFn Tryz.f7 [])) (.node (.node (.node (.node (.node .nil (some (mkFn Tryz.f263 [])) .nil) (some (mkFn Tryz.f135 [])) .nil) (some (mkFn Tryz.f71 [])) (.node .nil (some (mkFn Tryz.f199 [])) .nil)) (some (mkFn Tryz.f39 [131084, 1, 15])) (.node (.node .nil (some (mkFn Tryz.f167 [1])) .nil) (some (mkFn Tryz.f103 [])) (.node .nil (some (mkFn Tryz.f231 [])) .nil))) (some (mkFn Tryz.f23 [2, 3])) (.node (.node (.node .nil (some (mkFn Tryz.f151 [])) .nil) (some (mkFn Tryz.f87 [])) (.node .nil (some (mkFn Tryz.f215 [2, 3])) .nil)) (some (mkFn Tryz.f55 [48, 55])) (.node (.node .nil (some (mkFn Tryz.f183 [])) .nil) (some (mkFn Tryz.f119 [1])) (.node .nil (some (mkFn Tryz.f247 [3])) .nil))))) (some (mkFn Tryz.f3 [2, 3])) (.node (.node (.node (.node (.node (.node .nil (some (extFn 76)) .nil) (some (mkFn Tryz.f131 [1, 19])) .nil) (some (mkFn Tryz.f67 [2, 200001])) (.node .nil (some (mkFn Tryz.f195 [])) .nil)) (some (mkFn Tryz.f35 [131080, 1, 11])) (.node (.node .nil (some (mkFn Tryz.f163 [])) .nil) (some (mkFn Tryz.f99 [12, 29])) (.node .nil (some (mkFn Tryz.f227 [])) .nil))) (some (mkFn Tryz.f19 [1])) (.node (.node (.node .nil (some (mkFn Tryz.f147 [2, 200001])) .nil) (some (mkFn Tryz.f83 [1])) (.node .nil (some (mkFn Tryz.f211 [11, 19])) .nil)) (some (mkFn Tryz.f51 [73, 101, 102, 114, 134, 131181])) (.node (.node .nil (some (mkFn Tryz.f179 [])) .nil) (some (mkFn Tryz.f115 [1, 16])) (.node .nil (some (mkFn Tryz.f243 [])) .nil)))) (some (mkFn Tryz.f11 [41])) (.node (.node (.node (.node (.node .nil (some (mkFn Tryz.f267 [])) .nil) (some (mkFn Tryz.f139 [])) .nil) (some (mkFn Tryz.f75 [2])) (.node .nil (some (mkFn Tryz.f203 [])) .nil)) (some (mkFn Tryz.f43 [1, 42, 94, 100])) (.node (.node .nil (some (mkFn Tryz.f171 [2])) .nil) (some (mkFn Tryz.f107 [48, 60])) (.node .nil (some (mkFn Tryz.f235 [131085, 131085])) .nil))) (some (mkFn Tryz.f27 [])) (.node (.node (.node .nil (some (mkFn Tryz.f155 [])) .nil) (some (mkFn Tryz.f91 [2, 3])) (.node .nil (some (mkFn Tryz.f219 [1])) .nil)) (some (mkFn Tryz.f59 [])) (.node (.node .nil (some (mkFn Tryz.f187 [33, 45])) .nil) (some (mkFn Tryz.f123 [])) (.node .nil (some (mkFn Tryz.f251 [5, 15])) .nil)))))) none (.node (.node (.node (.node (.node (.node (.node .nil (some (mkFn Tryz.f257 [])) .nil) (some (mkFn Tryz.f129 [1])) .nil) (some (mkFn Tryz.f65 [65537, 65538, 65539, 65542, 65544])) (.node .nil (some (mkFn Tryz.f193 [])) .nil)) (some (mkFn Tryz.f33 [48, 53])) (.node (.node .nil (some (mkFn Tryz.f161 [])) .nil) (some (mkFn Tryz.f97 [])) (.node .nil (some (mkFn Tryz.f225 [])) .nil))) (some (mkFn Tryz.f17 [1, 77, 82, 88])) (.node (.node (.node .nil (some (mkFn Tryz.f145 [])) .nil) (some (mkFn Tryz.f81 [1])) (.node .nil (some (mkFn Tryz.f209 [])) .nil)) (some (mkFn Tryz.f49 [])) (.node (.node .nil (some (mkFn Tryz.f177 [1])) .nil) (some (mkFn Tryz.f113 [])) (.node .nil (some (mkFn Tryz.f241 [])) .nil)))) (some (mkFn Tryz.f9 [27])) (.node (.node (.node (.node (.node .nil (some (mkFn Tryz.f265 [])) .nil) (some (mkFn Tryz.f137 [7])) .nil) (some (mkFn Tryz.f73 [2])) (.node .nil (some (mkFn Tryz.f201 [])) .nil)) (some (mkFn Tryz.f41 [])) (.node (.node .nil (some (mkFn Tryz.f169 [])) .nil) (some (mkFn Tryz.f105 [87])) (.node .nil (some (mkFn Tryz.f233 [1])) .nil))) (some (mkFn Tryz.f25 [2, 3])) (.node (.node (.node .nil (some (mkFn Tryz.f153 [])) .nil) (some (mkFn Tryz.f89 [])) (.node .nil (some (mkFn Tryz.f217 [3])) .nil)) (some (mkFn Tryz.f57 [89, 95])) (.node (.node .nil (some (mkFn Tryz.f185 [])) .nil) (some (mkFn Tryz.f121 [])) (.node .nil (some (mkFn Tryz.f249 [])) .nil))))) (some (mkFn Tryz.f5 [])) (.node (.node (.node (.node (.node (.node .nil (some (mkFn Tryz.f261 [])) .nil) (some (mkFn Tryz.f133 [1])) .nil) (some (mkFn Tryz.f69 [])) (.node .nil (some (mkFn Tryz.f197 [65])) .nil)) (some (mkFn Tryz.f37 [1])) (.node (.node .nil (some (mkFn Tryz.f165 [])) .nil) (some (mkFn Tryz.f101 [23])) (.node .nil (some (mkFn Tryz.f229 [])) .nil))) (some (mkFn Tryz.f21 [1])) (.node (.node (.node .nil (some (mkFn Tryz.f149 [])) .nil) (some (mkFn Tryz.f85 [1])) (.node .nil (some (mkFn Tryz.f213 [])) .nil)) (some (mkFn Tryz.f53 [])) (.node (.node .nil (some (mkFn Tryz.f181 [3])) .nil) (some (mkFn Tryz.f117 [])) (.node .nil (some (mkFn Tryz.f245 [])) .nil)))) (some (mkFn Tryz.f13 [1])) (.node (.node (.node (.node (.node .nil (some (mkFn Tryz.f269 [])) .nil) (some (mkFn Tryz.f141 [2])) .nil) (some (mkFn Tryz.f77 [1])) (.node .nil (some (mkFn Tryz.f205 [])) .nil)) (some (mkFn Tryz.f45 [1, 21, 34, 49, 65, 77])) (.node (.node .nil (some (mkFn Tryz.f173 [])) .nil) (some (mkFn Tryz.f109 [])) (.node .nil (some (mkFn Tryz.f237 [])) .nil))) (some (mkFn Tryz.f29 [2, 3])) (.node (.node (.node .nil (some (mkFn Tryz.f157 [1])) .nil) (some (mkFn Tryz.f93 [])) (.node .nil (some (mkFn Tryz.f221 [])) .nil)) (some (mkFn Tryz.f61 [])) (.node (.node .nil (some (mkFn Tryz.f189 [])) .nil) (some (mkFn Tryz.f125 [])) (.node .nil (some (mkFn Tryz.f253 [])) .nil))))))) none (.node (.node (.node (.node (.node (.node (.node (.node .nil (some (mkFn Tryz.f256 [])) .nil) (some (mkFn Tryz.f128 [1])) .nil) (some (mkFn Tryz.f64 [2, 200001])) (.node .nil (some (mkFn Tryz.f192 [3])) .nil)) (some (mkFn Tryz.f32 [1])) (.node (.node .nil (some (mkFn Tryz.f160 [30])) .nil) (some (mkFn Tryz.f96 [22])) (.node .nil (some (mkFn Tryz.f224 [])) .nil))) (some (mkFn Tryz.f16 [1, 43, 62, 77])) (.node (.node (.node .nil (some (mkFn Tryz.f144 [2])) .nil) (some (mkFn Tryz.f80 [1])) (.node .nil (some (mkFn Tryz.f208 [4])) .nil)) (some (mkFn Tryz.f48 [1])) (.node (.node .nil (some (mkFn Tryz.f176 [2])) .nil) (some (mkFn Tryz.f112 [])) (.node .nil (some (mkFn Tryz.f240 [18])) .nil)))) (some (mkFn Tryz.f8 [2])) (.node (.node (.node (.node (.node .nil (some (mkFn Tryz.f264 [])) .nil) (some (mkFn Tryz.f136 [])) .nil) (some (mkFn Tryz.f72 [])) (.node .nil (some (mkFn Tryz.f200 [131096])) .nil)) (some (mkFn Tryz.f40 [1, 17])) (.node (.node .nil (some (mkFn Tryz.f168 [])) .nil) (some (mkFn Tryz.f104 [31])) (.node .nil (some (mkFn Tryz.f232 [3])) .nil))) (some (mkFn Tryz.f24 [2, 3])) (.node (.node (.node .nil (some (mkFn Tryz.f152 [])) .nil) (some (mkFn Tryz.f88 [2, 3])) (.node .nil (some (mkFn Tryz.f216 [1])) .nil)) (some (mkFn Tryz.f56 [])) (.node (.node .nil (some (mkFn Tryz.f184 [])) .nil) (some (mkFn Tryz.f120 [3])) (.node .nil (some (mkFn Tryz.f248 [])) .nil))))) (some (mkFn Tryz.f4 [])) (.node (.node (.node (.node (.node (.node .nil (some (mkFn Tryz.f260 [])) .nil) (some (mkFn Tryz.f132 [2])) .nil) (some (mkFn Tryz.f68 [])) (.node .nil (some (mkFn Tryz.f196 [])) .nil)) (some (mkFn Tryz.f36 [1, 28])) (.node (.node .nil (some (mkFn Tryz.f164 [2])) .nil) (some (mkFn Tryz.f100 [])) (.node .nil (some (mkFn Tryz.f228 [1])) .nil))) (some (mkFn Tryz.f20 [1, 13, 200001])) (.node (.node (.node .nil (some (mkFn Tryz.f148 [2, 200001])) .nil) (some (mkFn Tryz.f84 [1, 12])) (.node .nil (some (mkFn Tryz.f212 [1])) .nil)) (some (mkFn Tryz.f52 [19, 40, 42, 96, 105, 111])) (.node (.node .nil (some (mkFn Tryz.f180 [])) .nil) (some (mkFn Tryz.f116 [1])) (.node .nil (some (mkFn Tryz.f244 [])) .nil)))) (some (mkFn Tryz.f12 [])) (.node (.node (.node (.node (.node .nil (some (mkFn Tryz.f268 [])) .nil) (some (mkFn Tryz.f140 [1])) .nil) (some (mkFn Tryz.f76 [2, 24])) (.node .nil (some (mkFn Tryz.f204 [])) .nil)) (some (mkFn Tryz.f44 [])) (.node (.node .nil (some (mkFn Tryz.f172 [])) .nil) (some (mkFn Tryz.f108 [4])) (.node .nil (some (mkFn Tryz.f236 [65558, 200000])) .nil))) (some (mkFn Tryz.f28 [])) (.node (.node (.node .nil (some (mkFn Tryz.f156 [])) .nil) (some (mkFn Tryz.f92 [])) (.node .nil (some (mkFn Tryz.f220 [])) .nil)) (some (mkFn Tryz.f60 [])) (.node (.node .nil (some (mkFn Tryz.f188 [])) .nil) (some (mkFn Tryz.f124 [])) (.node .nil (some (mkFn Tryz.f252 [])) .nil)))))) none (.node (.node (.node (.node (.node (.node (.node .nil (some (extFn 0)) .nil) (some (mkFn Tryz.f130 [])) .nil) (some (mkFn Tryz.f66 [2, 3, 30])) (.node .nil (some (mkFn Tryz.f194 [])) .nil)) (some (mkFn Tryz.f34 [1])) (.node (.node .nil (some (mkFn Tryz.f162 [])) .nil) (some (mkFn Tryz.f98 [])) (.node .nil (some (mkFn Tryz.f226 [33, 40])) .nil))) (some (mkFn Tryz.f18 [1])) (.node (.node (.node .nil (some (mkFn Tryz.f146 [])) .nil) (some (mkFn Tryz.f82 [1])) (.node .nil (some (mkFn Tryz.f210 [])) .nil)) (some (mkFn Tryz.f50 [])) (.node (.node .nil (some (mkFn Tryz.f178 [])) .nil) (some (mkFn Tryz.f114 [])) (.node .nil (some (mkFn Tryz.f242 [])) .nil)))) (some (mkFn Tryz.f10 [])) (.node (.node (.node (.node (.node .nil (some (mkFn Tryz.f266 [])) .nil) (some (mkFn Tryz.f138 [2, 20])) .nil) (some (mkFn Tryz.f74 [1])) (.node .nil (some (mkFn Tryz.f202 [])) .nil)) (some (mkFn Tryz.f42 [])) (.node (.node .nil (some (mkFn Tryz.f170 [])) .nil) (some (mkFn Tryz.f106 [])) (.node .nil (some (mkFn Tryz.f234 [131082])) .nil))) (some (mkFn Tryz.f26 [])) (.node (.node (.node .nil (some (mkFn Tryz.f154 [14])) .nil) (some (mkFn Tryz.f90 [])) (.node .nil (some (mkFn Tryz.f218 [])) .nil)) (some (mkFn Tryz.f58 [])) (.node (.node .nil (some (mkFn Tryz.f186 [3])) .nil) (some (mkFn Tryz.f122 [])) (.node .nil (some (mkFn Tryz.f250 [])) .nil))))) (some (mkFn Tryz.f6 [2, 3])) (.node (.node (.node (.node (.node (.node .nil (some (mkFn Tryz.f262 [])) .nil) (some (mkFn Tryz.f134 [2])) .nil) (some (mkFn Tryz.f70 [])) (.node .nil (some (mkFn Tryz.f198 [65550])) .nil)) (some (mkFn Tryz.f38 [1])) (.node (.node .nil (some (mkFn Tryz.f166 [2])) .nil) (some (mkFn Tryz.f102 [88, 100])) (.node .nil (some (mkFn Tryz.f230 [])) .nil))) (some (mkFn Tryz.f22 [2, 3])) (.node (.node (.node .nil (some (mkFn Tryz.f150 [])) .nil) (some (mkFn Tryz.f86 [])) (.node .nil (some (mkFn Tryz.f214 [3, 4, 5])) .nil)) (some (mkFn Tryz.f54 [1, 57, 95, 102])) (.node (.node .nil (some (mkFn Tryz.f182 [])) .nil) (some (mkFn Tryz.f118 [1])) (.node .nil (some (mkFn Tryz.f246 [])) .nil)))) (some (mkFn Tryz.f14 [39])) (.node (.node (.node (.node .nil (some (mkFn Tryz.f142 [])) .nil) (some (mkFn Tryz.f78 [1, 28])) (.node .nil (some (mkFn Tryz.f206 [])) .nil)) (some (mkFn Tryz.f46 [1, 26])) (.node (.node .nil (some (mkFn Tryz.f174 [])) .nil) (some (mkFn Tryz.f110 [7])) (.node .nil (some (mkFn Tryz.f238 [])) .nil))) (some (mkFn Tryz.f30 [40, 54])) (.node (.node (.node .nil (some (mkFn Tryz.f158 [])) .nil) (some (mkFn Tryz.f94 [])) (.node .nil (some (mkFn Tryz.f222 [])) .nil)) (some (mkFn Tryz.f62 [])) (.node (.node .nil (some (mkFn Tryz.f190 [])) .nil) (some (mkFn Tryz.f126 [])) (.node .nil (some (mkFn Tryz.f254 [])) .nil))))))))
theorem Et_ok : EnvOK Tryz.prog Et := envOK_of ⟨trivial, ⟨⟨by kernel_rfl, by kernel_rfl⟩, ⟨⟨by kernel_rfl, by kernel_rfl⟩, ⟨trivial, ⟨trivial, ⟨⟨by kernel_rfl, by kernel_rfl⟩, trivial, ⟨trivial, trivial, ⟨⟨by kernel_rfl, by kernel_rfl⟩, trivial, trivial⟩⟩⟩, ⟨trivial, ⟨trivial, ⟨⟨by kernel_rfl, by kernel_rfl⟩, trivial, trivial⟩, ⟨⟨by kernel_rfl, by kernel_rfl⟩, trivial, trivial⟩⟩, trivial⟩⟩, ⟨⟨by kernel_rfl, by kernel_rfl⟩, ⟨trivial, ⟨trivial, ⟨trivial, ⟨⟨by kernel_rfl, by kernel_rfl⟩, trivial, trivial⟩, trivial⟩, trivial⟩, trivial⟩, ⟨⟨by kernel_rfl, by kernel_rfl⟩, ⟨trivial, trivial, ⟨⟨by kernel_rfl, by kernel_rfl⟩, trivial, trivial⟩⟩, ⟨⟨by kernel_rfl, by kernel_rfl⟩, trivial, ⟨⟨by kernel_rfl, by kernel_rfl⟩, trivial, trivial⟩⟩⟩⟩⟩, ⟨trivial, ⟨trivial, ⟨trivial, ⟨trivial, ⟨⟨by kernel_rfl, by kernel_rfl⟩, trivial, trivial⟩, trivial⟩, trivial⟩, ⟨trivial, ⟨trivial, trivial, ⟨⟨by kernel_rfl, by kernel_rfl⟩, trivial, trivial⟩⟩, ⟨⟨by kernel_rfl, by kernel_rfl⟩, trivial, trivial⟩⟩⟩, ⟨trivial, ⟨trivial, ⟨⟨by kernel_rfl, by kernel_rfl⟩, trivial, trivial⟩, ⟨⟨by kernel_rfl, by kernel_rfl⟩, trivial, trivial⟩⟩, trivial⟩⟩⟩, ⟨⟨by kernel_rfl, by kernel_rfl⟩, ⟨⟨by kernel_rfl, by kernel_rfl⟩, ⟨trivial, ⟨trivial, ⟨trivial, ⟨trivial, ⟨⟨by kernel_rfl, by kernel_rfl⟩, trivial, trivial⟩, trivial⟩, trivial⟩, ⟨⟨by kernel_rfl, by kernel_rfl⟩, trivial, trivial⟩⟩, ⟨trivial, trivial, ⟨⟨by kernel_rfl, by kernel_rfl⟩, trivial, trivial⟩⟩⟩, ⟨⟨by kernel_rfl, by kernel_rfl⟩, ⟨⟨by kernel_rfl, by kernel_rfl⟩, trivial, ⟨⟨by kernel_rfl, by kernel_rfl⟩, trivial, ⟨⟨by kernel_rfl, by kernel_rfl⟩, trivial, trivial⟩⟩⟩, ⟨trivial, ⟨trivial, ⟨⟨by kernel_rfl, by kernel_rfl⟩, trivial, trivial⟩, trivial⟩, ⟨⟨by kernel_rfl, by kernel_rfl⟩, ⟨⟨by kernel_rfl, by kernel_rfl⟩, trivial, trivial⟩, trivial⟩⟩⟩⟩, ⟨trivial, ⟨⟨by kernel_rfl, by kernel_rfl⟩, ⟨⟨by kernel_rfl, by kernel_rfl⟩, ⟨⟨by kernel_rfl, by kernel_rfl⟩, ⟨trivial, ⟨⟨by kernel_rfl, by kernel_rfl⟩, trivial, trivial⟩, trivial⟩, trivial⟩, ⟨trivial, ⟨⟨by kernel_rfl, by kernel_rfl⟩, trivial, trivial⟩, trivial⟩⟩, ⟨trivial, trivial, ⟨⟨by kernel_rfl, by kernel_rfl⟩, trivial, trivial⟩⟩⟩, ⟨⟨by kernel_rfl, by kernel_rfl⟩, ⟨trivial, ⟨trivial, ⟨trivial, ⟨⟨by kernel_rfl, by kernel_rfl⟩, trivial, trivial⟩, trivial⟩, trivial⟩, ⟨⟨by kernel_rfl, by kernel_rfl⟩, ⟨⟨by kernel_rfl, by kernel_rfl⟩, trivial, trivial⟩, trivial⟩⟩, ⟨⟨by kernel_rfl, by kernel_rfl⟩, trivial, ⟨trivial, ⟨⟨by kernel_rfl, by kernel_rfl⟩, trivial, trivial⟩, ⟨⟨by kernel_rfl, by kernel_rfl⟩, trivial, trivial⟩⟩⟩⟩⟩⟩⟩, ⟨trivial, ⟨⟨by kernel_rfl, by kernel_rfl⟩, ⟨trivial, ⟨trivial, ⟨⟨by kernel_rfl, by kernel_rfl⟩, ⟨trivial, ⟨trivial, ⟨⟨by kernel_rfl, by kernel_rfl⟩, trivial, trivial⟩, trivial⟩, trivial⟩, ⟨⟨by kernel_rfl, by kernel_rfl⟩, trivial, trivial⟩⟩, trivial⟩, ⟨trivial, ⟨trivial, ⟨trivial, ⟨⟨by kernel_rfl, by kernel_rfl⟩, trivial, trivial⟩, ⟨⟨by kernel_rfl, by kernel_rfl⟩, trivial, trivial⟩⟩, ⟨trivial, ⟨⟨by kernel_rfl, by kernel_rfl⟩, trivial, trivial⟩, trivial⟩⟩, ⟨trivial, ⟨trivial, trivial, ⟨⟨by kernel_rfl, by kernel_rfl⟩, trivial, trivial⟩⟩, ⟨⟨by kernel_rfl, by kernel_rfl⟩, trivial, trivial⟩⟩⟩⟩, ⟨trivial, ⟨⟨by kernel_rfl, by kernel_rfl⟩, ⟨trivial, ⟨trivial, ⟨⟨by kernel_rfl, by kernel_rfl⟩, trivial, trivial⟩, trivial⟩, ⟨⟨by kernel_rfl, by kernel_rfl⟩, ⟨⟨by kernel_rfl, by kernel_rfl⟩, trivial, trivial⟩, trivial⟩⟩, ⟨trivial, ⟨trivial, ⟨⟨by kernel_rfl, by kernel_rfl⟩, trivial, trivial⟩, trivial⟩, ⟨⟨by kernel_rfl, by kernel_rfl⟩, trivial, trivial⟩⟩⟩, ⟨trivial, ⟨⟨by kernel_rfl, by kernel_rfl⟩, ⟨trivial, ⟨trivial, ⟨⟨by kernel_rfl, by kernel_rfl⟩, trivial, trivial⟩, trivial⟩, trivial⟩, ⟨trivial, trivial, ⟨⟨by kernel_rfl, by kernel_rfl⟩, trivial, trivial⟩⟩⟩, ⟨⟨by kernel_rfl, by kernel_rfl⟩, trivial, ⟨⟨by kernel_rfl, by kernel_rfl⟩, ⟨⟨by kernel_rfl, by kernel_rfl⟩, trivial, trivial⟩, trivial⟩⟩⟩⟩⟩, ⟨trivial, ⟨trivial, ⟨trivial, ⟨trivial, ⟨⟨by kernel_rfl, by kernel_rfl⟩, trivial, trivial⟩, ⟨⟨by kernel_rfl, by kernel_rfl⟩, trivial, trivial⟩⟩, ⟨trivial, ⟨⟨by kernel_rfl, by kernel_rfl⟩, trivial, trivial⟩, trivial⟩⟩, ⟨trivial, ⟨trivial, ⟨trivial, ⟨trivial, ⟨⟨by kernel_rfl, by kernel_rfl⟩, trivial, trivial⟩, trivial⟩, trivial⟩, ⟨trivial, ⟨⟨by kernel_rfl, by kernel_rfl⟩, trivial, trivial⟩, ⟨⟨by kernel_rfl, by kernel_rfl⟩, trivial, trivial⟩⟩⟩, ⟨trivial, trivial, ⟨⟨by kernel_rfl, by kernel_rfl⟩, trivial, trivial⟩⟩⟩⟩, ⟨trivial, ⟨⟨by kernel_rfl, by kernel_rfl⟩, ⟨trivial, ⟨trivial, ⟨⟨by kernel_rfl, by kernel_rfl⟩, ⟨⟨by kernel_rfl, by kernel_rfl⟩, trivial, trivial⟩, trivial⟩, ⟨⟨by kernel_rfl, by kernel_rfl⟩, trivial, trivial⟩⟩, ⟨⟨by kernel_rfl, by kernel_rfl⟩, ⟨⟨by kernel_rfl, by kernel_rfl⟩, trivial, trivial⟩, ⟨⟨by kernel_rfl, by kernel_rfl⟩, trivial, trivial⟩⟩⟩, ⟨trivial, ⟨trivial, ⟨⟨by kernel_rfl, by kernel_rfl⟩, trivial, trivial⟩, trivial⟩, trivial⟩⟩, ⟨trivial, ⟨trivial, trivial, ⟨trivial, trivial, ⟨⟨by kernel_rfl, by kernel_rfl⟩, trivial, trivial⟩⟩⟩, ⟨trivial, ⟨⟨by kernel_rfl, by kernel_rfl⟩, trivial, ⟨⟨by kernel_rfl, by kernel_rfl⟩, trivial, trivial⟩⟩, ⟨⟨by kernel_rfl, by kernel_rfl⟩, ⟨⟨by kernel_rfl, by kernel_rfl⟩, trivial, trivial⟩, trivial⟩⟩⟩⟩⟩⟩⟩
theorem Ft_ok : FnsOK Tryz.prog Ft.get? := fnsOK_of ⟨trivial, ⟨trivial, ⟨(fnAt Tryz.func3 (by kernel_rfl) (by kernel_rfl)), ⟨(fnAt Tryz.func7 (by kernel_rfl) (by kernel_rfl)), ⟨(fnAt Tryz.func15 (by kernel_rfl) (by kernel_rfl)), ⟨(fnAt Tryz.func31 (by kernel_rfl) (by kernel_rfl)), ⟨(fnAt Tryz.func63 (by kernel_rfl) (by kernel_rfl)), ⟨(fnAt Tryz.func127 (by kernel_rfl) (by kernel_rfl)), ⟨(fnAt Tryz.func255 (by kernel_rfl) (by kernel_rfl)), trivial, trivial⟩, trivial⟩, ⟨(fnAt Tryz.func191 (by kernel_rfl) (by kernel_rfl)), trivial, trivial⟩⟩, ⟨(fnAt Tryz.func95 (by kernel_rfl) (by kernel_rfl)), ⟨(fnAt Tryz.func159 (by kernel_rfl) (by kernel_rfl)), trivial, trivial⟩, ⟨(fnAt Tryz.func223 (by kernel_rfl) (by kernel_rfl)), trivial, trivial⟩⟩⟩, ⟨(fnAt Tryz.func47 (by kernel_rfl) (by kernel_rfl)), ⟨(fnAt Tryz.func79 (by kernel_rfl) (by kernel_rfl)), ⟨(fnAt Tryz.func143 (by kernel_rfl) (by kernel_rfl)), trivial, trivial⟩, ⟨(fnAt Tryz.func207 (by kernel_rfl) (by kernel_rfl)), trivial, trivial⟩⟩, ⟨(fnAt Tryz.func111 (by kernel_rfl) (by kernel_rfl)), ⟨(fnAt Tryz.func175 (by kernel_rfl) (by kernel_rfl)), trivial, trivial⟩, ⟨(fnAt Tryz.func239 (by kernel_rfl) (by kernel_rfl)), trivial, trivial⟩⟩⟩⟩, ⟨(fnAt Tryz.func23 (by kernel_rfl) (by kernel_rfl)), ⟨(fnAt Tryz.func39 (by kernel_rfl) (by kernel_rfl)), ⟨(fnAt Tryz.func71 (by kernel_rfl) (by kernel_rfl)), ⟨(fnAt Tryz.func135 (by kernel_rfl) (by kernel_rfl)), ⟨(fnAt Tryz.func263 (by kernel_rfl) (by kernel_rfl)), trivial, trivial⟩, trivial⟩, ⟨(fnAt Tryz.func199 (by kernel_rfl) (by kernel_rfl)), trivial, trivial⟩⟩, ⟨(fnAt Tryz.func103 (by kernel_rfl) (by kernel_rfl)), ⟨(fnAt Tryz.func167 (by kernel_rfl) (by kernel_rfl)), trivial, trivial⟩, ⟨(fnAt Tryz.func231 (by kernel_rfl) (by kernel_rfl)), trivial, trivial⟩⟩⟩, ⟨(fnAt Tryz.func55 (by kernel_rfl) (by kernel_rfl)), ⟨(fnAt Tryz.func87 (by kernel_rfl) (by kernel_rfl)), ⟨(fnAt Tryz.func151 (by kernel_rfl) (by kernel_rfl)), trivial, trivial⟩, ⟨(fnAt Tryz.func215 (by kernel_rfl) (by kernel_rfl)), trivial, trivial⟩⟩, ⟨(fnAt Tryz.func119 (by kernel_rfl) (by kernel_rfl)), ⟨(fnAt Tryz.func183 (by kernel_rfl) (by kernel_rfl)), trivial, trivial⟩, ⟨(fnAt Tryz.func247 (by kernel_rfl) (by kernel_rfl)), trivial, trivial⟩⟩⟩⟩⟩, ⟨(fnAt Tryz.func11 (by kernel_rfl) (by kernel_rfl)), ⟨(fnAt Tryz.func19 (by kernel_rfl) (by kernel_rfl)), ⟨(fnAt Tryz.func35 (by kernel_rfl) (by kernel_rfl)), ⟨(fnAt Tryz.func67 (by kernel_rfl) (by kernel_rfl)), ⟨(fnAt Tryz.func131 (by kernel_rfl) (by kernel_rfl)), ⟨(extAt1 (ps := #[3]) Tryz.func259 (by kernel_rfl) (by kernel_rfl) (by kernel_rfl) (by kernel_rfl)), trivial, trivial⟩, trivial⟩, ⟨(fnAt Tryz.func195 (by kernel_rfl) (by kernel_rfl)), trivial, trivial⟩⟩, ⟨(fnAt Tryz.func99 (by kernel_rfl) (by kernel_rfl)), ⟨(fnAt Tryz.func163 (by kernel_rfl) (by kernel_rfl)), trivial, trivial⟩, ⟨(fnAt Tryz.func227 (by kernel_rfl) (by kernel_rfl)), trivial, trivial⟩⟩⟩, ⟨(fnAt Tryz.func51 (by kernel_rfl) (by kernel_rfl)), ⟨(fnAt Tryz.func83 (by kernel_rfl) (by kernel_rfl)), ⟨(fnAt Tryz.func147 (by kernel_rfl) (by kernel_rfl)), trivial, trivial⟩, ⟨(fnAt Tryz.func211 (by kernel_rfl) (by kernel_rfl)), trivial, trivial⟩⟩, ⟨(fnAt Tryz.func115 (by kernel_rfl) (by kernel_rfl)), ⟨(fnAt Tryz.func179 (by kernel_rfl) (by kernel_rfl)), trivial, trivial⟩, ⟨(fnAt Tryz.func243 (by kernel_rfl) (by kernel_rfl)), trivial, trivial⟩⟩⟩⟩, ⟨(fnAt Tryz.func27 (by kernel_rfl) (by kernel_rfl)), ⟨(fnAt Tryz.func43 (by kernel_rfl) (by kernel_rfl)), ⟨(fnAt Tryz.func75 (by kernel_rfl) (by kernel_rfl)), ⟨(fnAt Tryz.func139 (by kernel_rfl) (by kernel_rfl)), ⟨(fnAt Tryz.func267 (by kernel_rfl) (by kernel_rfl)), trivial, trivial⟩, trivial⟩, ⟨(fnAt Tryz.func203 (by kernel_rfl) (by kernel_rfl)), trivial, trivial⟩⟩, ⟨(fnAt Tryz.func107 (by kernel_rfl) (by kernel_rfl)), ⟨(fnAt Tryz.func171 (by kernel_rfl) (by kernel_rfl)), trivial, trivial⟩, ⟨(fnAt Tryz.func235 (by kernel_rfl) (by kernel_rfl)), trivial, trivial⟩⟩⟩, ⟨(fnAt Tryz.func59 (by kernel_rfl) (by kernel_rfl)), ⟨(fnAt Tryz.func91 (by kernel_rfl) (by kernel_rfl)), ⟨(fnAt Tryz.func155 (by kernel_rfl) (by kernel_rfl)), trivial, trivial⟩, ⟨(fnAt Tryz.func219 (by kernel_rfl) (by kernel_rfl)), trivial, trivial⟩⟩, ⟨(fnAt Tryz.func123 (by kernel_rfl) (by kernel_rfl)), ⟨(fnAt Tryz.func187 (by kernel_rfl) (by kernel_rfl)), trivial, trivial⟩, ⟨(fnAt Tryz.func251 (by kernel_rfl) (by kernel_rfl)), trivial, trivial⟩⟩⟩⟩⟩⟩, ⟨(fnAt Tryz.func5 (by kernel_rfl) (by kernel_rfl)), ⟨(fnAt Tryz.func9 (by kernel_rfl) (by kernel_rfl)), ⟨(fnAt Tryz.func17 (by kernel_rfl) (by kernel_rfl)), ⟨(fnAt Tryz.func33 (by kernel_rfl) (by kernel_rfl)), ⟨(fnAt Tryz.func65 (by kernel_rfl) (by kernel_rfl)), ⟨(fnAt Tryz.func129 (by kernel_rfl) (by kernel_rfl)), ⟨(fnAt Tryz.func257 (by kernel_rfl) (by kernel_rfl)), trivial, trivial⟩, trivial⟩, ⟨(fnAt Tryz.func193 (by kernel_rfl) (by kernel_rfl)), trivial, trivial⟩⟩, ⟨(fnAt Tryz.func97 (by kernel_rfl) (by kernel_rfl)), ⟨(fnAt Tryz.func161 (by kernel_rfl) (by kernel_rfl)), trivial, trivial⟩, ⟨(fnAt Tryz.func225 (by kernel_rfl) (by kernel_rfl)), trivial, trivial⟩⟩⟩, ⟨(fnAt Tryz.func49 (by kernel_rfl) (by kernel_rfl)), ⟨(fnAt Tryz.func81 (by kernel_rfl) (by kernel_rfl)), ⟨(fnAt Tryz.func145 (by kernel_rfl) (by kernel_rfl)), trivial, trivial⟩, ⟨(fnAt Tryz.func209 (by kernel_rfl) (by kernel_rfl)), trivial, trivial⟩⟩, ⟨(fnAt Tryz.func113 (by kernel_rfl) (by kernel_rfl)), ⟨(fnAt Tryz.func177 (by kernel_rfl) (by kernel_rfl)), trivial, trivial⟩, ⟨(fnAt Tryz.func241 (by kernel_rfl) (by kernel_rfl)), trivial, trivial⟩⟩⟩⟩, ⟨(fnAt Tryz.func25 (by kernel_rfl) (by kernel_rfl)), ⟨(fnAt Tryz.func41 (by kernel_rfl) (by kernel_rfl)), ⟨(fnAt Tryz.func73 (by kernel_rfl) (by kernel_rfl)), ⟨(fnAt Tryz.func137 (by kernel_rfl) (by kernel_rfl)), ⟨(fnAt Tryz.func265 (by kernel_rfl) (by kernel_rfl)), trivial, trivial⟩, trivial⟩, ⟨(fnAt Tryz.func201 (by kernel_rfl) (by kernel_rfl)), trivial, trivial⟩⟩, ⟨(fnAt Tryz.func105 (by kernel_rfl) (by kernel_rfl)), ⟨(fnAt Tryz.func169 (by kernel_rfl) (by kernel_rfl)), trivial, trivial⟩, ⟨(fnAt Tryz.func233 (by kernel_rfl) (by kernel_rfl)), trivial, trivial⟩⟩⟩, ⟨(fnAt Tryz.func57 (by kernel_rfl) (by kernel_rfl)), ⟨(fnAt Tryz.func89 (by kernel_rfl) (by kernel_rfl)), ⟨(fnAt Tryz.func153 (by kernel_rfl) (by kernel_rfl)), trivial, trivial⟩, ⟨(fnAt Tryz.func217 (by kernel_rfl) (by kernel_rfl)), trivial, trivial⟩⟩, ⟨(fnAt Tryz.func121 (by kernel_rfl) (by kernel_rfl)), ⟨(fnAt Tryz.func185 (by kernel_rfl) (by kernel_rfl)), trivial, trivial⟩, ⟨(fnAt Tryz.func249 (by kernel_rfl) (by kernel_rfl)), trivial, trivial⟩⟩⟩⟩⟩, ⟨(fnAt Tryz.func13 (by kernel_rfl) (by kernel_rfl)), ⟨(fnAt Tryz.func21 (by kernel_rfl) (by kernel_rfl)), ⟨(fnAt Tryz.func37 (by kernel_rfl) (by kernel_rfl)), ⟨(fnAt Tryz.func69 (by kernel_rfl) (by kernel_rfl)), ⟨(fnAt Tryz.func133 (by kernel_rfl) (by kernel_rfl)), ⟨(fnAt Tryz.func261 (by kernel_rfl) (by kernel_rfl)), trivial, trivial⟩, trivial⟩, ⟨(fnAt Tryz.func197 (by kernel_rfl) (by kernel_rfl)), trivial, trivial⟩⟩, ⟨(fnAt Tryz.func101 (by kernel_rfl) (by kernel_rfl)), ⟨(fnAt Tryz.func165 (by kernel_rfl) (by kernel_rfl)), trivial, trivial⟩, ⟨(fnAt Tryz.func229 (by kernel_rfl) (by kernel_rfl)), trivial, trivial⟩⟩⟩, ⟨(fnAt Tryz.func53 (by kernel_rfl) (by kernel_rfl)), ⟨(fnAt Tryz.func85 (by kernel_rfl) (by kernel_rfl)), ⟨(fnAt Tryz.func149 (by kernel_rfl) (by kernel_rfl)), trivial, trivial⟩, ⟨(fnAt Tryz.func213 (by kernel_rfl) (by kernel_rfl)), trivial, trivial⟩⟩, ⟨(fnAt Tryz.func117 (by kernel_rfl) (by kernel_rfl)), ⟨(fnAt Tryz.func181 (by kernel_rfl) (by kernel_rfl)), trivial, trivial⟩, ⟨(fnAt Tryz.func245 (by kernel_rfl) (by kernel_rfl)), trivial, trivial⟩⟩⟩⟩, ⟨(fnAt Tryz.func29 (by kernel_rfl) (by kernel_rfl)), ⟨(fnAt Tryz.func45 (by kernel_rfl) (by kernel_rfl)), ⟨(fnAt Tryz.func77 (by kernel_rfl) (by kernel_rfl)), ⟨(fnAt Tryz.func141 (by kernel_rfl) (by kernel_rfl)), ⟨(fnAt Tryz.func269 (by kernel_rfl) (by kernel_rfl)), trivial, trivial⟩, trivial⟩, ⟨(fnAt Tryz.func205 (by kernel_rfl) (by kernel_rfl)), trivial, trivial⟩⟩, ⟨(fnAt Tryz.func109 (by kernel_rfl) (by kernel_rfl)), ⟨(fnAt Tryz.func173 (by kernel_rfl) (by kernel_rfl)), trivial, trivial⟩, ⟨(fnAt Tryz.func237 (by kernel_rfl) (by kernel_rfl)), trivial, trivial⟩⟩⟩, ⟨(fnAt Tryz.func61 (by kernel_rfl) (by kernel_rfl)), ⟨(fnAt Tryz.func93 (by kernel_rfl) (by kernel_rfl)), ⟨(fnAt Tryz.func157 (by kernel_rfl) (by kernel_rfl)), trivial, trivial⟩, ⟨(fnAt Tryz.func221 (by kernel_rfl) (by kernel_rfl)), trivial, trivial⟩⟩, ⟨(fnAt Tryz.func125 (by kernel_rfl) (by kernel_rfl)), ⟨(fnAt Tryz.func189 (by kernel_rfl) (by kernel_rfl)), trivial, trivial⟩, ⟨(fnAt Tryz.func253 (by kernel_rfl) (by kernel_rfl)), trivial, trivial⟩⟩⟩⟩⟩⟩⟩, ⟨trivial, ⟨(fnAt Tryz.func4 (by kernel_rfl) (by kernel_rfl)), ⟨(fnAt Tryz.func8 (by kernel_rfl) (by kernel_rfl)), ⟨(fnAt Tryz.func16 (by kernel_rfl) (by kernel_rfl)), ⟨(fnAt Tryz.func32 (by kernel_rfl) (by kernel_rfl)), ⟨(fnAt Tryz.func64 (by kernel_rfl) (by kernel_rfl)), ⟨(fnAt Tryz.func128 (by kernel_rfl) (by kernel_rfl)), ⟨(fnAt Tryz.func256 (by kernel_rfl) (by kernel_rfl)), trivial, trivial⟩, trivial⟩, ⟨(fnAt Tryz.func192 (by kernel_rfl) (by kernel_rfl)), trivial, trivial⟩⟩, ⟨(fnAt Tryz.func96 (by kernel_rfl) (by kernel_rfl)), ⟨(fnAt Tryz.func160 (by kernel_rfl) (by kernel_rfl)), trivial, trivial⟩, ⟨(fnAt Tryz.func224 (by kernel_rfl) (by kernel_rfl)), trivial, trivial⟩⟩⟩, ⟨(fnAt Tryz.func48 (by kernel_rfl) (by kernel_rfl)), ⟨(fnAt Tryz.func80 (by kernel_rfl) (by kernel_rfl)), ⟨(fnAt Tryz.func144 (by kernel_rfl) (by kernel_rfl)), trivial, trivial⟩, ⟨(fnAt Tryz.func208 (by kernel_rfl) (by kernel_rfl)), trivial, trivial⟩⟩, ⟨(fnAt Tryz.func112 (by kernel_rfl) (by kernel_rfl)), ⟨(fnAt Tryz.func176 (by kernel_rfl) (by kernel_rfl)), trivial, trivial⟩, ⟨(fnAt Tryz.func240 (by kernel_rfl) (by kernel_rfl)), trivial, trivial⟩⟩⟩⟩, ⟨(fnAt Tryz.func24 (by kernel_rfl) (by kernel_rfl)), ⟨(fnAt Tryz.func40 (by kernel_rfl) (by kernel_rfl)), ⟨(fnAt Tryz.func72 (by kernel_rfl) (by kernel_rfl)), ⟨(fnAt Tryz.func136 (by kernel_rfl) (by kernel_rfl)), ⟨(fnAt Tryz.func264 (by kernel_rfl) (by kernel_rfl)), trivial, trivial⟩, trivial⟩, ⟨(fnAt Tryz.func200 (by kernel_rfl) (by kernel_rfl)), trivial, trivial⟩⟩, ⟨(fnAt Tryz.func104 (by kernel_rfl) (by kernel_rfl)), ⟨(fnAt Tryz.func168 (by kernel_rfl) (by kernel_rfl)), trivial, trivial⟩, ⟨(fnAt Tryz.func232 (by kernel_rfl) (by kernel_rfl)), trivial, trivial⟩⟩⟩, ⟨(fnAt Tryz.func56 (by kernel_rfl) (by kernel_rfl)), ⟨(fnAt Tryz.func88 (by kernel_rfl) (by kernel_rfl)), ⟨(fnAt Tryz.func152 (by kernel_rfl) (by kernel_rfl)), trivial, trivial⟩, ⟨(fnAt Tryz.func216 (by kernel_rfl) (by kernel_rfl)), trivial, trivial⟩⟩, ⟨(fnAt Tryz.func120 (by kernel_rfl) (by kernel_rfl)), ⟨(fnAt Tryz.func184 (by kernel_rfl) (by kernel_rfl)), trivial, trivial⟩, ⟨(fnAt Tryz.func248 (by kernel_rfl) (by kernel_rfl)), trivial, trivial⟩⟩⟩⟩⟩, ⟨(fnAt Tryz.func12 (by kernel_rfl) (by kernel_rfl)), ⟨(fnAt Tryz.func20 (by kernel_rfl) (by kernel_rfl)), ⟨(fnAt Tryz.func36 (by kernel_rfl) (by kernel_rfl)), ⟨(fnAt Tryz.func68 (by kernel_rfl) (by kernel_rfl)), ⟨(fnAt Tryz.func132 (by kernel_rfl) (by kernel_rfl)), ⟨(fnAt Tryz.func260 (by kernel_rfl) (by kernel_rfl)), trivial, trivial⟩, trivial⟩, ⟨(fnAt Tryz.func196 (by kernel_rfl) (by kernel_rfl)), trivial, trivial⟩⟩, ⟨(fnAt Tryz.func100 (by kernel_rfl) (by kernel_rfl)), ⟨(fnAt Tryz.func164 (by kernel_rfl) (by kernel_rfl)), trivial, trivial⟩, ⟨(fnAt Tryz.func228 (by kernel_rfl) (by kernel_rfl)), trivial, trivial⟩⟩⟩, ⟨(fnAt Tryz.func52 (by kernel_rfl) (by kernel_rfl)), ⟨(fnAt Tryz.func84 (by kernel_rfl) (by kernel_rfl)), ⟨(fnAt Tryz.func148 (by kernel_rfl) (by kernel_rfl)), trivial, trivial⟩, ⟨(fnAt Tryz.func212 (by kernel_rfl) (by kernel_rfl)), trivial, trivial⟩⟩, ⟨(fnAt Tryz.func116 (by kernel_rfl) (by kernel_rfl)), ⟨(fnAt Tryz.func180 (by kernel_rfl) (by kernel_rfl)), trivial, trivial⟩, ⟨(fnAt Tryz.func244 (by kernel_rfl) (by kernel_rfl)), trivial, trivial⟩⟩⟩⟩, ⟨(fnAt Tryz.func28 (by kernel_rfl) (by kernel_rfl)), ⟨(fnAt Tryz.func44 (by kernel_rfl) (by kernel_rfl)), ⟨(fnAt Tryz.func76 (by kernel_rfl) (by kernel_rfl)), ⟨(fnAt Tryz.func140 (by kernel_rfl) (by kernel_rfl)), ⟨(fnAt Tryz.func268 (by kernel_rfl) (by kernel_rfl)), trivial, trivial⟩, trivial⟩, ⟨(fnAt Tryz.func204 (by kernel_rfl) (by kernel_rfl)), trivial, trivial⟩⟩, ⟨(fnAt Tryz.func108 (by kernel_rfl) (by kernel_rfl)), ⟨(fnAt Tryz.func172 (by kernel_rfl) (by kernel_rfl)), trivial, trivial⟩, ⟨(fnAt Tryz.func236 (by kernel_rfl) (by kernel_rfl)), trivial, trivial⟩⟩⟩, ⟨(fnAt Tryz.func60 (by kernel_rfl) (by kernel_rfl)), ⟨(fnAt Tryz.func92 (by kernel_rfl) (by kernel_rfl)), ⟨(fnAt Tryz.func156 (by kernel_rfl) (by kernel_rfl)), trivial, trivial⟩, ⟨(fnAt Tryz.func220 (by kernel_rfl) (by kernel_rfl)), trivial, trivial⟩⟩, ⟨(fnAt Tryz.func124 (by kernel_rfl) (by kernel_rfl)), ⟨(fnAt Tryz.func188 (by kernel_rfl) (by kernel_rfl)), trivial, trivial⟩, ⟨(fnAt Tryz.func252 (by kernel_rfl) (by kernel_rfl)), trivial, trivial⟩⟩⟩⟩⟩⟩, ⟨(fnAt Tryz.func6 (by kernel_rfl) (by kernel_rfl)), ⟨(fnAt Tryz.func10 (by kernel_rfl) (by kernel_rfl)), ⟨(fnAt Tryz.func18 (by kernel_rfl) (by kernel_rfl)), ⟨(fnAt Tryz.func34 (by kernel_rfl) (by kernel_rfl)), ⟨(fnAt Tryz.func66 (by kernel_rfl) (by kernel_rfl)), ⟨(fnAt Tryz.func130 (by kernel_rfl) (by kernel_rfl)), ⟨(extAt0 Tryz.func258 (by kernel_rfl) (by kernel_rfl) (by kernel_rfl) (by kernel_rfl)), trivial, trivial⟩, trivial⟩, ⟨(fnAt Tryz.func194 (by kernel_rfl) (by kernel_rfl)), trivial, trivial⟩⟩, ⟨(fnAt Tryz.func98 (by kernel_rfl) (by kernel_rfl)), ⟨(fnAt Tryz.func162 (by kernel_rfl) (by kernel_rfl)), trivial, trivial⟩, ⟨(fnAt Tryz.func226 (by kernel_rfl) (by kernel_rfl)), trivial, trivial⟩⟩⟩, ⟨(fnAt Tryz.func50 (by kernel_rfl) (by kernel_rfl)), ⟨(fnAt Tryz.func82 (by kernel_rfl) (by kernel_rfl)), ⟨(fnAt Tryz.func146 (by kernel_rfl) (by kernel_rfl)), trivial, trivial⟩, ⟨(fnAt Tryz.func210 (by kernel_rfl) (by kernel_rfl)), trivial, trivial⟩⟩, ⟨(fnAt Tryz.func114 (by kernel_rfl) (by kernel_rfl)), ⟨(fnAt Tryz.func178 (by kernel_rfl) (by kernel_rfl)), trivial, trivial⟩, ⟨(fnAt Tryz.func242 (by kernel_rfl) (by kernel_rfl)), trivial, trivial⟩⟩⟩⟩, ⟨(fnAt Tryz.func26 (by kernel_rfl) (by kernel_rfl)), ⟨(fnAt Tryz.func42 (by kernel_rfl) (by kernel_rfl)), ⟨(fnAt Tryz.func74 (by kernel_rfl) (by kernel_rfl)), ⟨(fnAt Tryz.func138 (by kernel_rfl) (by kernel_rfl)), ⟨(fnAt Tryz.func266 (by kernel_rfl) (by kernel_rfl)), trivial, trivial⟩, trivial⟩, ⟨(fnAt Tryz.func202 (by kernel_rfl) (by kernel_rfl)), trivial, trivial⟩⟩, ⟨(fnAt Tryz.func106 (by kernel_rfl) (by kernel_rfl)), ⟨(fnAt Tryz.func170 (by kernel_rfl) (by kernel_rfl)), trivial, trivial⟩, ⟨(fnAt Tryz.func234 (by kernel_rfl) (by kernel_rfl)), trivial, trivial⟩⟩⟩, ⟨(fnAt Tryz.func58 (by kernel_rfl) (by kernel_rfl)), ⟨(fnAt Tryz.func90 (by kernel_rfl) (by kernel_rfl)), ⟨(fnAt Tryz.func154 (by kernel_rfl) (by kernel_rfl)), trivial, trivial⟩, ⟨(fnAt Tryz.func218 (by kernel_rfl) (by kernel_rfl)), trivial, trivial⟩⟩, ⟨(fnAt Tryz.func122 (by kernel_rfl) (by kernel_rfl)), ⟨(fnAt Tryz.func186 (by kernel_rfl) (by kernel_rfl)), trivial, trivial⟩, ⟨(fnAt Tryz.func250 (by kernel_rfl) (by kernel_rfl)), trivial, trivial⟩⟩⟩⟩⟩, ⟨(fnAt Tryz.func14 (by kernel_rfl) (by kernel_rfl)), ⟨(fnAt Tryz.func22 (by kernel_rfl) (by kernel_rfl)), ⟨(fnAt Tryz.func38 (by kernel_rfl) (by kernel_rfl)), ⟨(fnAt Tryz.func70 (by kernel_rfl) (by kernel_rfl)), ⟨(fnAt Tryz.func134 (by kernel_rfl) (by kernel_rfl)), ⟨(fnAt Tryz.func262 (by kernel_rfl) (by kernel_rfl)), trivial, trivial⟩, trivial⟩, ⟨(fnAt Tryz.func198 (by kernel_rfl) (by kernel_rfl)), trivial, trivial⟩⟩, ⟨(fnAt Tryz.func102 (by kernel_rfl) (by kernel_rfl)), ⟨(fnAt Tryz.func166 (by kernel_rfl) (by kernel_rfl)), trivial, trivial⟩, ⟨(fnAt Tryz.func230 (by kernel_rfl) (by kernel_rfl)), trivial, trivial⟩⟩⟩, ⟨(fnAt Tryz.func54 (by kernel_rfl) (by kernel_rfl)), ⟨(fnAt Tryz.func86 (by kernel_rfl) (by kernel_rfl)), ⟨(fnAt Tryz.func150 (by kernel_rfl) (by kernel_rfl)), trivial, trivial⟩, ⟨(fnAt Tryz.func214 (by kernel_rfl) (by kernel_rfl)), trivial, trivial⟩⟩, ⟨(fnAt Tryz.func118 (by kernel_rfl) (by kernel_rfl)), ⟨(fnAt Tryz.func182 (by kernel_rfl) (by kernel_rfl)), trivial, trivial⟩, ⟨(fnAt Tryz.func246 (by kernel_rfl) (by kernel_rfl)), trivial, trivial⟩⟩⟩⟩, ⟨(fnAt Tryz.func30 (by kernel_rfl) (by kernel_rfl)), ⟨(fnAt Tryz.func46 (by kernel_rfl) (by kernel_rfl)), ⟨(fnAt Tryz.func78 (by kernel_rfl) (by kernel_rfl)), ⟨(fnAt Tryz.func142 (by kernel_rfl) (by kernel_rfl)), trivial, trivial⟩, ⟨(fnAt Tryz.func206 (by kernel_rfl) (by kernel_rfl)), trivial, trivial⟩⟩, ⟨(fnAt Tryz.func110 (by kernel_rfl) (by kernel_rfl)), ⟨(fnAt Tryz.func174 (by kernel_rfl) (by kernel_rfl)), trivial, trivial⟩, ⟨(fnAt Tryz.func238 (by kernel_rfl) (by kernel_rfl)), trivial, trivial⟩⟩⟩, ⟨(fnAt Tryz.func62 (by kernel_rfl) (by kernel_rfl)), ⟨(fnAt Tryz.func94 (by kernel_rfl) (by kernel_rfl)), ⟨(fnAt Tryz.func158 (by kernel_rfl) (by kernel_rfl)), trivial, trivial⟩, ⟨(fnAt Tryz.func222 (by kernel_rfl) (by kernel_rfl)), trivial, trivial⟩⟩, ⟨(fnAt Tryz.func126 (by kernel_rfl) (by kernel_rfl)), ⟨(fnAt Tryz.func190 (by kernel_rfl) (by kernel_rfl)), trivial, trivial⟩, ⟨(fnAt Tryz.func254 (by kernel_rfl) (by kernel_rfl)), trivial, trivial⟩⟩⟩⟩⟩⟩⟩⟩
end Go.Av
noncomputable section
namespace Go.Av
open Go Go.Proofs
set_option maxRecDepth 10000
abbrev strs (l : List (List Nat)) : DV := .sl 1 (l.map .str)
theorem get_ok {α : Type} {l : List α} {i : Nat} (h : i < l.length) : ∃ x, l[i]? = some x := ⟨l[i], by simp [h]⟩
theorem sameTexts0 (a b : List (List Nat)) (hal : a.length ≤ 1099511627776) : ACall Tryz.prog 41 [.d (strs a), .d (strs b)] [] (.d (.bool (decide (a = b)))) [] := by
  refine acall_of_run Et_ok (fnAt Tryz.func41 (by kernel_rfl) (by kernel_rfl) : FnAt _ _ (mkFn Tryz.f41 [])) rfl rfl ?_
  repeat (first
    | refine oX (frz := []) Et_ok ?_
    | refine oS ?_
    | refine RunOps.nil ?_
    | refine Run.region ?_
    | refine Run.seq ?_
    | refine Run.skip ?_
    | refine Run.block ?_
    | refine Run.exit ?_
    | refine Run.draw (frz := []) Et_ok (by kernel_rfl) ?_
    | refine eX ?_
    | refine eS ?_
    | refine eN ?_)
  refine Run.cond (by rfl) (fun h => ?_) (fun h => ?_)
  · have hne : a ≠ b := fun e => by subst e; simp at h
    repeat (first
      | refine oX (frz := []) Et_ok ?_
      | refine oS ?_
      | refine RunOps.nil ?_
      | refine Run.region ?_
      | refine Run.seq ?_
      | refine Run.skip ?_
      | refine Run.block ?_
      | refine Run.exit ?_
      | refine Run.draw (frz := []) Et_ok (by kernel_rfl) ?_
      | refine eX ?_
      | refine eS ?_
      | refine eN ?_)
    refine Run.ret ?_
    refine ⟨trivial, rfl, Eq.trans (b := some (.d (.bool false))) (by kernel_rfl) ?_⟩
    rw [decide_eq_false hne]
  · have hlen : a.length = b.length := by simp at h; omega
    repeat (first
      | refine oX (frz := []) Et_ok ?_
      | refine oS ?_
      | refine RunOps.nil ?_
      | refine Run.region ?_
      | refine Run.seq ?_
      | refine Run.skip ?_
      | refine Run.block ?_
      | refine Run.exit ?_
      | refine Run.draw (frz := []) Et_ok (by kernel_rfl) ?_
      | refine eX ?_
      | refine eS ?_
      | refine eN ?_)
    refine Run.loop (fun i : Nat => ⟨PT.ofList [(0, .d (strs a)), (1, .d (strs b)), (5, .d (.int .i64 i))], [], []⟩) (fun i => i ≤ a.length ∧ a.take i = b.take i) (fun i => a.length - i) 0 ⟨Nat.zero_le _, rfl⟩ (weak_of ⟨rfl, rfl, rfl, trivial⟩) (fun i hi => ?_)
    repeat (first
      | refine oX (frz := []) Et_ok ?_
      | refine oS ?_
      | refine RunOps.nil ?_
      | refine Run.region ?_
      | refine Run.seq ?_
      | refine Run.skip ?_
      | refine Run.block ?_
      | refine Run.exit ?_
      | refine Run.draw (frz := []) Et_ok (by kernel_rfl) ?_
      | refine eX ?_
      | refine eS ?_
      | refine eN ?_)
    refine Run.cond (by rfl) (fun h => ?_) (fun h => ?_)
    · have hlt : i < a.length := by simpa using h
      obtain ⟨x, hx⟩ := get_ok hlt
      obtain ⟨y, hy⟩ := get_ok (show i < b.length by omega)
      repeat (first
        | refine oX (frz := []) Et_ok ?_
        | refine oS ?_
        | refine RunOps.nil ?_
        | refine Run.region ?_
        | refine Run.seq ?_
        | refine Run.skip ?_
        | refine Run.block ?_
        | refine Run.exit ?_
        | refine Run.draw (frz := []) Et_ok (by kernel_rfl) ?_
        | refine eX ?_
        | refine eS ?_
        | refine eN ?_)
      first | refine oX (frz := []) (v := .d (.ep [.str x])) Et_ok ?_ (hf := (by first | (simp [inB] <;> fail) | (simp [inB]; omega))) (he := (by first | (simp [List.getD_eq_getElem?_getD, cellsD, hx] <;> fail) | fail)) | refine eX (v := .d (.ep [.str x])) ?_ (hf := (by first | (simp [inB] <;> fail) | (simp [inB]; omega))) (he := (by first | (simp [List.getD_eq_getElem?_getD, cellsD, hx] <;> fail) | fail))
      repeat (first
        | refine oX (frz := []) Et_ok ?_
        | refine oS ?_
        | refine RunOps.nil ?_
        | refine Run.region ?_
        | refine Run.seq ?_
        | refine Run.skip ?_
        | refine Run.block ?_
        | refine Run.exit ?_
        | refine Run.draw (frz := []) Et_ok (by kernel_rfl) ?_
        | refine eX ?_
        | refine eS ?_
        | refine eN ?_)
      first | refine oX (frz := []) (v := .d (.ep [.str y])) Et_ok ?_ (hf := (by first | (simp [inB] <;> fail) | (simp [inB]; omega))) (he := (by first | (simp [List.getD_eq_getElem?_getD, cellsD, hy] <;> fail) | fail)) | refine eX (v := .d (.ep [.str y])) ?_ (hf := (by first | (simp [inB] <;> fail) | (simp [inB]; omega))) (he := (by first | (simp [List.getD_eq_getElem?_getD, cellsD, hy] <;> fail) | fail))
      repeat (first
        | refine oX (frz := []) Et_ok ?_
        | refine oS ?_
        | refine RunOps.nil ?_
        | refine Run.region ?_
        | refine Run.seq ?_
        | refine Run.skip ?_
        | refine Run.block ?_
        | refine Run.exit ?_
        | refine Run.draw (frz := []) Et_ok (by kernel_rfl) ?_
        | refine eX ?_
        | refine eS ?_
        | refine eN ?_)
      refine Run.cond (by rfl) (fun h => ?_) (fun h => ?_)
      · have hne : a ≠ b := fun e => by subst e; rw [hx] at hy; cases hy; simp at h
        repeat (first
          | refine oX (frz := []) Et_ok ?_
          | refine oS ?_
          | refine RunOps.nil ?_
          | refine Run.region ?_
          | refine Run.seq ?_
          | refine Run.skip ?_
          | refine Run.block ?_
          | refine Run.exit ?_
          | refine Run.draw (frz := []) Et_ok (by kernel_rfl) ?_
          | refine eX ?_
          | refine eS ?_
          | refine eN ?_)
        refine Run.ret ?_
        refine ⟨trivial, rfl, Eq.trans (b := some (.d (.bool false))) (by kernel_rfl) ?_⟩
        rw [decide_eq_false hne]
      · have hxy : x = y := by simpa using h
        subst hxy
        refine Run.skip ?_
        refine Run.region ?_
        iterate 1 (first | refine oX (frz := []) Et_ok ?_ | refine eX ?_)
        first | refine oX (frz := []) (v := .d (.int .i64 (i + 1 : Nat))) Et_ok ?_ (he := (congrArg (fun n => AV.d (.int .i64 n)) (wrap_nat (n := i + 1) (by omega)))) | refine eX (v := .d (.int .i64 (i + 1 : Nat))) ?_ (he := (congrArg (fun n => AV.d (.int .i64 n)) (wrap_nat (n := i + 1) (by omega))))
        iterate 1 (first | refine oX (frz := []) Et_ok ?_ | refine eX ?_)
        refine RunOps.nil ?_
        refine ⟨i + 1, ⟨by omega, ?_⟩, by omega, weak_of ⟨rfl, rfl, rfl, trivial⟩⟩
        rw [List.take_add_one, List.take_add_one, hi.2, hx, hy]
    · have hge : i = a.length := by have := hi.1; simp at h; omega
      have hab : a = b := by have := hi.2; rw [hge, List.take_length, hlen, List.take_length] at this; exact this
      repeat (first
        | refine oX (frz := []) Et_ok ?_
        | refine oS ?_
        | refine RunOps.nil ?_
        | refine Run.region ?_
        | refine Run.seq ?_
        | refine Run.skip ?_
        | refine Run.block ?_
        | refine Run.exit ?_
        | refine Run.draw (frz := []) Et_ok (by kernel_rfl) ?_
        | refine eX ?_
        | refine eS ?_
        | refine eN ?_)
      refine Run.ret ?_
      refine ⟨trivial, rfl, Eq.trans (b := some (.d (.bool true))) (by kernel_rfl) ?_⟩
      rw [decide_eq_true hab]
theorem sameTexts (a b : List (List Nat)) (hal : a.length ≤ 1099511627776) : KnownCall Tryz.prog 41 [strs a, strs b] (.d (.bool (decide (a = b)))) := fun o => pure_call (k := 8) rfl (sameTexts0 a b hal) rfl o
end Go.Av
end
noncomputable section
namespace Go.Av
open Go Go.Proofs
set_option maxRecDepth 10000
structure GProd where
  left : Int
  right : List Int
structure Gram where
  k : Int
  tokens : List (List Nat)
  sep : List Nat
  names : List (List Nat)
  start : Int
  prods : List GProd
structure Fits (g : Gram) : Prop where
  tokens : g.tokens.length ≤ 1048576
  names : g.names.length ≤ 1048576
  prods : g.prods.length ≤ 1048576
  sep : g.sep.length ≤ 1048576
  tokenS : ∀ s ∈ g.tokens, s.length ≤ 1048576
  nameS : ∀ s ∈ g.names, s.length ≤ 1048576
  rights : ∀ p ∈ g.prods, p.right.length ≤ 1048576
end Go.Av
end
noncomputable section
namespace Go.Av
open Go Go.Proofs
set_option maxRecDepth 10000
end Go.Av
end
noncomputable section
namespace Go.Av
open Go Go.Proofs
set_option maxRecDepth 10000
end Go.Av
end
noncomputable section
namespace Go.Av
open Go Go.Proofs
set_option maxRecDepth 10000
def letterF (c : Int) : Bool := (decide (97 ≤ c) && decide (c ≤ 122)) || (decide (65 ≤ c) && decide (c ≤ 90))
def digitF (c : Int) : Bool := decide (48 ≤ c) && decide (c ≤ 57)
def badAt (s : List Nat) (i : Nat) : Prop := ∃ c : Nat, s[i]? = some c ∧ letterF c = false ∧ (i = 0 ∨ (digitF c = false ∧ (c : Int) ≠ 95))
open Classical in
def wordF (s : List Nat) : Int := if s = [] then 5 else if ∃ i, badAt s i then 3 else if 12 < s.length then 4 else 0
def wLook : List Nat := [108, 111, 111, 107, 97, 104, 101, 97, 100]
def wToken : List Nat := [116, 111, 107, 101, 110]
def wSep : List Nat := [115, 101, 112, 97, 114, 97, 116, 111, 114]
def wStart : List Nat := [115, 116, 97, 114, 116]
def languageF (s : List Nat) : Bool := decide (s = wLook ∨ s = wToken ∨ s = wSep ∨ s = wStart)
def nameF (s : List Nat) : Int := if wordF s = 0 ∧ languageF s = true then 12 else wordF s
theorem refLetter (c : Int) : KnownCall Tryz.prog 266 [.int .u8 c] (.d (.bool (letterF c))) := by
  refine knownE Et_ok (fnAt Tryz.func266 (by kernel_rfl) (by kernel_rfl) : FnAt _ _ (mkFn Tryz.f266 [])) ?_
  repeat' (first
    | refine Run.region ?_
    | refine Run.seq ?_
    | ((refine oB (frz := []) Et_ok (fun h => ?_) (fun h => ?_)) <;> (first | (exfalso; simp at h <;> fail) | (exfalso; simp at h; omega) | skip))
    | ((refine eB (fun h => ?_) (fun h => ?_)) <;> (first | (exfalso; simp at h <;> fail) | (exfalso; simp at h; omega) | skip))
    | refine oX (frz := []) Et_ok ?_
    | refine oS ?_
    | refine RunOps.nil ?_
    | refine Run.skip ?_
    | refine cT ?_
    | refine cF ?_
    | refine Run.block ?_
    | refine Run.exit ?_
    | refine Run.draw (frz := []) Et_ok (by kernel_rfl) ?_
    | refine eX ?_
    | refine eS ?_
    | refine eN ?_
    | (refine Run.ret ?_; (first | refine rB ?_ | refine rI ?_ | refine rA ?_ | refine rII ?_ | refine rSI ?_ | refine rT ?_ | refine rS ?_); first | done | (first | (simp_all [letterF]; done) | (simp_all [letterF]; omega)))
    | fail)
theorem letter (c : Int) : KnownCall Tryz.prog 260 [.int .i32 c] (.d (.bool (letterF c))) := by
  refine knownE Et_ok (fnAt Tryz.func260 (by kernel_rfl) (by kernel_rfl) : FnAt _ _ (mkFn Tryz.f260 [])) ?_
  repeat' (first
    | refine Run.region ?_
    | refine Run.seq ?_
    | ((refine oB (frz := []) Et_ok (fun h => ?_) (fun h => ?_)) <;> (first | (exfalso; simp at h <;> fail) | (exfalso; simp at h; omega) | skip))
    | ((refine eB (fun h => ?_) (fun h => ?_)) <;> (first | (exfalso; simp at h <;> fail) | (exfalso; simp at h; omega) | skip))
    | refine oX (frz := []) Et_ok ?_
    | refine oS ?_
    | refine RunOps.nil ?_
    | refine Run.skip ?_
    | refine cT ?_
    | refine cF ?_
    | refine Run.block ?_
    | refine Run.exit ?_
    | refine Run.draw (frz := []) Et_ok (by kernel_rfl) ?_
    | refine eX ?_
    | refine eS ?_
    | refine eN ?_
    | (refine Run.ret ?_; (first | refine rB ?_ | refine rI ?_ | refine rA ?_ | refine rII ?_ | refine rSI ?_ | refine rT ?_ | refine rS ?_); first | done | (first | (simp_all [letterF]; done) | (simp_all [letterF]; omega)))
    | fail)
theorem refDigit (c : Int) : KnownCall Tryz.prog 267 [.int .u8 c] (.d (.bool (digitF c))) := by
  refine knownE Et_ok (fnAt Tryz.func267 (by kernel_rfl) (by kernel_rfl) : FnAt _ _ (mkFn Tryz.f267 [])) ?_
  repeat' (first
    | refine Run.region ?_
    | refine Run.seq ?_
    | ((refine oB (frz := []) Et_ok (fun h => ?_) (fun h => ?_)) <;> (first | (exfalso; simp at h <;> fail) | (exfalso; simp at h; omega) | skip))
    | ((refine eB (fun h => ?_) (fun h => ?_)) <;> (first | (exfalso; simp at h <;> fail) | (exfalso; simp at h; omega) | skip))
    | refine oX (frz := []) Et_ok ?_
    | refine oS ?_
    | refine RunOps.nil ?_
    | refine Run.skip ?_
    | refine cT ?_
    | refine cF ?_
    | refine Run.block ?_
    | refine Run.exit ?_
    | refine Run.draw (frz := []) Et_ok (by kernel_rfl) ?_
    | refine eX ?_
    | refine eS ?_
    | refine eN ?_
    | (refine Run.ret ?_; (first | refine rB ?_ | refine rI ?_ | refine rA ?_ | refine rII ?_ | refine rSI ?_ | refine rT ?_ | refine rS ?_); first | done | (first | (simp_all [digitF]; done) | (simp_all [digitF]; omega)))
    | fail)
theorem digit (c : Int) : KnownCall Tryz.prog 261 [.int .i32 c] (.d (.bool (digitF c))) := by
  refine knownE Et_ok (fnAt Tryz.func261 (by kernel_rfl) (by kernel_rfl) : FnAt _ _ (mkFn Tryz.f261 [])) ?_
  repeat' (first
    | refine Run.region ?_
    | refine Run.seq ?_
    | ((refine oB (frz := []) Et_ok (fun h => ?_) (fun h => ?_)) <;> (first | (exfalso; simp at h <;> fail) | (exfalso; simp at h; omega) | skip))
    | ((refine eB (fun h => ?_) (fun h => ?_)) <;> (first | (exfalso; simp at h <;> fail) | (exfalso; simp at h; omega) | skip))
    | refine oX (frz := []) Et_ok ?_
    | refine oS ?_
    | refine RunOps.nil ?_
    | refine Run.skip ?_
    | refine cT ?_
    | refine cF ?_
    | refine Run.block ?_
    | refine Run.exit ?_
    | refine Run.draw (frz := []) Et_ok (by kernel_rfl) ?_
    | refine eX ?_
    | refine eS ?_
    | refine eN ?_
    | (refine Run.ret ?_; (first | refine rB ?_ | refine rI ?_ | refine rA ?_ | refine rII ?_ | refine rSI ?_ | refine rT ?_ | refine rS ?_); first | done | (first | (simp_all [digitF]; done) | (simp_all [digitF]; omega)))
    | fail)
theorem refLanguage (s : List Nat) : KnownCall Tryz.prog 250 [.str s] (.d (.bool (languageF s))) := by
  refine knownE Et_ok (fnAt Tryz.func250 (by kernel_rfl) (by kernel_rfl) : FnAt _ _ (mkFn Tryz.f250 [])) ?_
  repeat' (first
    | refine Run.region ?_
    | refine Run.seq ?_
    | ((refine oB (frz := []) Et_ok (fun h => ?_) (fun h => ?_)) <;> (first | (exfalso; simp at h <;> fail) | (exfalso; simp at h; omega) | skip))
    | ((refine eB (fun h => ?_) (fun h => ?_)) <;> (first | (exfalso; simp at h <;> fail) | (exfalso; simp at h; omega) | skip))
    | refine oX (frz := []) Et_ok ?_
    | refine oS ?_
    | refine RunOps.nil ?_
    | refine Run.skip ?_
    | refine cT ?_
    | refine cF ?_
    | refine Run.block ?_
    | refine Run.exit ?_
    | refine Run.draw (frz := []) Et_ok (by kernel_rfl) ?_
    | refine eX ?_
    | refine eS ?_
    | refine eN ?_
    | (refine Run.ret ?_; (first | refine rB ?_ | refine rI ?_ | refine rA ?_ | refine rII ?_ | refine rSI ?_ | refine rT ?_ | refine rS ?_); first | done | (first | (simp_all [languageF, wLook, wToken, wSep, wStart]; done)))
    | fail)
theorem wordF_bad {s : List Nat} (hs : s ≠ []) {i : Nat} (h : badAt s i) : wordF s = 3 := by
  unfold wordF
  rw [if_neg hs, if_pos ⟨i, h⟩]
theorem wordF_good {s : List Nat} (hs : s ≠ []) (h : ∀ i, ¬ badAt s i) : wordF s = if 12 < s.length then 4 else 0 := by
  unfold wordF
  rw [if_neg hs, if_neg (fun ⟨i, hi⟩ => h i hi)]
theorem refWord (s : List Nat) (hl : s.length ≤ 1099511627776) : KnownCall Tryz.prog 249 [.str s] (.d (.int .i64 (wordF s))) := by
  refine knownE Et_ok (fnAt Tryz.func249 (by kernel_rfl) (by kernel_rfl) : FnAt _ _ (mkFn Tryz.f249 [])) ?_
  repeat' (first
    | refine Run.region ?_
    | refine Run.seq ?_
    | ((refine oB (frz := []) Et_ok (fun h => ?_) (fun h => ?_)) <;> (first | (exfalso; simp at h <;> fail) | (exfalso; simp at h; omega) | skip))
    | ((refine eB (fun h => ?_) (fun h => ?_)) <;> (first | (exfalso; simp at h <;> fail) | (exfalso; simp at h; omega) | skip))
    | refine oX (frz := []) Et_ok ?_
    | refine oS ?_
    | refine RunOps.nil ?_
    | refine Run.skip ?_
    | refine cT ?_
    | refine cF ?_
    | refine Run.block ?_
    | refine Run.exit ?_
    | refine Run.draw (frz := []) Et_ok (by kernel_rfl) ?_
    | refine eX ?_
    | refine eS ?_
    | refine eN ?_
    | (refine Run.ret ?_; (first | refine rB ?_ | refine rI ?_ | refine rA ?_ | refine rII ?_ | refine rSI ?_ | refine rT ?_ | refine rS ?_); first | done | (simp_all [wordF]))
    | fail)
  have hs : s ≠ [] := by simpa using h
  refine Run.loop (fun i : Nat => ⟨PT.ofList [(0, .d (.str s)), (3, .d (.int .i64 i))], [], []⟩) (fun i => i ≤ s.length ∧ ∀ j, j < i → ¬ badAt s j) (fun i => s.length - i) 0 ⟨Nat.zero_le _, fun j hj => by omega⟩ (weak_of ⟨rfl, rfl, trivial⟩) (fun i hi => ?_)
  obtain ⟨hi1, hi2⟩ := hi
  rcases Nat.lt_or_ge i s.length with hlt | hge
  · obtain ⟨c, hc⟩ := get_ok hlt
    have hbad : badAt s i ↔ letterF c = false ∧ (i = 0 ∨ (digitF c = false ∧ (c : Int) ≠ 95)) := ⟨fun ⟨c', h1, h2⟩ => by rw [hc] at h1; cases h1; exact h2, fun h => ⟨c, hc, h⟩⟩
    repeat' (first
      | refine Run.region ?_
      | refine Run.seq ?_
      | ((refine oB (frz := []) Et_ok (fun h => ?_) (fun h => ?_)) <;> (first | (exfalso; simp at h <;> fail) | (exfalso; simp at h; omega) | skip))
      | ((refine eB (fun h => ?_) (fun h => ?_)) <;> (first | (exfalso; simp at h <;> fail) | (exfalso; simp at h; omega) | skip))
      | refine oX (frz := []) Et_ok ?_
      | refine oS ?_
      | refine RunOps.nil ?_
      | refine Run.skip ?_
      | refine cT ?_
      | refine cF ?_
      | refine Run.block ?_
      | refine Run.exit ?_
      | refine Run.draw (frz := []) Et_ok (by kernel_rfl) ?_
      | refine eX ?_
      | refine eS ?_
      | refine eN ?_
      | refine oX (frz := []) (v := .d (.int .u8 c)) Et_ok ?_ (hf := (by first | (simp [inB] <;> fail) | (simp [inB]; omega))) (he := (by first | (simp [List.getD_eq_getElem?_getD, cellsD, hc] <;> fail) | fail))
      | refine eX (v := .d (.int .u8 c)) ?_ (hf := (by first | (simp [inB] <;> fail) | (simp [inB]; omega))) (he := (by first | (simp [List.getD_eq_getElem?_getD, cellsD, hc] <;> fail) | fail))
      | ((refine oK (refLetter _) (fun h => ?_) (fun h => ?_)) <;> (first | (exfalso; simp at h <;> fail) | (exfalso; simp at h; omega) | skip))
      | refine oC (refLetter _) ?_
      | ((refine eK (refLetter _) (fun h => ?_) (fun h => ?_)) <;> (first | (exfalso; simp at h <;> fail) | (exfalso; simp at h; omega) | skip))
      | refine eC (refLetter _) ?_
      | ((refine oK (refDigit _) (fun h => ?_) (fun h => ?_)) <;> (first | (exfalso; simp at h <;> fail) | (exfalso; simp at h; omega) | skip))
      | refine oC (refDigit _) ?_
      | ((refine eK (refDigit _) (fun h => ?_) (fun h => ?_)) <;> (first | (exfalso; simp at h <;> fail) | (exfalso; simp at h; omega) | skip))
      | refine eC (refDigit _) ?_
      | (refine Run.ret ?_; (first | refine rB ?_ | refine rI ?_ | refine rA ?_ | refine rII ?_ | refine rSI ?_ | refine rT ?_ | refine rS ?_); first | done | (rw [wordF_bad hs (i := i) (hbad.2 (by simp_all))]))
      | (exact ⟨i + 1, ⟨by omega, fun j hj => by rcases Nat.lt_succ_iff_lt_or_eq.1 hj with h | h; exact hi2 j h; subst h; rw [hbad]; simp_all⟩, by omega, weak_of ⟨(by kernel_rfl), (inc_get (k := i) (by kernel_rfl) (by omega)), trivial⟩⟩)
      | fail)
  · have hge : i = s.length := by omega
    have hall : ∀ j, ¬ badAt s j := fun j hj => by
      by_cases hlt : j < i
      · exact hi2 j hlt hj
      · obtain ⟨c, h1, _⟩ := hj
        rw [List.getElem?_eq_none (by omega)] at h1; cases h1
    repeat' (first
      | refine Run.region ?_
      | refine Run.seq ?_
      | ((refine oB (frz := []) Et_ok (fun h => ?_) (fun h => ?_)) <;> (first | (exfalso; simp at h <;> fail) | (exfalso; simp at h; omega) | skip))
      | ((refine eB (fun h => ?_) (fun h => ?_)) <;> (first | (exfalso; simp at h <;> fail) | (exfalso; simp at h; omega) | skip))
      | refine oX (frz := []) Et_ok ?_
      | refine oS ?_
      | refine RunOps.nil ?_
      | refine Run.skip ?_
      | refine cT ?_
      | refine cF ?_
      | refine Run.block ?_
      | refine Run.exit ?_
      | refine Run.draw (frz := []) Et_ok (by kernel_rfl) ?_
      | refine eX ?_
      | refine eS ?_
      | refine eN ?_
      | (refine Run.ret ?_; (first | refine rB ?_ | refine rI ?_ | refine rA ?_ | refine rII ?_ | refine rSI ?_ | refine rT ?_ | refine rS ?_); first | done | (rw [wordF_good hs hall]; first | (simp_all [] <;> fail) | (simp_all []; omega)))
      | fail)
theorem word (s : List Nat) (hl : s.length ≤ 1099511627776) : KnownCall Tryz.prog 238 [.str s] (.d (.int .i64 (wordF s))) := by
  refine knownE Et_ok (fnAt Tryz.func238 (by kernel_rfl) (by kernel_rfl) : FnAt _ _ (mkFn Tryz.f238 [])) ?_
  repeat' (first
    | refine Run.region ?_
    | refine Run.seq ?_
    | ((refine oB (frz := []) Et_ok (fun h => ?_) (fun h => ?_)) <;> (first | (exfalso; simp at h <;> fail) | (exfalso; simp at h; omega) | skip))
    | ((refine eB (fun h => ?_) (fun h => ?_)) <;> (first | (exfalso; simp at h <;> fail) | (exfalso; simp at h; omega) | skip))
    | refine oX (frz := []) Et_ok ?_
    | refine oS ?_
    | refine RunOps.nil ?_
    | refine Run.skip ?_
    | refine cT ?_
    | refine cF ?_
    | refine Run.block ?_
    | refine Run.exit ?_
    | refine Run.draw (frz := []) Et_ok (by kernel_rfl) ?_
    | refine eX ?_
    | refine eS ?_
    | refine eN ?_
    | (refine Run.ret ?_; (first | refine rB ?_ | refine rI ?_ | refine rA ?_ | refine rII ?_ | refine rSI ?_ | refine rT ?_ | refine rS ?_); first | done | (simp_all [wordF]))
    | fail)
  have hs : s ≠ [] := by simpa using h
  refine Run.loop (fun i : Nat => ⟨PT.ofList [(0, .d (.str s)), (8, .bp 0 0)], [.sit s i], []⟩) (fun i => i ≤ s.length ∧ ∀ j, j < i → ¬ badAt s j) (fun i => s.length - i) 0 ⟨Nat.zero_le _, fun j hj => by omega⟩ (weak_of ⟨rfl, rfl, trivial⟩) (fun i hi => ?_)
  obtain ⟨hi1, hi2⟩ := hi
  rcases Nat.lt_or_ge i s.length with hlt | hge
  · obtain ⟨c, hc⟩ := get_ok hlt
    have hbad : badAt s i ↔ letterF c = false ∧ (i = 0 ∨ (digitF c = false ∧ (c : Int) ≠ 95)) := ⟨fun ⟨c', h1, h2⟩ => by rw [hc] at h1; cases h1; exact h2, fun h => ⟨c, hc, h⟩⟩
    rcases Nat.lt_or_ge c 128 with h8 | h8
    · have hd := decL_ascii hc h8
      repeat' (first
        | refine Run.region ?_
        | refine Run.seq ?_
        | ((refine oB (frz := []) Et_ok (fun h => ?_) (fun h => ?_)) <;> (first | (exfalso; simp at h <;> fail) | (exfalso; simp at h; omega) | skip))
        | ((refine eB (fun h => ?_) (fun h => ?_)) <;> (first | (exfalso; simp at h <;> fail) | (exfalso; simp at h; omega) | skip))
        | refine oX (frz := []) Et_ok ?_
        | refine oS ?_
        | refine RunOps.nil ?_
        | refine Run.skip ?_
        | refine cT ?_
        | refine cF ?_
        | refine Run.block ?_
        | refine Run.exit ?_
        | refine Run.draw (frz := []) Et_ok (by kernel_rfl) ?_
        | refine eX ?_
        | refine eS ?_
        | refine eN ?_
        | refine RunOps.next Et_ok (by rfl) (by rfl) (by rfl) hlt hd (by rfl) (by rfl) (by rfl) ?_
        | ((refine oK (letter _) (fun h => ?_) (fun h => ?_)) <;> (first | (exfalso; simp at h <;> fail) | (exfalso; simp at h; omega) | skip))
        | refine oC (letter _) ?_
        | ((refine eK (letter _) (fun h => ?_) (fun h => ?_)) <;> (first | (exfalso; simp at h <;> fail) | (exfalso; simp at h; omega) | skip))
        | refine eC (letter _) ?_
        | ((refine oK (digit _) (fun h => ?_) (fun h => ?_)) <;> (first | (exfalso; simp at h <;> fail) | (exfalso; simp at h; omega) | skip))
        | refine oC (digit _) ?_
        | ((refine eK (digit _) (fun h => ?_) (fun h => ?_)) <;> (first | (exfalso; simp at h <;> fail) | (exfalso; simp at h; omega) | skip))
        | refine eC (digit _) ?_
        | (refine Run.ret ?_; (first | refine rB ?_ | refine rI ?_ | refine rA ?_ | refine rII ?_ | refine rSI ?_ | refine rT ?_ | refine rS ?_); first | done | (rw [wordF_bad hs (i := i) (hbad.2 (by simp_all))]))
        | (exact ⟨i + 1, ⟨by omega, fun j hj => by rcases Nat.lt_succ_iff_lt_or_eq.1 hj with h | h; exact hi2 j h; subst h; rw [hbad]; simp_all⟩, by omega, weak_of' (by rfl) rfl ⟨(by kernel_rfl), (by kernel_rfl), trivial⟩⟩)
        | fail)
    · have hd := decL_high hc h8
      obtain ⟨r, n, hrn⟩ : ∃ r n, decL s i = (r, n) := ⟨_, _, rfl⟩
      rw [hrn] at hd
      have hb : badAt s i := hbad.2 ⟨by simp [letterF]; omega, .inr ⟨by simp [digitF]; omega, by omega⟩⟩
      have hr1 : letterF r = false := by simp [letterF]; simp at hd; omega
      have hr2 : digitF r = false := by simp [digitF]; simp at hd; omega
      have hr3 : (r : Int) ≠ 95 := by simp at hd; omega
      repeat' (first
        | refine Run.region ?_
        | refine Run.seq ?_
        | ((refine oB (frz := []) Et_ok (fun h => ?_) (fun h => ?_)) <;> (first | (exfalso; simp at h <;> fail) | (exfalso; simp at h; omega) | skip))
        | ((refine eB (fun h => ?_) (fun h => ?_)) <;> (first | (exfalso; simp at h <;> fail) | (exfalso; simp at h; omega) | skip))
        | refine oX (frz := []) Et_ok ?_
        | refine oS ?_
        | refine RunOps.nil ?_
        | refine Run.skip ?_
        | refine cT ?_
        | refine cF ?_
        | refine Run.block ?_
        | refine Run.exit ?_
        | refine Run.draw (frz := []) Et_ok (by kernel_rfl) ?_
        | refine eX ?_
        | refine eS ?_
        | refine eN ?_
        | refine RunOps.next Et_ok (by rfl) (by rfl) (by rfl) hlt hrn (by rfl) (by rfl) (by rfl) ?_
        | ((refine oK (letter _) (fun h => ?_) (fun h => ?_)) <;> (first | (exfalso; simp at h <;> fail) | (exfalso; simp at h; omega) | skip))
        | refine oC (letter _) ?_
        | ((refine eK (letter _) (fun h => ?_) (fun h => ?_)) <;> (first | (exfalso; simp at h <;> fail) | (exfalso; simp at h; omega) | skip))
        | refine eC (letter _) ?_
        | ((refine oK (digit _) (fun h => ?_) (fun h => ?_)) <;> (first | (exfalso; simp at h <;> fail) | (exfalso; simp at h; omega) | skip))
        | refine oC (digit _) ?_
        | ((refine eK (digit _) (fun h => ?_) (fun h => ?_)) <;> (first | (exfalso; simp at h <;> fail) | (exfalso; simp at h; omega) | skip))
        | refine eC (digit _) ?_
        | (refine Run.ret ?_; (first | refine rB ?_ | refine rI ?_ | refine rA ?_ | refine rII ?_ | refine rSI ?_ | refine rT ?_ | refine rS ?_); first | done | (rw [wordF_bad hs (i := i) hb]))
        | (exfalso; simp_all)
        | fail)
  · have hge : i = s.length := by omega
    have hall : ∀ j, ¬ badAt s j := fun j hj => by
      by_cases hlt : j < i
      · exact hi2 j hlt hj
      · obtain ⟨c, h1, _⟩ := hj
        rw [List.getElem?_eq_none (by omega)] at h1; cases h1
    repeat' (first
      | refine Run.region ?_
      | refine Run.seq ?_
      | ((refine oB (frz := []) Et_ok (fun h => ?_) (fun h => ?_)) <;> (first | (exfalso; simp at h <;> fail) | (exfalso; simp at h; omega) | skip))
      | ((refine eB (fun h => ?_) (fun h => ?_)) <;> (first | (exfalso; simp at h <;> fail) | (exfalso; simp at h; omega) | skip))
      | refine oX (frz := []) Et_ok ?_
      | refine oS ?_
      | refine RunOps.nil ?_
      | refine Run.skip ?_
      | refine cT ?_
      | refine cF ?_
      | refine Run.block ?_
      | refine Run.exit ?_
      | refine Run.draw (frz := []) Et_ok (by kernel_rfl) ?_
      | refine eX ?_
      | refine eS ?_
      | refine eN ?_
      | refine RunOps.nextEnd Et_ok (by rfl) (by rfl) (by rfl) (Nat.le_of_eq hge.symm) (by rfl) (by rfl) ?_
      | (refine Run.ret ?_; (first | refine rB ?_ | refine rI ?_ | refine rA ?_ | refine rII ?_ | refine rSI ?_ | refine rT ?_ | refine rS ?_); first | done | (rw [wordF_good hs hall]; first | (simp_all [] <;> fail) | (simp_all []; omega)))
      | fail)
theorem refCheck03 (s : List Nat) (hl : s.length ≤ 1099511627776) : KnownCall Tryz.prog 224 [.str s] (.d (.int .i64 (nameF s))) := by
  refine knownE Et_ok (fnAt Tryz.func224 (by kernel_rfl) (by kernel_rfl) : FnAt _ _ (mkFn Tryz.f224 [])) ?_
  repeat' (first
    | refine Run.region ?_
    | refine Run.seq ?_
    | ((refine oB (frz := []) Et_ok (fun h => ?_) (fun h => ?_)) <;> (first | (exfalso; simp at h <;> fail) | (exfalso; simp at h; omega) | skip))
    | ((refine eB (fun h => ?_) (fun h => ?_)) <;> (first | (exfalso; simp at h <;> fail) | (exfalso; simp at h; omega) | skip))
    | refine oX (frz := []) Et_ok ?_
    | refine oS ?_
    | refine RunOps.nil ?_
    | refine Run.skip ?_
    | refine cT ?_
    | refine cF ?_
    | refine Run.block ?_
    | refine Run.exit ?_
    | refine Run.draw (frz := []) Et_ok (by kernel_rfl) ?_
    | refine eX ?_
    | refine eS ?_
    | refine eN ?_
    | ((refine oK (refWord _ hl) (fun h => ?_) (fun h => ?_)) <;> (first | (exfalso; simp at h <;> fail) | (exfalso; simp at h; omega) | skip))
    | refine oC (refWord _ hl) ?_
    | ((refine eK (refWord _ hl) (fun h => ?_) (fun h => ?_)) <;> (first | (exfalso; simp at h <;> fail) | (exfalso; simp at h; omega) | skip))
    | refine eC (refWord _ hl) ?_
    | ((refine oK (refLanguage _) (fun h => ?_) (fun h => ?_)) <;> (first | (exfalso; simp at h <;> fail) | (exfalso; simp at h; omega) | skip))
    | refine oC (refLanguage _) ?_
    | ((refine eK (refLanguage _) (fun h => ?_) (fun h => ?_)) <;> (first | (exfalso; simp at h <;> fail) | (exfalso; simp at h; omega) | skip))
    | refine eC (refLanguage _) ?_
    | (refine Run.ret ?_; (first | refine rB ?_ | refine rI ?_ | refine rA ?_ | refine rII ?_ | refine rSI ?_ | refine rT ?_ | refine rS ?_); first | done | (first | (simp_all [nameF] <;> fail) | (simp_all [nameF]; omega)))
    | fail)
end Go.Av
end
noncomputable section
namespace Go.Av
open Go Go.Proofs
set_option maxRecDepth 10000
theorem all_succ {p : Nat → Prop} {i : Nat} (h : ∀ j, j < i → p j) (h' : p i) : ∀ j, j < i + 1 → p j := fun j hj => by
  rcases Nat.lt_succ_iff_lt_or_eq.1 hj with h1 | h1
  · exact h j h1
  · exact h1 ▸ h'
def findF (l : List (List Nat)) (s : List Nat) : Int := if s ∈ l then (l.idxOf s : Nat) else -1
theorem findF_at {l : List (List Nat)} {s : List Nat} {i : Nat} (h : l[i]? = some s) (hb : ∀ j, j < i → l[j]? ≠ some s) : findF l s = i := by
  have hm : s ∈ l := List.mem_of_getElem? h
  have hi : i < l.length := (List.getElem?_eq_some_iff.1 h).1
  have h1 : l.idxOf s < l.length := List.idxOf_lt_length_iff.2 hm
  have h2 : l[l.idxOf s]? = some s := by rw [List.getElem?_eq_getElem h1, List.getElem_idxOf h1]
  have h3 : ¬ l.idxOf s < i := fun hlt => hb _ hlt h2
  have h4 : ¬ i < l.idxOf s := fun hlt => by
    have := List.not_of_lt_findIdx hlt
    have e : l[i] = s := (List.getElem?_eq_some_iff.1 h).2
    simp [e] at this
  rw [findF, if_pos hm]; omega
theorem findF_none {l : List (List Nat)} {s : List Nat} (hb : ∀ j, j < l.length → l[j]? ≠ some s) : findF l s = -1 := by
  rw [findF, if_neg]
  intro hm
  obtain ⟨i, hi, e⟩ := List.getElem_of_mem hm
  exact hb i hi (by rw [List.getElem?_eq_getElem hi, e])
theorem index (l : List (List Nat)) (s : List Nat) (hl : l.length ≤ 1099511627776) : KnownCall Tryz.prog 165 [strs l, .str s] (.d (.int .i64 (findF l s))) := by
  refine knownE Et_ok (fnAt Tryz.func165 (by kernel_rfl) (by kernel_rfl) : FnAt _ _ (mkFn Tryz.f165 [])) ?_
  repeat' (first
    | refine Run.region ?_
    | refine Run.seq ?_
    | ((refine oB (frz := []) Et_ok (fun h => ?_) (fun h => ?_)) <;> (first | (exfalso; simp at h <;> fail) | (exfalso; simp at h; omega) | skip))
    | ((refine eB (fun h => ?_) (fun h => ?_)) <;> (first | (exfalso; simp at h <;> fail) | (exfalso; simp at h; omega) | skip))
    | refine oX (frz := []) Et_ok ?_
    | refine oS ?_
    | refine RunOps.nil ?_
    | refine Run.skip ?_
    | refine cT ?_
    | refine cF ?_
    | refine Run.block ?_
    | refine Run.exit ?_
    | refine Run.draw (frz := []) Et_ok (by kernel_rfl) ?_
    | refine eX ?_
    | refine eS ?_
    | refine eN ?_
    | (refine Run.ret ?_; (first | refine rB ?_ | refine rI ?_ | refine rA ?_ | refine rII ?_ | refine rSI ?_ | refine rT ?_ | refine rS ?_); first | done | (skip))
    | fail)
  refine Run.loop (fun i : Nat => ⟨PT.ofList [(7, .d (.int .i64 ((l.map DV.str).length : Nat))), (0, .d (strs l)), (1, .d (.str s)), (8, .d (.int .i64 i))], [], []⟩) (fun i => i ≤ l.length ∧ ∀ j, j < i → l[j]? ≠ some s) (fun i => l.length - i) 0 ⟨Nat.zero_le _, fun j hj => by omega⟩ (weak_of (by repeat' (first | exact trivial | refine ⟨rfl, ?_⟩))) (fun i hi => ?_)
  obtain ⟨hi1, hi2⟩ := hi
  rcases Nat.lt_or_ge i l.length with hlt | hge
  · obtain ⟨x, hx⟩ := get_ok hlt
    repeat' (first
      | refine Run.region ?_
      | refine Run.seq ?_
      | ((refine oB (frz := []) Et_ok (fun h => ?_) (fun h => ?_)) <;> (first | (exfalso; simp at h <;> fail) | (exfalso; simp at h; omega) | skip))
      | ((refine eB (fun h => ?_) (fun h => ?_)) <;> (first | (exfalso; simp at h <;> fail) | (exfalso; simp at h; omega) | skip))
      | refine oX (frz := []) Et_ok ?_
      | refine oS ?_
      | refine RunOps.nil ?_
      | refine Run.skip ?_
      | refine cT ?_
      | refine cF ?_
      | refine Run.block ?_
      | refine Run.exit ?_
      | refine Run.draw (frz := []) Et_ok (by kernel_rfl) ?_
      | refine eX ?_
      | refine eS ?_
      | refine eN ?_
      | refine oX (frz := []) (v := .d (.ep [.str x])) Et_ok ?_ (hf := (by first | (simp [inB] <;> fail) | (simp [inB]; omega))) (he := (by first | (simp [List.getD_eq_getElem?_getD, cellsD, hx] <;> fail) | fail))
      | refine eX (v := .d (.ep [.str x])) ?_ (hf := (by first | (simp [inB] <;> fail) | (simp [inB]; omega))) (he := (by first | (simp [List.getD_eq_getElem?_getD, cellsD, hx] <;> fail) | fail))
      | (refine Run.ret ?_; (first | refine rB ?_ | refine rI ?_ | refine rA ?_ | refine rII ?_ | refine rSI ?_ | refine rT ?_ | refine rS ?_); first | done | (rw [findF_at (i := i) (by simp_all) hi2]))
      | (exact ⟨i + 1, ⟨by omega, all_succ hi2 (by rw [hx]; intro e; simp_all)⟩, by omega, weak_of (by repeat' (first | exact trivial | refine ⟨rfl, ?_⟩ | refine ⟨(inc_get (k := i) (by kernel_rfl) (by omega)), ?_⟩))⟩)
      | fail)
  · have hge : i = l.length := by omega
    repeat' (first
      | refine Run.region ?_
      | refine Run.seq ?_
      | ((refine oB (frz := []) Et_ok (fun h => ?_) (fun h => ?_)) <;> (first | (exfalso; simp at h <;> fail) | (exfalso; simp at h; omega) | skip))
      | ((refine eB (fun h => ?_) (fun h => ?_)) <;> (first | (exfalso; simp at h <;> fail) | (exfalso; simp at h; omega) | skip))
      | refine oX (frz := []) Et_ok ?_
      | refine oS ?_
      | refine RunOps.nil ?_
      | refine Run.skip ?_
      | refine cT ?_
      | refine cF ?_
      | refine Run.block ?_
      | refine Run.exit ?_
      | refine Run.draw (frz := []) Et_ok (by kernel_rfl) ?_
      | refine eX ?_
      | refine eS ?_
      | refine eN ?_
      | (refine Run.ret ?_; (first | refine rB ?_ | refine rI ?_ | refine rA ?_ | refine rII ?_ | refine rSI ?_ | refine rT ?_ | refine rS ?_); first | done | (rw [findF_none (fun j hj => hi2 j (by omega))]))
      | fail)
theorem contains (l : List (List Nat)) (s : List Nat) (hl : l.length ≤ 1099511627776) : KnownCall Tryz.prog 125 [strs l, .str s] (.d (.bool (decide (s ∈ l)))) := by
  refine knownE Et_ok (fnAt Tryz.func125 (by kernel_rfl) (by kernel_rfl) : FnAt _ _ (mkFn Tryz.f125 [])) ?_
  repeat' (first
    | refine Run.region ?_
    | refine Run.seq ?_
    | ((refine oB (frz := []) Et_ok (fun h => ?_) (fun h => ?_)) <;> (first | (exfalso; simp at h <;> fail) | (exfalso; simp at h; omega) | skip))
    | ((refine eB (fun h => ?_) (fun h => ?_)) <;> (first | (exfalso; simp at h <;> fail) | (exfalso; simp at h; omega) | skip))
    | refine oX (frz := []) Et_ok ?_
    | refine oS ?_
    | refine RunOps.nil ?_
    | refine Run.skip ?_
    | refine cT ?_
    | refine cF ?_
    | refine Run.block ?_
    | refine Run.exit ?_
    | refine Run.draw (frz := []) Et_ok (by kernel_rfl) ?_
    | refine eX ?_
    | refine eS ?_
    | refine eN ?_
    | ((refine oK (index _ _ hl) (fun h => ?_) (fun h => ?_)) <;> (first | (exfalso; simp at h <;> fail) | (exfalso; simp at h; omega) | skip))
    | refine oC (index _ _ hl) ?_
    | ((refine eK (index _ _ hl) (fun h => ?_) (fun h => ?_)) <;> (first | (exfalso; simp at h <;> fail) | (exfalso; simp at h; omega) | skip))
    | refine eC (index _ _ hl) ?_
    | (refine Run.ret ?_; (first | refine rB ?_ | refine rI ?_ | refine rA ?_ | refine rII ?_ | refine rSI ?_ | refine rT ?_ | refine rS ?_); first | done | (by_cases hm : s ∈ l <;> (first | (simp_all [findF] <;> fail) | (simp_all [findF]; omega))))
    | fail)
end Go.Av
end
noncomputable section
namespace Go.Av
open Go Go.Proofs
set_option maxRecDepth 10000
abbrev wordsA : List AV := [.d (.str wLook), .d (.str wToken), .d (.str wSep), .d (.str wStart)]
theorem indexW (s : List Nat) : ACall Tryz.prog 165 [.bs 0 0 4 4, .d (.str s)] [.box wordsA] (.d (.int .i64 (findF [wLook, wToken, wSep, wStart] s))) [.box wordsA] := by
  refine acall_of_run Et_ok (fnAt Tryz.func165 (by kernel_rfl) (by kernel_rfl) : FnAt _ _ (mkFn Tryz.f165 [])) rfl rfl ?_
  repeat' (first
    | refine Run.region ?_
    | refine Run.seq ?_
    | ((refine oB (frz := []) Et_ok (fun h => ?_) (fun h => ?_)) <;> (first | (exfalso; simp at h <;> fail) | (exfalso; simp at h; omega) | skip))
    | ((refine eB (fun h => ?_) (fun h => ?_)) <;> (first | (exfalso; simp at h <;> fail) | (exfalso; simp at h; omega) | skip))
    | refine oX (frz := []) Et_ok ?_
    | refine oS ?_
    | refine RunOps.nil ?_
    | refine Run.skip ?_
    | refine cT ?_
    | refine cF ?_
    | refine Run.block ?_
    | refine Run.exit ?_
    | refine Run.draw (frz := []) Et_ok (by kernel_rfl) ?_
    | refine eX ?_
    | refine eS ?_
    | refine eN ?_
    | (refine Run.ret ?_; (first | refine rB ?_ | refine rI ?_ | refine rA ?_ | refine rII ?_ | refine rSI ?_ | refine rT ?_ | refine rS ?_); first | done | (skip))
    | fail)
  refine Run.loop (fun i : Nat => ⟨PT.ofList [(0, .bs 0 0 4 4), (1, .d (.str s)), (7, .d (.int .i64 4)), (8, .d (.int .i64 i))], [.box wordsA], []⟩) (fun i => i ≤ 4 ∧ ∀ j, j < i → [wLook, wToken, wSep, wStart][j]? ≠ some s) (fun i => 4 - i) 0 ⟨Nat.zero_le _, fun j hj => by omega⟩ (weak_of (by repeat' (first | exact trivial | refine ⟨rfl, ?_⟩))) (fun i hi => ?_)
  obtain ⟨hi1, hi2⟩ := hi
  have hcase : i = 0 ∨ i = 1 ∨ i = 2 ∨ i = 3 ∨ i = 4 := by omega
  rcases hcase with h | h | h | h | h <;> subst h
  · repeat' (first
      | refine Run.region ?_
      | refine Run.seq ?_
      | ((refine oB (frz := []) Et_ok (fun h => ?_) (fun h => ?_)) <;> (first | (exfalso; simp at h <;> fail) | (exfalso; simp at h; omega) | skip))
      | ((refine eB (fun h => ?_) (fun h => ?_)) <;> (first | (exfalso; simp at h <;> fail) | (exfalso; simp at h; omega) | skip))
      | refine oX (frz := []) Et_ok ?_
      | refine oS ?_
      | refine RunOps.nil ?_
      | refine Run.skip ?_
      | refine cT ?_
      | refine cF ?_
      | refine Run.block ?_
      | refine Run.exit ?_
      | refine Run.draw (frz := []) Et_ok (by kernel_rfl) ?_
      | refine eX ?_
      | refine eS ?_
      | refine eN ?_
      | (refine Run.ret ?_; (first | refine rB ?_ | refine rI ?_ | refine rA ?_ | refine rII ?_ | refine rSI ?_ | refine rT ?_ | refine rS ?_); first | done | (skip))
      | (exact ⟨1, ⟨by omega, all_succ hi2 (fun e => by simp at e; subst e; simp at h)⟩, by omega, weak_of (by repeat' (first | exact trivial | refine ⟨rfl, ?_⟩))⟩)
      | fail)
    have hs : s = wLook := by simpa using h
    refine Run.ret ?_
    refine ⟨trivial, rfl, Eq.trans (b := some (.d (.int .i64 0))) (by rfl) ?_⟩
    rw [findF_at (i := 0) (by rw [hs]; rfl) hi2]; rfl
  · repeat' (first
      | refine Run.region ?_
      | refine Run.seq ?_
      | ((refine oB (frz := []) Et_ok (fun h => ?_) (fun h => ?_)) <;> (first | (exfalso; simp at h <;> fail) | (exfalso; simp at h; omega) | skip))
      | ((refine eB (fun h => ?_) (fun h => ?_)) <;> (first | (exfalso; simp at h <;> fail) | (exfalso; simp at h; omega) | skip))
      | refine oX (frz := []) Et_ok ?_
      | refine oS ?_
      | refine RunOps.nil ?_
      | refine Run.skip ?_
      | refine cT ?_
      | refine cF ?_
      | refine Run.block ?_
      | refine Run.exit ?_
      | refine Run.draw (frz := []) Et_ok (by kernel_rfl) ?_
      | refine eX ?_
      | refine eS ?_
      | refine eN ?_
      | (refine Run.ret ?_; (first | refine rB ?_ | refine rI ?_ | refine rA ?_ | refine rII ?_ | refine rSI ?_ | refine rT ?_ | refine rS ?_); first | done | (skip))
      | (exact ⟨2, ⟨by omega, all_succ hi2 (fun e => by simp at e; subst e; simp at h)⟩, by omega, weak_of (by repeat' (first | exact trivial | refine ⟨rfl, ?_⟩))⟩)
      | fail)
    have hs : s = wToken := by simpa using h
    refine Run.ret ?_
    refine ⟨trivial, rfl, Eq.trans (b := some (.d (.int .i64 1))) (by rfl) ?_⟩
    rw [findF_at (i := 1) (by rw [hs]; rfl) hi2]; rfl
  · repeat' (first
      | refine Run.region ?_
      | refine Run.seq ?_
      | ((refine oB (frz := []) Et_ok (fun h => ?_) (fun h => ?_)) <;> (first | (exfalso; simp at h <;> fail) | (exfalso; simp at h; omega) | skip))
      | ((refine eB (fun h => ?_) (fun h => ?_)) <;> (first | (exfalso; simp at h <;> fail) | (exfalso; simp at h; omega) | skip))
      | refine oX (frz := []) Et_ok ?_
      | refine oS ?_
      | refine RunOps.nil ?_
      | refine Run.skip ?_
      | refine cT ?_
      | refine cF ?_
      | refine Run.block ?_
      | refine Run.exit ?_
      | refine Run.draw (frz := []) Et_ok (by kernel_rfl) ?_
      | refine eX ?_
      | refine eS ?_
      | refine eN ?_
      | (refine Run.ret ?_; (first | refine rB ?_ | refine rI ?_ | refine rA ?_ | refine rII ?_ | refine rSI ?_ | refine rT ?_ | refine rS ?_); first | done | (skip))
      | (exact ⟨3, ⟨by omega, all_succ hi2 (fun e => by simp at e; subst e; simp at h)⟩, by omega, weak_of (by repeat' (first | exact trivial | refine ⟨rfl, ?_⟩))⟩)
      | fail)
    have hs : s = wSep := by simpa using h
    refine Run.ret ?_
    refine ⟨trivial, rfl, Eq.trans (b := some (.d (.int .i64 2))) (by rfl) ?_⟩
    rw [findF_at (i := 2) (by rw [hs]; rfl) hi2]; rfl
  · repeat' (first
      | refine Run.region ?_
      | refine Run.seq ?_
      | ((refine oB (frz := []) Et_ok (fun h => ?_) (fun h => ?_)) <;> (first | (exfalso; simp at h <;> fail) | (exfalso; simp at h; omega) | skip))
      | ((refine eB (fun h => ?_) (fun h => ?_)) <;> (first | (exfalso; simp at h <;> fail) | (exfalso; simp at h; omega) | skip))
      | refine oX (frz := []) Et_ok ?_
      | refine oS ?_
      | refine RunOps.nil ?_
      | refine Run.skip ?_
      | refine cT ?_
      | refine cF ?_
      | refine Run.block ?_
      | refine Run.exit ?_
      | refine Run.draw (frz := []) Et_ok (by kernel_rfl) ?_
      | refine eX ?_
      | refine eS ?_
      | refine eN ?_
      | (refine Run.ret ?_; (first | refine rB ?_ | refine rI ?_ | refine rA ?_ | refine rII ?_ | refine rSI ?_ | refine rT ?_ | refine rS ?_); first | done | (skip))
      | (exact ⟨4, ⟨by omega, all_succ hi2 (fun e => by simp at e; subst e; simp at h)⟩, by omega, weak_of (by repeat' (first | exact trivial | refine ⟨rfl, ?_⟩))⟩)
      | fail)
    have hs : s = wStart := by simpa using h
    refine Run.ret ?_
    refine ⟨trivial, rfl, Eq.trans (b := some (.d (.int .i64 3))) (by rfl) ?_⟩
    rw [findF_at (i := 3) (by rw [hs]; rfl) hi2]; rfl
  · repeat' (first
      | refine Run.region ?_
      | refine Run.seq ?_
      | ((refine oB (frz := []) Et_ok (fun h => ?_) (fun h => ?_)) <;> (first | (exfalso; simp at h <;> fail) | (exfalso; simp at h; omega) | skip))
      | ((refine eB (fun h => ?_) (fun h => ?_)) <;> (first | (exfalso; simp at h <;> fail) | (exfalso; simp at h; omega) | skip))
      | refine oX (frz := []) Et_ok ?_
      | refine oS ?_
      | refine RunOps.nil ?_
      | refine Run.skip ?_
      | refine cT ?_
      | refine cF ?_
      | refine Run.block ?_
      | refine Run.exit ?_
      | refine Run.draw (frz := []) Et_ok (by kernel_rfl) ?_
      | refine eX ?_
      | refine eS ?_
      | refine eN ?_
      | (refine Run.ret ?_; (first | refine rB ?_ | refine rI ?_ | refine rA ?_ | refine rII ?_ | refine rSI ?_ | refine rT ?_ | refine rS ?_); first | done | (skip))
      | fail)
    refine Run.ret ?_
    refine ⟨trivial, rfl, Eq.trans (b := some (.d (.int .i64 (-1)))) (by rfl) ?_⟩
    rw [findF_none (l := [wLook, wToken, wSep, wStart]) hi2]
theorem containsW (s : List Nat) : ACall Tryz.prog 125 [.bs 0 0 4 4, .d (.str s)] [.box wordsA] (.d (.bool (languageF s))) [.box wordsA] := by
  refine acall_of_run Et_ok (fnAt Tryz.func125 (by kernel_rfl) (by kernel_rfl) : FnAt _ _ (mkFn Tryz.f125 [])) rfl rfl ?_
  repeat (first
    | refine oX (frz := []) Et_ok ?_
    | refine oS ?_
    | refine RunOps.nil ?_
    | refine Run.region ?_
    | refine Run.seq ?_
    | refine Run.skip ?_
    | refine Run.block ?_
    | refine Run.exit ?_
    | refine Run.draw (frz := []) Et_ok (by kernel_rfl) ?_
    | refine eX ?_
    | refine eS ?_
    | refine eN ?_)
  refine RunOps.call (by rfl) (by rfl) (indexW s) (by rfl) (by rfl) ?_
  repeat (first
    | refine oX (frz := []) Et_ok ?_
    | refine oS ?_
    | refine RunOps.nil ?_
    | refine Run.region ?_
    | refine Run.seq ?_
    | refine Run.skip ?_
    | refine Run.block ?_
    | refine Run.exit ?_
    | refine Run.draw (frz := []) Et_ok (by kernel_rfl) ?_
    | refine eX ?_
    | refine eS ?_
    | refine eN ?_)
  refine Run.ret ?_
  refine ⟨trivial, rfl, Eq.trans (b := some (.d (.bool (decide (0 ≤ findF [wLook, wToken, wSep, wStart] s))))) (by kernel_rfl) ?_⟩
  by_cases hm : s ∈ [wLook, wToken, wSep, wStart]
  · simp only [findF, if_pos hm]; simp_all [languageF]
  · simp only [findF, if_neg hm]; simp_all [languageF]
theorem language (s : List Nat) : KnownCall Tryz.prog 239 [.str s] (.d (.bool (languageF s))) := by
  refine knownE Et_ok (fnAt Tryz.func239 (by kernel_rfl) (by kernel_rfl) : FnAt _ _ (mkFn Tryz.f239 [])) ?_
  repeat (first
    | refine oX (frz := []) Et_ok ?_
    | refine oS ?_
    | refine RunOps.nil ?_
    | refine Run.region ?_
    | refine Run.seq ?_
    | refine Run.skip ?_
    | refine Run.block ?_
    | refine Run.exit ?_
    | refine Run.draw (frz := []) Et_ok (by kernel_rfl) ?_
    | refine eX ?_
    | refine eS ?_
    | refine eN ?_)
  refine RunOps.call (by rfl) (by rfl) (containsW s) (by rfl) (by rfl) ?_
  repeat' (first
    | refine Run.region ?_
    | refine Run.seq ?_
    | ((refine oB (frz := []) Et_ok (fun h => ?_) (fun h => ?_)) <;> (first | (exfalso; simp at h <;> fail) | (exfalso; simp at h; omega) | skip))
    | ((refine eB (fun h => ?_) (fun h => ?_)) <;> (first | (exfalso; simp at h <;> fail) | (exfalso; simp at h; omega) | skip))
    | refine oX (frz := []) Et_ok ?_
    | refine oS ?_
    | refine RunOps.nil ?_
    | refine Run.skip ?_
    | refine cT ?_
    | refine cF ?_
    | refine Run.block ?_
    | refine Run.exit ?_
    | refine Run.draw (frz := []) Et_ok (by kernel_rfl) ?_
    | refine eX ?_
    | refine eS ?_
    | refine eN ?_
    | (refine Run.ret ?_; (first | refine rB ?_ | refine rI ?_ | refine rA ?_ | refine rII ?_ | refine rSI ?_ | refine rT ?_ | refine rS ?_); first | done | (rfl))
    | fail)
theorem check03 (s : List Nat) (hl : s.length ≤ 1099511627776) : KnownCall Tryz.prog 204 [.str s] (.d (.int .i64 (nameF s))) := by
  refine knownE Et_ok (fnAt Tryz.func204 (by kernel_rfl) (by kernel_rfl) : FnAt _ _ (mkFn Tryz.f204 [])) ?_
  repeat' (first
    | refine Run.region ?_
    | refine Run.seq ?_
    | ((refine oB (frz := []) Et_ok (fun h => ?_) (fun h => ?_)) <;> (first | (exfalso; simp at h <;> fail) | (exfalso; simp at h; omega) | skip))
    | ((refine eB (fun h => ?_) (fun h => ?_)) <;> (first | (exfalso; simp at h <;> fail) | (exfalso; simp at h; omega) | skip))
    | refine oX (frz := []) Et_ok ?_
    | refine oS ?_
    | refine RunOps.nil ?_
    | refine Run.skip ?_
    | refine cT ?_
    | refine cF ?_
    | refine Run.block ?_
    | refine Run.exit ?_
    | refine Run.draw (frz := []) Et_ok (by kernel_rfl) ?_
    | refine eX ?_
    | refine eS ?_
    | refine eN ?_
    | ((refine oK (word _ hl) (fun h => ?_) (fun h => ?_)) <;> (first | (exfalso; simp at h <;> fail) | (exfalso; simp at h; omega) | skip))
    | refine oC (word _ hl) ?_
    | ((refine eK (word _ hl) (fun h => ?_) (fun h => ?_)) <;> (first | (exfalso; simp at h <;> fail) | (exfalso; simp at h; omega) | skip))
    | refine eC (word _ hl) ?_
    | ((refine oK (language _) (fun h => ?_) (fun h => ?_)) <;> (first | (exfalso; simp at h <;> fail) | (exfalso; simp at h; omega) | skip))
    | refine oC (language _) ?_
    | ((refine eK (language _) (fun h => ?_) (fun h => ?_)) <;> (first | (exfalso; simp at h <;> fail) | (exfalso; simp at h; omega) | skip))
    | refine eC (language _) ?_
    | (refine Run.ret ?_; (first | refine rB ?_ | refine rI ?_ | refine rA ?_ | refine rII ?_ | refine rSI ?_ | refine rT ?_ | refine rS ?_); first | done | (first | (simp_all [nameF] <;> fail) | (simp_all [nameF]; omega)))
    | fail)
def smallF (s : List Nat) : Bool := decide (nameF s = 0) && decide (97 ≤ s.getD 0 0)
def capitalF (s : List Nat) : Bool := decide (nameF s = 0) && decide (s.getD 0 0 < 97)
theorem name_first {s : List Nat} (h : nameF s = 0) : ∃ c : Nat, s[0]? = some c ∧ letterF c = true := by
  have hw : wordF s = 0 := by
    unfold nameF at h
    split at h
    · omega
    · exact h
  have hs : s ≠ [] := fun e => by simp [wordF, e] at hw
  obtain ⟨c, hc⟩ := get_ok (l := s) (i := 0) (List.length_pos_iff.2 hs)
  refine ⟨c, hc, ?_⟩
  cases hl : letterF c with
  | true => rfl
  | false => rw [wordF_bad hs ⟨c, hc, hl, .inl rfl⟩] at hw; omega
theorem letter_range {c : Nat} (h : letterF c = true) : (97 ≤ c ∧ c ≤ 122) ∨ (65 ≤ c ∧ c ≤ 90) := by simp [letterF] at h; omega
theorem refSmall (s : List Nat) (hl : s.length ≤ 1099511627776) : KnownCall Tryz.prog 172 [.str s] (.d (.bool (smallF s))) := by
  refine knownE Et_ok (fnAt Tryz.func172 (by kernel_rfl) (by kernel_rfl) : FnAt _ _ (mkFn Tryz.f172 [])) ?_
  by_cases h0 : nameF s = 0
  · obtain ⟨c, hc, hlet⟩ := name_first h0
    have hr := letter_range hlet
    have hlt : 0 < s.length := (List.getElem?_eq_some_iff.1 hc).1
    have hg : s.getD 0 0 = c := by simp [List.getD_eq_getElem?_getD, hc]
    repeat' (first
      | refine Run.region ?_
      | refine Run.seq ?_
      | ((refine oB (frz := []) Et_ok (fun h => ?_) (fun h => ?_)) <;> (first | (exfalso; simp at h <;> fail) | (exfalso; simp at h; omega) | skip))
      | ((refine eB (fun h => ?_) (fun h => ?_)) <;> (first | (exfalso; simp at h <;> fail) | (exfalso; simp at h; omega) | skip))
      | refine oX (frz := []) Et_ok ?_
      | refine oS ?_
      | refine RunOps.nil ?_
      | refine Run.skip ?_
      | refine cT ?_
      | refine cF ?_
      | refine Run.block ?_
      | refine Run.exit ?_
      | refine Run.draw (frz := []) Et_ok (by kernel_rfl) ?_
      | refine eX ?_
      | refine eS ?_
      | refine eN ?_
      | ((refine oK (refCheck03 _ hl) (fun h => ?_) (fun h => ?_)) <;> (first | (exfalso; simp at h <;> fail) | (exfalso; simp at h; omega) | skip))
      | refine oC (refCheck03 _ hl) ?_
      | ((refine eK (refCheck03 _ hl) (fun h => ?_) (fun h => ?_)) <;> (first | (exfalso; simp at h <;> fail) | (exfalso; simp at h; omega) | skip))
      | refine eC (refCheck03 _ hl) ?_
      | refine oX (frz := []) (v := .d (.int .u8 c)) Et_ok ?_ (hf := (by first | (simp [inB] <;> fail) | (simp [inB]; omega))) (he := (by first | (simp [List.getD_eq_getElem?_getD, cellsD, hc] <;> fail) | fail))
      | refine eX (v := .d (.int .u8 c)) ?_ (hf := (by first | (simp [inB] <;> fail) | (simp [inB]; omega))) (he := (by first | (simp [List.getD_eq_getElem?_getD, cellsD, hc] <;> fail) | fail))
      | (refine Run.ret ?_; (first | refine rB ?_ | refine rI ?_ | refine rA ?_ | refine rII ?_ | refine rSI ?_ | refine rT ?_ | refine rS ?_); first | done | (first | (simp_all [smallF] <;> fail) | (simp_all [smallF]; omega)))
      | fail)
  · repeat' (first
      | refine Run.region ?_
      | refine Run.seq ?_
      | ((refine oB (frz := []) Et_ok (fun h => ?_) (fun h => ?_)) <;> (first | (exfalso; simp at h <;> fail) | (exfalso; simp at h; omega) | skip))
      | ((refine eB (fun h => ?_) (fun h => ?_)) <;> (first | (exfalso; simp at h <;> fail) | (exfalso; simp at h; omega) | skip))
      | refine oX (frz := []) Et_ok ?_
      | refine oS ?_
      | refine RunOps.nil ?_
      | refine Run.skip ?_
      | refine cT ?_
      | refine cF ?_
      | refine Run.block ?_
      | refine Run.exit ?_
      | refine Run.draw (frz := []) Et_ok (by kernel_rfl) ?_
      | refine eX ?_
      | refine eS ?_
      | refine eN ?_
      | ((refine oK (refCheck03 _ hl) (fun h => ?_) (fun h => ?_)) <;> (first | (exfalso; simp at h <;> fail) | (exfalso; simp at h; omega) | skip))
      | refine oC (refCheck03 _ hl) ?_
      | ((refine eK (refCheck03 _ hl) (fun h => ?_) (fun h => ?_)) <;> (first | (exfalso; simp at h <;> fail) | (exfalso; simp at h; omega) | skip))
      | refine eC (refCheck03 _ hl) ?_
      | (refine Run.ret ?_; (first | refine rB ?_ | refine rI ?_ | refine rA ?_ | refine rII ?_ | refine rSI ?_ | refine rT ?_ | refine rS ?_); first | done | (first | (simp_all [smallF] <;> fail) | (simp_all [smallF]; omega)))
      | fail)
theorem small (s : List Nat) (hl : s.length ≤ 1099511627776) : KnownCall Tryz.prog 121 [.str s] (.d (.bool (smallF s))) := by
  refine knownE Et_ok (fnAt Tryz.func121 (by kernel_rfl) (by kernel_rfl) : FnAt _ _ (mkFn Tryz.f121 [])) ?_
  by_cases h0 : nameF s = 0
  · obtain ⟨c, hc, hlet⟩ := name_first h0
    have hr := letter_range hlet
    have hlt : 0 < s.length := (List.getElem?_eq_some_iff.1 hc).1
    have hg : s.getD 0 0 = c := by simp [List.getD_eq_getElem?_getD, hc]
    repeat' (first
      | refine Run.region ?_
      | refine Run.seq ?_
      | ((refine oB (frz := []) Et_ok (fun h => ?_) (fun h => ?_)) <;> (first | (exfalso; simp at h <;> fail) | (exfalso; simp at h; omega) | skip))
      | ((refine eB (fun h => ?_) (fun h => ?_)) <;> (first | (exfalso; simp at h <;> fail) | (exfalso; simp at h; omega) | skip))
      | refine oX (frz := []) Et_ok ?_
      | refine oS ?_
      | refine RunOps.nil ?_
      | refine Run.skip ?_
      | refine cT ?_
      | refine cF ?_
      | refine Run.block ?_
      | refine Run.exit ?_
      | refine Run.draw (frz := []) Et_ok (by kernel_rfl) ?_
      | refine eX ?_
      | refine eS ?_
      | refine eN ?_
      | ((refine oK (check03 _ hl) (fun h => ?_) (fun h => ?_)) <;> (first | (exfalso; simp at h <;> fail) | (exfalso; simp at h; omega) | skip))
      | refine oC (check03 _ hl) ?_
      | ((refine eK (check03 _ hl) (fun h => ?_) (fun h => ?_)) <;> (first | (exfalso; simp at h <;> fail) | (exfalso; simp at h; omega) | skip))
      | refine eC (check03 _ hl) ?_
      | refine oX (frz := []) (v := .d (.int .u8 c)) Et_ok ?_ (hf := (by first | (simp [inB] <;> fail) | (simp [inB]; omega))) (he := (by first | (simp [List.getD_eq_getElem?_getD, cellsD, hc] <;> fail) | fail))
      | refine eX (v := .d (.int .u8 c)) ?_ (hf := (by first | (simp [inB] <;> fail) | (simp [inB]; omega))) (he := (by first | (simp [List.getD_eq_getElem?_getD, cellsD, hc] <;> fail) | fail))
      | (refine Run.ret ?_; (first | refine rB ?_ | refine rI ?_ | refine rA ?_ | refine rII ?_ | refine rSI ?_ | refine rT ?_ | refine rS ?_); first | done | (first | (simp_all [smallF] <;> fail) | (simp_all [smallF]; omega)))
      | fail)
  · repeat' (first
      | refine Run.region ?_
      | refine Run.seq ?_
      | ((refine oB (frz := []) Et_ok (fun h => ?_) (fun h => ?_)) <;> (first | (exfalso; simp at h <;> fail) | (exfalso; simp at h; omega) | skip))
      | ((refine eB (fun h => ?_) (fun h => ?_)) <;> (first | (exfalso; simp at h <;> fail) | (exfalso; simp at h; omega) | skip))
      | refine oX (frz := []) Et_ok ?_
      | refine oS ?_
      | refine RunOps.nil ?_
      | refine Run.skip ?_
      | refine cT ?_
      | refine cF ?_
      | refine Run.block ?_
      | refine Run.exit ?_
      | refine Run.draw (frz := []) Et_ok (by kernel_rfl) ?_
      | refine eX ?_
      | refine eS ?_
      | refine eN ?_
      | ((refine oK (check03 _ hl) (fun h => ?_) (fun h => ?_)) <;> (first | (exfalso; simp at h <;> fail) | (exfalso; simp at h; omega) | skip))
      | refine oC (check03 _ hl) ?_
      | ((refine eK (check03 _ hl) (fun h => ?_) (fun h => ?_)) <;> (first | (exfalso; simp at h <;> fail) | (exfalso; simp at h; omega) | skip))
      | refine eC (check03 _ hl) ?_
      | (refine Run.ret ?_; (first | refine rB ?_ | refine rI ?_ | refine rA ?_ | refine rII ?_ | refine rSI ?_ | refine rT ?_ | refine rS ?_); first | done | (first | (simp_all [smallF] <;> fail) | (simp_all [smallF]; omega)))
      | fail)
theorem refCapital (s : List Nat) (hl : s.length ≤ 1099511627776) : KnownCall Tryz.prog 173 [.str s] (.d (.bool (capitalF s))) := by
  refine knownE Et_ok (fnAt Tryz.func173 (by kernel_rfl) (by kernel_rfl) : FnAt _ _ (mkFn Tryz.f173 [])) ?_
  by_cases h0 : nameF s = 0
  · obtain ⟨c, hc, hlet⟩ := name_first h0
    have hr := letter_range hlet
    have hlt : 0 < s.length := (List.getElem?_eq_some_iff.1 hc).1
    have hg : s.getD 0 0 = c := by simp [List.getD_eq_getElem?_getD, hc]
    repeat' (first
      | refine Run.region ?_
      | refine Run.seq ?_
      | ((refine oB (frz := []) Et_ok (fun h => ?_) (fun h => ?_)) <;> (first | (exfalso; simp at h <;> fail) | (exfalso; simp at h; omega) | skip))
      | ((refine eB (fun h => ?_) (fun h => ?_)) <;> (first | (exfalso; simp at h <;> fail) | (exfalso; simp at h; omega) | skip))
      | refine oX (frz := []) Et_ok ?_
      | refine oS ?_
      | refine RunOps.nil ?_
      | refine Run.skip ?_
      | refine cT ?_
      | refine cF ?_
      | refine Run.block ?_
      | refine Run.exit ?_
      | refine Run.draw (frz := []) Et_ok (by kernel_rfl) ?_
      | refine eX ?_
      | refine eS ?_
      | refine eN ?_
      | ((refine oK (refCheck03 _ hl) (fun h => ?_) (fun h => ?_)) <;> (first | (exfalso; simp at h <;> fail) | (exfalso; simp at h; omega) | skip))
      | refine oC (refCheck03 _ hl) ?_
      | ((refine eK (refCheck03 _ hl) (fun h => ?_) (fun h => ?_)) <;> (first | (exfalso; simp at h <;> fail) | (exfalso; simp at h; omega) | skip))
      | refine eC (refCheck03 _ hl) ?_
      | refine oX (frz := []) (v := .d (.int .u8 c)) Et_ok ?_ (hf := (by first | (simp [inB] <;> fail) | (simp [inB]; omega))) (he := (by first | (simp [List.getD_eq_getElem?_getD, cellsD, hc] <;> fail) | fail))
      | refine eX (v := .d (.int .u8 c)) ?_ (hf := (by first | (simp [inB] <;> fail) | (simp [inB]; omega))) (he := (by first | (simp [List.getD_eq_getElem?_getD, cellsD, hc] <;> fail) | fail))
      | (refine Run.ret ?_; (first | refine rB ?_ | refine rI ?_ | refine rA ?_ | refine rII ?_ | refine rSI ?_ | refine rT ?_ | refine rS ?_); first | done | (first | (simp_all [capitalF] <;> fail) | (simp_all [capitalF]; omega)))
      | fail)
  · repeat' (first
      | refine Run.region ?_
      | refine Run.seq ?_
      | ((refine oB (frz := []) Et_ok (fun h => ?_) (fun h => ?_)) <;> (first | (exfalso; simp at h <;> fail) | (exfalso; simp at h; omega) | skip))
      | ((refine eB (fun h => ?_) (fun h => ?_)) <;> (first | (exfalso; simp at h <;> fail) | (exfalso; simp at h; omega) | skip))
      | refine oX (frz := []) Et_ok ?_
      | refine oS ?_
      | refine RunOps.nil ?_
      | refine Run.skip ?_
      | refine cT ?_
      | refine cF ?_
      | refine Run.block ?_
      | refine Run.exit ?_
      | refine Run.draw (frz := []) Et_ok (by kernel_rfl) ?_
      | refine eX ?_
      | refine eS ?_
      | refine eN ?_
      | ((refine oK (refCheck03 _ hl) (fun h => ?_) (fun h => ?_)) <;> (first | (exfalso; simp at h <;> fail) | (exfalso; simp at h; omega) | skip))
      | refine oC (refCheck03 _ hl) ?_
      | ((refine eK (refCheck03 _ hl) (fun h => ?_) (fun h => ?_)) <;> (first | (exfalso; simp at h <;> fail) | (exfalso; simp at h; omega) | skip))
      | refine eC (refCheck03 _ hl) ?_
      | (refine Run.ret ?_; (first | refine rB ?_ | refine rI ?_ | refine rA ?_ | refine rII ?_ | refine rSI ?_ | refine rT ?_ | refine rS ?_); first | done | (first | (simp_all [capitalF] <;> fail) | (simp_all [capitalF]; omega)))
      | fail)
theorem capital (s : List Nat) (hl : s.length ≤ 1099511627776) : KnownCall Tryz.prog 122 [.str s] (.d (.bool (capitalF s))) := by
  refine knownE Et_ok (fnAt Tryz.func122 (by kernel_rfl) (by kernel_rfl) : FnAt _ _ (mkFn Tryz.f122 [])) ?_
  by_cases h0 : nameF s = 0
  · obtain ⟨c, hc, hlet⟩ := name_first h0
    have hr := letter_range hlet
    have hlt : 0 < s.length := (List.getElem?_eq_some_iff.1 hc).1
    have hg : s.getD 0 0 = c := by simp [List.getD_eq_getElem?_getD, hc]
    repeat' (first
      | refine Run.region ?_
      | refine Run.seq ?_
      | ((refine oB (frz := []) Et_ok (fun h => ?_) (fun h => ?_)) <;> (first | (exfalso; simp at h <;> fail) | (exfalso; simp at h; omega) | skip))
      | ((refine eB (fun h => ?_) (fun h => ?_)) <;> (first | (exfalso; simp at h <;> fail) | (exfalso; simp at h; omega) | skip))
      | refine oX (frz := []) Et_ok ?_
      | refine oS ?_
      | refine RunOps.nil ?_
      | refine Run.skip ?_
      | refine cT ?_
      | refine cF ?_
      | refine Run.block ?_
      | refine Run.exit ?_
      | refine Run.draw (frz := []) Et_ok (by kernel_rfl) ?_
      | refine eX ?_
      | refine eS ?_
      | refine eN ?_
      | ((refine oK (check03 _ hl) (fun h => ?_) (fun h => ?_)) <;> (first | (exfalso; simp at h <;> fail) | (exfalso; simp at h; omega) | skip))
      | refine oC (check03 _ hl) ?_
      | ((refine eK (check03 _ hl) (fun h => ?_) (fun h => ?_)) <;> (first | (exfalso; simp at h <;> fail) | (exfalso; simp at h; omega) | skip))
      | refine eC (check03 _ hl) ?_
      | refine oX (frz := []) (v := .d (.int .u8 c)) Et_ok ?_ (hf := (by first | (simp [inB] <;> fail) | (simp [inB]; omega))) (he := (by first | (simp [List.getD_eq_getElem?_getD, cellsD, hc] <;> fail) | fail))
      | refine eX (v := .d (.int .u8 c)) ?_ (hf := (by first | (simp [inB] <;> fail) | (simp [inB]; omega))) (he := (by first | (simp [List.getD_eq_getElem?_getD, cellsD, hc] <;> fail) | fail))
      | (refine Run.ret ?_; (first | refine rB ?_ | refine rI ?_ | refine rA ?_ | refine rII ?_ | refine rSI ?_ | refine rT ?_ | refine rS ?_); first | done | (first | (simp_all [capitalF] <;> fail) | (simp_all [capitalF]; omega)))
      | fail)
  · repeat' (first
      | refine Run.region ?_
      | refine Run.seq ?_
      | ((refine oB (frz := []) Et_ok (fun h => ?_) (fun h => ?_)) <;> (first | (exfalso; simp at h <;> fail) | (exfalso; simp at h; omega) | skip))
      | ((refine eB (fun h => ?_) (fun h => ?_)) <;> (first | (exfalso; simp at h <;> fail) | (exfalso; simp at h; omega) | skip))
      | refine oX (frz := []) Et_ok ?_
      | refine oS ?_
      | refine RunOps.nil ?_
      | refine Run.skip ?_
      | refine cT ?_
      | refine cF ?_
      | refine Run.block ?_
      | refine Run.exit ?_
      | refine Run.draw (frz := []) Et_ok (by kernel_rfl) ?_
      | refine eX ?_
      | refine eS ?_
      | refine eN ?_
      | ((refine oK (check03 _ hl) (fun h => ?_) (fun h => ?_)) <;> (first | (exfalso; simp at h <;> fail) | (exfalso; simp at h; omega) | skip))
      | refine oC (check03 _ hl) ?_
      | ((refine eK (check03 _ hl) (fun h => ?_) (fun h => ?_)) <;> (first | (exfalso; simp at h <;> fail) | (exfalso; simp at h; omega) | skip))
      | refine eC (check03 _ hl) ?_
      | (refine Run.ret ?_; (first | refine rB ?_ | refine rI ?_ | refine rA ?_ | refine rII ?_ | refine rSI ?_ | refine rT ?_ | refine rS ?_); first | done | (first | (simp_all [capitalF] <;> fail) | (simp_all [capitalF]; omega)))
      | fail)
end Go.Av
end
noncomputable section
namespace Go.Av
open Go Go.Proofs
set_option maxRecDepth 10000
def smalls (g : Gram) : List (List Nat) := g.tokens ++ [g.sep]
end Go.Av
end
noncomputable section
namespace Go.Av
open Go Go.Proofs
set_option maxRecDepth 10000
end Go.Av
end
noncomputable section
namespace Go.Av
open Go Go.Proofs
set_option maxRecDepth 10000
end Go.Av
end
noncomputable section
namespace Go.Av
open Go Go.Proofs
set_option maxRecDepth 10000
theorem Fits.small {g : Gram} (hf : Fits g) {i : Nat} {s : List Nat} (h : (smalls g)[i]? = some s) : s.length ≤ 1099511627776 := by
  have := List.mem_of_getElem? h
  simp only [smalls, List.mem_append, List.mem_singleton] at this
  rcases this with h | rfl
  · exact Nat.le_trans (hf.tokenS _ h) (by decide)
  · exact Nat.le_trans hf.sep (by decide)
theorem Fits.name {g : Gram} (hf : Fits g) {i : Nat} {s : List Nat} (h : g.names[i]? = some s) : s.length ≤ 1099511627776 := Nat.le_trans (hf.nameS _ (List.mem_of_getElem? h)) (by decide)
end Go.Av
end
noncomputable section
namespace Go.Av
open Go Go.Proofs
set_option maxRecDepth 10000
def rowA (k sz : Nat) : List DV → AV
  | [] => .d .nilsl
  | a :: l => .sr k sz (a :: l)
def rowO (sz : Nat) : List DV → List Ob
  | [] => []
  | _ :: l => [.room (l.length + 1) sz]
end Go.Av
end
noncomputable section
namespace Go.Av
open Go Go.Proofs
set_option maxRecDepth 10000
end Go.Av
end
noncomputable section
namespace Go.Av
open Go Go.Proofs
set_option maxRecDepth 10000
def symName (g : Gram) (s : Int) : Option (List Nat) := if 16 ≤ s then g.names[(s - 16).toNat]? else if 0 ≤ s then g.tokens[s.toNat]? else none
end Go.Av
end
noncomputable section
namespace Go.Av
open Go Go.Proofs
set_option maxRecDepth 10000
def nameS (g : Gram) (s : Int) : List Nat := (symName g s).getD []
end Go.Av
end
noncomputable section
namespace Go.Av
open Go Go.Proofs
set_option maxRecDepth 10000
end Go.Av
end
noncomputable section
namespace Go.Av
open Go Go.Proofs
set_option maxRecDepth 10000
def kvs (l : List (List Nat)) : List (DV × DV) := l.map fun s => (.str s, .bool true)
theorem nodup_take {l : List (List Nat)} {i : Nat} {s : List Nat} (h : l[i]? = some s) (hn : (l.take i).Nodup) (hs : s ∉ l.take i) : (l.take (i + 1)).Nodup := by
  rw [List.take_add_one, h, List.nodup_append]
  refine ⟨hn, by simp, fun a ha b hb => ?_⟩
  simp at hb
  subst hb
  exact fun e => hs (e ▸ ha)
theorem nodup_not {l : List (List Nat)} {i : Nat} {s : List Nat} (h : l[i]? = some s) (hs : s ∈ l.take i) : ¬ l.Nodup := fun hn => by
  obtain ⟨j, hj, e⟩ := List.getElem_of_mem hs
  have hji : j < i := by simp at hj; omega
  have hi := (List.getElem?_eq_some_iff.1 h).1
  refine List.pairwise_iff_getElem.1 hn j i (by omega) hi hji ?_
  rw [(List.getElem?_eq_some_iff.1 h).2]
  simpa using e
end Go.Av
end
noncomputable section
namespace Go.Av
open Go Go.Proofs
set_option maxRecDepth 10000
def idxP {α : Type} (l : List α) (p : α → Bool) : Int := if l.any p then (l.findIdx p : Nat) else -1
theorem idxP_at {α : Type} {l : List α} {p : α → Bool} {i : Nat} {x : α} (h : l[i]? = some x) (hx : p x = true) (hb : ∀ j, j < i → ∀ y, l[j]? = some y → p y = false) : idxP l p = i := by
  have hm := List.mem_of_getElem? h
  have ha : l.any p = true := List.any_eq_true.2 ⟨x, hm, hx⟩
  rw [idxP, if_pos ha]
  have h1 : l.findIdx p < l.length := List.findIdx_lt_length_of_exists ⟨x, hm, hx⟩
  have h2 := List.findIdx_getElem (w := h1)
  have h3 : ¬ l.findIdx p < i := fun hlt => by
    have := hb _ hlt _ (List.getElem?_eq_getElem h1)
    rw [this] at h2; cases h2
  have h4 : ¬ i < l.findIdx p := fun hlt => by
    have h5 := List.not_of_lt_findIdx hlt
    rw [(List.getElem?_eq_some_iff.1 h).2] at h5
    simp [hx] at h5
  omega
theorem idxP_none {α : Type} {l : List α} {p : α → Bool} (hb : ∀ j, j < l.length → ∀ y, l[j]? = some y → p y = false) : idxP l p = -1 := by
  rw [idxP, if_neg]
  intro ha
  obtain ⟨x, hx, hp⟩ := List.any_eq_true.1 ha
  obtain ⟨j, hj, e⟩ := List.getElem_of_mem hx
  have := hb j hj x (by rw [List.getElem?_eq_getElem hj, e])
  rw [this] at hp; cases hp
theorem idxP_any {α : Type} (l : List α) (p : α → Bool) : decide (0 ≤ idxP l p) = l.any p := by
  unfold idxP
  cases h : l.any p <;> simp
end Go.Av
end
noncomputable section
namespace Go.Av
open Go Go.Proofs
set_option maxRecDepth 10000
end Go.Av
end
noncomputable section
namespace Go.Av
open Go Go.Proofs
set_option maxRecDepth 10000
end Go.Av
end
noncomputable section
namespace Go.Av
open Go Go.Proofs
set_option maxRecDepth 10000
end Go.Av
end
noncomputable section
namespace Go.Av
open Go Go.Proofs
set_option maxRecDepth 10000
end Go.Av
end
noncomputable section
namespace Go.Av
open Go Go.Proofs
set_option maxRecDepth 10000
end Go.Av
end
noncomputable section
namespace Go.Av
open Go Go.Proofs
set_option maxRecDepth 10000
end Go.Av
end
noncomputable section
namespace Go.Av
open Go Go.Proofs
set_option maxRecDepth 10000
end Go.Av
end
noncomputable section
namespace Go.Av
open Go Go.Proofs
set_option maxRecDepth 10000
end Go.Av
end
noncomputable section
namespace Go.Av
open Go Go.Proofs
set_option maxRecDepth 10000
theorem ownTexts (l : List (List Nat)) (hl : l.length ≤ 1048576) : KnownCall Tryz.prog 70 [strs l] (.d (strs l)) := by
  refine knownE2 Et_ok (fnAt Tryz.func70 (by kernel_rfl) (by kernel_rfl) : FnAt _ _ (mkFn Tryz.f70 [])) ?_
  repeat' (first
    | refine Run.region ?_
    | refine Run.seq ?_
    | ((refine oB (frz := []) Et_ok (fun h => ?_) (fun h => ?_)) <;> (first | (exfalso; simp at h <;> fail) | (exfalso; simp at h; omega) | skip))
    | ((refine eB (fun h => ?_) (fun h => ?_)) <;> (first | (exfalso; simp at h <;> fail) | (exfalso; simp at h; omega) | skip))
    | refine oX (frz := []) Et_ok ?_
    | refine oS ?_
    | refine RunOps.nil ?_
    | refine Run.skip ?_
    | refine cT ?_
    | refine cF ?_
    | refine Run.block ?_
    | refine Run.exit ?_
    | refine Run.draw (frz := []) Et_ok (by kernel_rfl) ?_
    | refine eX ?_
    | refine eS ?_
    | refine eN ?_
    | refine oX (frz := []) Et_ok ?_ (hv := app1) (hf := rfl) (he := rfl)
    | refine eX ?_ (hv := app1) (hf := rfl) (he := rfl)
    | refine oX (frz := []) Et_ok ?_ (hv := app0) (hf := rfl) (he := rfl)
    | refine eX ?_ (hv := app0) (hf := rfl) (he := rfl)
    | (refine Run.ret ?_; refine r2 ?_; first | done | (exact .refl))
    | fail)
end Go.Av
end
noncomputable section
namespace Go.Av
open Go Go.Proofs
set_option maxRecDepth 10000
structure SRule where
  name : List Nat
  alts : List (List (List Nat))
structure Src where
  k : Int
  tokens : List (List Nat)
  sep : List Nat
  start : List Nat
  rules : List SRule
abbrev alts (l : List (List (List Nat))) : DV := .sl 1 (l.map strs)
def encR (r : SRule) : DV := .agg [.str r.name, alts r.alts]
abbrev encX (x : Src) : DV := .agg [.int .i64 x.k, strs x.tokens, .str x.sep, .str x.start, .sl 2 (x.rules.map encR)]
abbrev cellX (x : Src) : AV := .d (.ep [.int .i64 x.k, strs x.tokens, .str x.sep, .str x.start, .sl 2 (x.rules.map encR)])
structure FitsX (x : Src) : Prop where
  tokens : x.tokens.length ≤ 1048576
  rules : x.rules.length ≤ 1048576
  alts : ∀ r ∈ x.rules, r.alts.length ≤ 1048576
  names : ∀ r ∈ x.rules, ∀ a ∈ r.alts, a.length ≤ 1048576
  sep : x.sep.length ≤ 1048576
  start : x.start.length ≤ 1048576
  tokenS : ∀ s ∈ x.tokens, s.length ≤ 1048576
  ruleS : ∀ r ∈ x.rules, r.name.length ≤ 1048576
  nameS : ∀ r ∈ x.rules, ∀ a ∈ r.alts, ∀ s ∈ a, s.length ≤ 1048576
section
variable {α : Type} {l : List α} {p : α → Bool} {i : Nat} {x : α}
theorem any_next (h : l[i]? = some x) (hb : (l.take i).any p = false) (hx : p x = false) : (l.take (i + 1)).any p = false := by
  rw [List.take_add_one, h, List.any_append, hb]; simp [hx]
theorem any_hit (h : l[i]? = some x) (hx : p x = true) : l.any p = true := List.any_eq_true.2 ⟨x, List.mem_of_getElem? h, hx⟩
theorem any_end (hb : (l.take l.length).any p = false) : l.any p = false := by rw [List.take_length] at hb; exact hb
end
theorem has08 (l : List (List Nat)) (s : List Nat) (hl : l.length ≤ 1099511627776) : KnownCall Tryz.prog 196 [strs l, .str s] (.d (.bool (l.any fun y => decide (y = s)))) := by
  refine knownE Et_ok (fnAt Tryz.func196 (by kernel_rfl) (by kernel_rfl) : FnAt _ _ (mkFn Tryz.f196 [])) ?_
  repeat' (first
    | refine Run.region ?_
    | refine Run.seq ?_
    | ((refine oB (frz := []) Et_ok (fun h => ?_) (fun h => ?_)) <;> (first | (exfalso; simp at h <;> fail) | (exfalso; simp at h; omega) | skip))
    | ((refine eB (fun h => ?_) (fun h => ?_)) <;> (first | (exfalso; simp at h <;> fail) | (exfalso; simp at h; omega) | skip))
    | refine oX (frz := []) Et_ok ?_
    | refine oS ?_
    | refine RunOps.nil ?_
    | refine Run.skip ?_
    | refine cT ?_
    | refine cF ?_
    | refine Run.block ?_
    | refine Run.exit ?_
    | refine Run.draw (frz := []) Et_ok (by kernel_rfl) ?_
    | refine eX ?_
    | refine eS ?_
    | refine eN ?_
    | (refine Run.ret ?_; (first | refine rB ?_ | refine rI ?_ | refine rA ?_ | refine rII ?_ | refine rSI ?_ | refine rT ?_ | refine rS ?_); first | done | (skip))
    | fail)
  refine Run.loop (fun i : Nat => ⟨PT.ofList [(0, .d (strs l)), (1, .d (.str s)), (5, .d (.int .i64 i))], [], []⟩) (fun i => i ≤ l.length ∧ (l.take i).any (fun y => decide (y = s)) = false) (fun i => l.length - i) 0 ⟨Nat.zero_le _, rfl⟩ (weak_of (by repeat' (first | exact trivial | refine ⟨rfl, ?_⟩))) (fun i hi => ?_)
  rcases Nat.lt_or_ge i l.length with hlt | hge
  · obtain ⟨y, hy⟩ := get_ok hlt
    by_cases hys : y = s
    · rw [any_hit hy (p := fun y => decide (y = s)) (by simp [hys])]
      repeat' (first
        | refine Run.region ?_
        | refine Run.seq ?_
        | ((refine oB (frz := []) Et_ok (fun h => ?_) (fun h => ?_)) <;> (first | (exfalso; simp at h <;> fail) | (exfalso; simp at h; omega) | skip))
        | ((refine eB (fun h => ?_) (fun h => ?_)) <;> (first | (exfalso; simp at h <;> fail) | (exfalso; simp at h; omega) | skip))
        | refine oX (frz := []) Et_ok ?_
        | refine oS ?_
        | refine RunOps.nil ?_
        | refine Run.skip ?_
        | refine cT ?_
        | refine cF ?_
        | refine Run.block ?_
        | refine Run.exit ?_
        | refine Run.draw (frz := []) Et_ok (by kernel_rfl) ?_
        | refine eX ?_
        | refine eS ?_
        | refine eN ?_
        | refine oX (frz := []) (v := .d (.ep [.str y])) Et_ok ?_ (hf := (by first | (simp [inB] <;> fail) | (simp [inB]; omega))) (he := (by first | (simp [List.getD_eq_getElem?_getD, cellsD, hy] <;> fail) | fail))
        | refine eX (v := .d (.ep [.str y])) ?_ (hf := (by first | (simp [inB] <;> fail) | (simp [inB]; omega))) (he := (by first | (simp [List.getD_eq_getElem?_getD, cellsD, hy] <;> fail) | fail))
        | (refine Run.ret ?_; (first | refine rB ?_ | refine rI ?_ | refine rA ?_ | refine rII ?_ | refine rSI ?_ | refine rT ?_ | refine rS ?_); first | done | (rfl))
        | ((exfalso; (simp at h <;> fail)))
        | ((exfalso; simp [hys] at h <;> fail))
        | fail)
    · repeat' (first
        | refine Run.region ?_
        | refine Run.seq ?_
        | ((refine oB (frz := []) Et_ok (fun h => ?_) (fun h => ?_)) <;> (first | (exfalso; simp at h <;> fail) | (exfalso; simp at h; omega) | skip))
        | ((refine eB (fun h => ?_) (fun h => ?_)) <;> (first | (exfalso; simp at h <;> fail) | (exfalso; simp at h; omega) | skip))
        | refine oX (frz := []) Et_ok ?_
        | refine oS ?_
        | refine RunOps.nil ?_
        | refine Run.skip ?_
        | refine cT ?_
        | refine cF ?_
        | refine Run.block ?_
        | refine Run.exit ?_
        | refine Run.draw (frz := []) Et_ok (by kernel_rfl) ?_
        | refine eX ?_
        | refine eS ?_
        | refine eN ?_
        | refine oX (frz := []) (v := .d (.ep [.str y])) Et_ok ?_ (hf := (by first | (simp [inB] <;> fail) | (simp [inB]; omega))) (he := (by first | (simp [List.getD_eq_getElem?_getD, cellsD, hy] <;> fail) | fail))
        | refine eX (v := .d (.ep [.str y])) ?_ (hf := (by first | (simp [inB] <;> fail) | (simp [inB]; omega))) (he := (by first | (simp [List.getD_eq_getElem?_getD, cellsD, hy] <;> fail) | fail))
        | (refine Run.ret ?_; (first | refine rB ?_ | refine rI ?_ | refine rA ?_ | refine rII ?_ | refine rSI ?_ | refine rT ?_ | refine rS ?_); first | done | ((exfalso; simp [hys] at h <;> fail)))
        | (exact ⟨i + 1, ⟨hlt, any_next hy hi.2 (by simp [hys])⟩, by omega, weak_of (by repeat' (first | exact trivial | refine ⟨rfl, ?_⟩ | refine ⟨(inc_get (k := i) (by kernel_rfl) (by omega)), ?_⟩))⟩)
        | fail)
  · have hie : i = l.length := by omega
    subst hie
    rw [any_end hi.2]
    repeat' (first
      | refine Run.region ?_
      | refine Run.seq ?_
      | ((refine oB (frz := []) Et_ok (fun h => ?_) (fun h => ?_)) <;> (first | (exfalso; simp at h <;> fail) | (exfalso; simp at h; omega) | skip))
      | ((refine eB (fun h => ?_) (fun h => ?_)) <;> (first | (exfalso; simp at h <;> fail) | (exfalso; simp at h; omega) | skip))
      | refine oX (frz := []) Et_ok ?_
      | refine oS ?_
      | refine RunOps.nil ?_
      | refine Run.skip ?_
      | refine cT ?_
      | refine cF ?_
      | refine Run.block ?_
      | refine Run.exit ?_
      | refine Run.draw (frz := []) Et_ok (by kernel_rfl) ?_
      | refine eX ?_
      | refine eS ?_
      | refine eN ?_
      | (refine Run.ret ?_; (first | refine rB ?_ | refine rI ?_ | refine rA ?_ | refine rII ?_ | refine rSI ?_ | refine rT ?_ | refine rS ?_); first | done | (rfl))
      | fail)
theorem rules08 (x : Src) (hf : FitsX x) : KnownCall Tryz.prog 131 [encX x] (.d (strs (x.rules.map (·.name)))) := by
  have hr := hf.rules
  refine knownE2 Et_ok (fnAt Tryz.func131 (by kernel_rfl) (by kernel_rfl) : FnAt _ _ (mkFn Tryz.f131 [1, 19])) ?_
  repeat' (first
    | refine Run.region ?_
    | refine Run.seq ?_
    | ((refine oB (frz := [1, 19]) Et_ok (fun h => ?_) (fun h => ?_)) <;> (first | (exfalso; simp at h <;> fail) | (exfalso; simp at h; omega) | skip))
    | ((refine eB (fun h => ?_) (fun h => ?_)) <;> (first | (exfalso; simp at h <;> fail) | (exfalso; simp at h; omega) | skip))
    | refine oX (frz := [1, 19]) Et_ok ?_
    | refine oS ?_
    | refine RunOps.nil ?_
    | refine Run.skip ?_
    | refine cT ?_
    | refine cF ?_
    | refine Run.block ?_
    | refine Run.exit ?_
    | refine Run.draw (frz := [1, 19]) Et_ok (by kernel_rfl) ?_
    | refine eX ?_
    | refine eS ?_
    | refine eN ?_
    | (refine Run.ret ?_; refine r2 ?_; first | done | (skip))
    | fail)
  refine Run.loop (fun y : Nat × List DV => ⟨PT.ofList [(1, cellX x), (3, rowA 0 1 y.2), (4, .d (.int .i64 y.1))], rowO 1 y.2, []⟩) (fun y => y.1 ≤ x.rules.length ∧ y.2 = (x.rules.take y.1).map (fun r => .str r.name)) (fun y => x.rules.length - y.1) (0, []) ⟨Nat.zero_le _, rfl⟩ (weak_of (by repeat' (first | exact trivial | refine ⟨rfl, ?_⟩))) (fun y hy => ?_)
  obtain ⟨i, acc⟩ := y
  obtain ⟨hi1, hi2⟩ := hy
  simp only at hi1 hi2 ⊢
  have hal : acc.length ≤ i := by rw [hi2]; simp; omega
  rcases Nat.lt_or_ge i x.rules.length with hlt | hge
  · obtain ⟨r, hr⟩ := get_ok hlt
    have hnext : acc ++ [.str r.name] = (x.rules.take (i + 1)).map (fun r => .str r.name) := by rw [List.take_add_one, hr, hi2]; simp
    rcases acc with _ | ⟨a, l⟩
    · repeat' (first
        | refine Run.region ?_
        | refine Run.seq ?_
        | ((refine oB (frz := [1, 19]) Et_ok (fun h => ?_) (fun h => ?_)) <;> (first | (exfalso; simp at h <;> fail) | (exfalso; simp at h; omega) | skip))
        | ((refine eB (fun h => ?_) (fun h => ?_)) <;> (first | (exfalso; simp at h <;> fail) | (exfalso; simp at h; omega) | skip))
        | refine oX (frz := [1, 19]) Et_ok ?_
        | refine oS ?_
        | refine RunOps.nil ?_
        | refine Run.skip ?_
        | refine cT ?_
        | refine cF ?_
        | refine Run.block ?_
        | refine Run.exit ?_
        | refine Run.draw (frz := [1, 19]) Et_ok (by kernel_rfl) ?_
        | refine eX ?_
        | refine eS ?_
        | refine eN ?_
        | refine oX (frz := [1, 19]) (v := .d (.ep [.str r.name, alts r.alts])) Et_ok ?_ (hf := (by first | (simp [inB] <;> fail) | (simp [inB]; omega))) (he := (by first | (simp [List.getD_eq_getElem?_getD, cellsD, hr, encR] <;> fail) | fail))
        | refine eX (v := .d (.ep [.str r.name, alts r.alts])) ?_ (hf := (by first | (simp [inB] <;> fail) | (simp [inB]; omega))) (he := (by first | (simp [List.getD_eq_getElem?_getD, cellsD, hr, encR] <;> fail) | fail))
        | refine oX (frz := [1, 19]) Et_ok ?_ (hv := app1) (hf := rfl) (he := rfl)
        | refine eX ?_ (hv := app1) (hf := rfl) (he := rfl)
        | refine oX (frz := [1, 19]) Et_ok ?_ (hv := app0) (hf := rfl) (he := rfl)
        | refine eX ?_ (hv := app0) (hf := rfl) (he := rfl)
        | (refine Run.ret ?_; refine r2 ?_; first | done | (skip))
        | (exact ⟨(i + 1, [.str r.name]), ⟨hlt, hnext⟩, by simp only; omega, weak_of' (by rfl) rfl (by repeat' (first | exact trivial | refine ⟨rfl, ?_⟩ | refine ⟨(inc_get (k := i) (by kernel_rfl) (by omega)), ?_⟩))⟩)
        | fail)
    · have hal' : l.length + 1 ≤ i := hal
      repeat' (first
        | refine Run.region ?_
        | refine Run.seq ?_
        | ((refine oB (frz := [1, 19]) Et_ok (fun h => ?_) (fun h => ?_)) <;> (first | (exfalso; simp at h <;> fail) | (exfalso; simp at h; omega) | skip))
        | ((refine eB (fun h => ?_) (fun h => ?_)) <;> (first | (exfalso; simp at h <;> fail) | (exfalso; simp at h; omega) | skip))
        | refine oX (frz := [1, 19]) Et_ok ?_
        | refine oS ?_
        | refine RunOps.nil ?_
        | refine Run.skip ?_
        | refine cT ?_
        | refine cF ?_
        | refine Run.block ?_
        | refine Run.exit ?_
        | refine Run.draw (frz := [1, 19]) Et_ok (by kernel_rfl) ?_
        | refine eX ?_
        | refine eS ?_
        | refine eN ?_
        | refine oX (frz := [1, 19]) (v := .d (.ep [.str r.name, alts r.alts])) Et_ok ?_ (hf := (by first | (simp [inB] <;> fail) | (simp [inB]; omega))) (he := (by first | (simp [List.getD_eq_getElem?_getD, cellsD, hr, encR] <;> fail) | fail))
        | refine eX (v := .d (.ep [.str r.name, alts r.alts])) ?_ (hf := (by first | (simp [inB] <;> fail) | (simp [inB]; omega))) (he := (by first | (simp [List.getD_eq_getElem?_getD, cellsD, hr, encR] <;> fail) | fail))
        | refine oX (frz := [1, 19]) Et_ok ?_ (hv := app1) (hf := rfl) (he := rfl)
        | refine eX ?_ (hv := app1) (hf := rfl) (he := rfl)
        | refine oX (frz := [1, 19]) Et_ok ?_ (hv := app0) (hf := rfl) (he := rfl)
        | refine eX ?_ (hv := app0) (hf := rfl) (he := rfl)
        | (refine Run.ret ?_; refine r2 ?_; first | done | (skip))
        | (exact ⟨(i + 1, a :: (l ++ [DV.str r.name])), ⟨hlt, hnext⟩, by simp only; omega, weak_of' (by show [Ob.room ((l ++ [_]).length + 1) 1] = [Ob.room (l.length + 1 + 1) 1]; rw [List.length_append]; rfl) rfl (by repeat' (first | exact trivial | refine ⟨rfl, ?_⟩ | refine ⟨(inc_get (k := i) (by kernel_rfl) (by omega)), ?_⟩))⟩)
        | fail)
  · have hge : i = x.rules.length := by omega
    have he : (x.rules.map (·.name)).map DV.str = acc := by rw [hi2, hge, List.take_length, List.map_map]; rfl
    rw [show strs (x.rules.map (·.name)) = .sl 1 ((x.rules.map (·.name)).map DV.str) from rfl, he]
    rcases acc with _ | ⟨a, l⟩
    · repeat' (first
        | refine Run.region ?_
        | refine Run.seq ?_
        | ((refine oB (frz := [1, 19]) Et_ok (fun h => ?_) (fun h => ?_)) <;> (first | (exfalso; simp at h <;> fail) | (exfalso; simp at h; omega) | skip))
        | ((refine eB (fun h => ?_) (fun h => ?_)) <;> (first | (exfalso; simp at h <;> fail) | (exfalso; simp at h; omega) | skip))
        | refine oX (frz := [1, 19]) Et_ok ?_
        | refine oS ?_
        | refine RunOps.nil ?_
        | refine Run.skip ?_
        | refine cT ?_
        | refine cF ?_
        | refine Run.block ?_
        | refine Run.exit ?_
        | refine Run.draw (frz := [1, 19]) Et_ok (by kernel_rfl) ?_
        | refine eX ?_
        | refine eS ?_
        | refine eN ?_
        | (refine Run.ret ?_; refine r2 ?_; first | done | (exact .d .nil))
        | fail)
    · repeat' (first
        | refine Run.region ?_
        | refine Run.seq ?_
        | ((refine oB (frz := [1, 19]) Et_ok (fun h => ?_) (fun h => ?_)) <;> (first | (exfalso; simp at h <;> fail) | (exfalso; simp at h; omega) | skip))
        | ((refine eB (fun h => ?_) (fun h => ?_)) <;> (first | (exfalso; simp at h <;> fail) | (exfalso; simp at h; omega) | skip))
        | refine oX (frz := [1, 19]) Et_ok ?_
        | refine oS ?_
        | refine RunOps.nil ?_
        | refine Run.skip ?_
        | refine cT ?_
        | refine cF ?_
        | refine Run.block ?_
        | refine Run.exit ?_
        | refine Run.draw (frz := [1, 19]) Et_ok (by kernel_rfl) ?_
        | refine eX ?_
        | refine eS ?_
        | refine eN ?_
        | (refine Run.ret ?_; refine r2 ?_; first | done | (exact .refl))
        | fail)
def shortX (x : Src) : Bool := x.rules.any (fun r => r.alts.isEmpty) || x.tokens.isEmpty || x.rules.isEmpty
theorem short08 (x : Src) (hf : FitsX x) : KnownCall Tryz.prog 127 [encX x] (.d (.bool (shortX x))) := by
  have hrl := hf.rules
  refine knownE Et_ok (fnAt Tryz.func127 (by kernel_rfl) (by kernel_rfl) : FnAt _ _ (mkFn Tryz.f127 [1])) ?_
  repeat' (first
    | refine Run.region ?_
    | refine Run.seq ?_
    | ((refine oB (frz := [1]) Et_ok (fun h => ?_) (fun h => ?_)) <;> (first | (exfalso; simp at h <;> fail) | (exfalso; simp at h; omega) | skip))
    | ((refine eB (fun h => ?_) (fun h => ?_)) <;> (first | (exfalso; simp at h <;> fail) | (exfalso; simp at h; omega) | skip))
    | refine oX (frz := [1]) Et_ok ?_
    | refine oS ?_
    | refine RunOps.nil ?_
    | refine Run.skip ?_
    | refine cT ?_
    | refine cF ?_
    | refine Run.block ?_
    | refine Run.exit ?_
    | refine Run.draw (frz := [1]) Et_ok (by kernel_rfl) ?_
    | refine eX ?_
    | refine eS ?_
    | refine eN ?_
    | (refine Run.ret ?_; (first | refine rB ?_ | refine rI ?_ | refine rA ?_ | refine rII ?_ | refine rSI ?_ | refine rT ?_ | refine rS ?_); first | done | (skip))
    | fail)
  refine Run.loop (fun i : Nat => ⟨PT.ofList [(1, cellX x), (3, .d (.int .i64 i))], [], []⟩) (fun i => i ≤ x.rules.length ∧ (x.rules.take i).any (fun r => r.alts.isEmpty) = false) (fun i => x.rules.length - i) 0 ⟨Nat.zero_le _, rfl⟩ (weak_of (by repeat' (first | exact trivial | refine ⟨rfl, ?_⟩))) (fun i hi => ?_)
  rcases Nat.lt_or_ge i x.rules.length with hlt | hge
  · obtain ⟨r, hr⟩ := get_ok hlt
    cases ha : r.alts with
    | nil =>
      have hs : shortX x = true := by unfold shortX; rw [any_hit hr (p := fun r => r.alts.isEmpty) (by simp [ha])]; rfl
      rw [hs]
      repeat' (first
        | refine Run.region ?_
        | refine Run.seq ?_
        | ((refine oB (frz := [1]) Et_ok (fun h => ?_) (fun h => ?_)) <;> (first | (exfalso; simp at h <;> fail) | (exfalso; simp at h; omega) | skip))
        | ((refine eB (fun h => ?_) (fun h => ?_)) <;> (first | (exfalso; simp at h <;> fail) | (exfalso; simp at h; omega) | skip))
        | refine oX (frz := [1]) Et_ok ?_
        | refine oS ?_
        | refine RunOps.nil ?_
        | refine Run.skip ?_
        | refine cT ?_
        | refine cF ?_
        | refine Run.block ?_
        | refine Run.exit ?_
        | refine Run.draw (frz := [1]) Et_ok (by kernel_rfl) ?_
        | refine eX ?_
        | refine eS ?_
        | refine eN ?_
        | refine oX (frz := [1]) (v := .d (.ep [.str r.name, alts []])) Et_ok ?_ (hf := (by first | (simp [inB] <;> fail) | (simp [inB]; omega))) (he := (by first | (simp [List.getD_eq_getElem?_getD, cellsD, hr, encR, ha] <;> fail) | fail))
        | refine eX (v := .d (.ep [.str r.name, alts []])) ?_ (hf := (by first | (simp [inB] <;> fail) | (simp [inB]; omega))) (he := (by first | (simp [List.getD_eq_getElem?_getD, cellsD, hr, encR, ha] <;> fail) | fail))
        | (refine Run.ret ?_; (first | refine rB ?_ | refine rI ?_ | refine rA ?_ | refine rII ?_ | refine rSI ?_ | refine rT ?_ | refine rS ?_); first | done | (rfl))
        | ((exfalso; (simp at h <;> fail)))
        | fail)
    | cons a l =>
      repeat' (first
        | refine Run.region ?_
        | refine Run.seq ?_
        | ((refine oB (frz := [1]) Et_ok (fun h => ?_) (fun h => ?_)) <;> (first | (exfalso; simp at h <;> fail) | (exfalso; simp at h; omega) | skip))
        | ((refine eB (fun h => ?_) (fun h => ?_)) <;> (first | (exfalso; simp at h <;> fail) | (exfalso; simp at h; omega) | skip))
        | refine oX (frz := [1]) Et_ok ?_
        | refine oS ?_
        | refine RunOps.nil ?_
        | refine Run.skip ?_
        | refine cT ?_
        | refine cF ?_
        | refine Run.block ?_
        | refine Run.exit ?_
        | refine Run.draw (frz := [1]) Et_ok (by kernel_rfl) ?_
        | refine eX ?_
        | refine eS ?_
        | refine eN ?_
        | refine oX (frz := [1]) (v := .d (.ep [.str r.name, alts (a :: l)])) Et_ok ?_ (hf := (by first | (simp [inB] <;> fail) | (simp [inB]; omega))) (he := (by first | (simp [List.getD_eq_getElem?_getD, cellsD, hr, encR, ha] <;> fail) | fail))
        | refine eX (v := .d (.ep [.str r.name, alts (a :: l)])) ?_ (hf := (by first | (simp [inB] <;> fail) | (simp [inB]; omega))) (he := (by first | (simp [List.getD_eq_getElem?_getD, cellsD, hr, encR, ha] <;> fail) | fail))
        | (refine Run.ret ?_; (first | refine rB ?_ | refine rI ?_ | refine rA ?_ | refine rII ?_ | refine rSI ?_ | refine rT ?_ | refine rS ?_); first | done | ((exfalso; (simp at h <;> omega))))
        | (exact ⟨i + 1, ⟨hlt, any_next hr hi.2 (by simp [ha])⟩, by omega, weak_of (by repeat' (first | exact trivial | refine ⟨rfl, ?_⟩ | refine ⟨(inc_get (k := i) (by kernel_rfl) (by omega)), ?_⟩))⟩)
        | fail)
  · have hie : i = x.rules.length := by omega
    subst hie
    have hs : shortX x = (x.tokens.isEmpty || x.rules.isEmpty) := by unfold shortX; rw [any_end hi.2]; simp
    rw [hs]
    cases ht : x.tokens with
    | nil => repeat' (first
               | refine Run.region ?_
               | refine Run.seq ?_
               | ((refine oB (frz := [1]) Et_ok (fun h => ?_) (fun h => ?_)) <;> (first | (exfalso; simp at h <;> fail) | (exfalso; simp at h; omega) | skip))
               | ((refine eB (fun h => ?_) (fun h => ?_)) <;> (first | (exfalso; simp at h <;> fail) | (exfalso; simp at h; omega) | skip))
               | refine oX (frz := [1]) Et_ok ?_
               | refine oS ?_
               | refine RunOps.nil ?_
               | refine Run.skip ?_
               | refine cT ?_
               | refine cF ?_
               | refine Run.block ?_
               | refine Run.exit ?_
               | refine Run.draw (frz := [1]) Et_ok (by kernel_rfl) ?_
               | refine eX ?_
               | refine eS ?_
               | refine eN ?_
               | (refine Run.ret ?_; (first | refine rB ?_ | refine rI ?_ | refine rA ?_ | refine rII ?_ | refine rSI ?_ | refine rT ?_ | refine rS ?_); first | done | (rfl))
               | ((exfalso; (simp_all <;> fail)))
               | ((exfalso; (simp_all <;> omega)))
               | fail)
    | cons t ts =>
      cases hx : x.rules with
      | nil => repeat' (first
                 | refine Run.region ?_
                 | refine Run.seq ?_
                 | ((refine oB (frz := [1]) Et_ok (fun h => ?_) (fun h => ?_)) <;> (first | (exfalso; simp at h <;> fail) | (exfalso; simp at h; omega) | skip))
                 | ((refine eB (fun h => ?_) (fun h => ?_)) <;> (first | (exfalso; simp at h <;> fail) | (exfalso; simp at h; omega) | skip))
                 | refine oX (frz := [1]) Et_ok ?_
                 | refine oS ?_
                 | refine RunOps.nil ?_
                 | refine Run.skip ?_
                 | refine cT ?_
                 | refine cF ?_
                 | refine Run.block ?_
                 | refine Run.exit ?_
                 | refine Run.draw (frz := [1]) Et_ok (by kernel_rfl) ?_
                 | refine eX ?_
                 | refine eS ?_
                 | refine eN ?_
                 | (refine Run.ret ?_; (first | refine rB ?_ | refine rI ?_ | refine rA ?_ | refine rII ?_ | refine rSI ?_ | refine rT ?_ | refine rS ?_); first | done | (rfl))
                 | ((exfalso; (simp_all <;> fail)))
                 | ((exfalso; (simp_all <;> omega)))
                 | fail)
      | cons r rs => repeat' (first
                       | refine Run.region ?_
                       | refine Run.seq ?_
                       | ((refine oB (frz := [1]) Et_ok (fun h => ?_) (fun h => ?_)) <;> (first | (exfalso; simp at h <;> fail) | (exfalso; simp at h; omega) | skip))
                       | ((refine eB (fun h => ?_) (fun h => ?_)) <;> (first | (exfalso; simp at h <;> fail) | (exfalso; simp at h; omega) | skip))
                       | refine oX (frz := [1]) Et_ok ?_
                       | refine oS ?_
                       | refine RunOps.nil ?_
                       | refine Run.skip ?_
                       | refine cT ?_
                       | refine cF ?_
                       | refine Run.block ?_
                       | refine Run.exit ?_
                       | refine Run.draw (frz := [1]) Et_ok (by kernel_rfl) ?_
                       | refine eX ?_
                       | refine eS ?_
                       | refine eN ?_
                       | (refine Run.ret ?_; (first | refine rB ?_ | refine rI ?_ | refine rA ?_ | refine rII ?_ | refine rSI ?_ | refine rT ?_ | refine rS ?_); first | done | (rfl))
                       | ((exfalso; (simp_all <;> fail)))
                       | ((exfalso; (simp_all <;> omega)))
                       | fail)
theorem twice08 (l : List (List Nat)) (hl : l.length ≤ 1099511627776) : KnownCall Tryz.prog 130 [strs l] (.d (.bool (decide (¬ l.Nodup)))) := by
  refine knownE Et_ok (fnAt Tryz.func130 (by kernel_rfl) (by kernel_rfl) : FnAt _ _ (mkFn Tryz.f130 [])) ?_
  repeat' (first
    | refine Run.region ?_
    | refine Run.seq ?_
    | ((refine oB (frz := []) Et_ok (fun h => ?_) (fun h => ?_)) <;> (first | (exfalso; simp at h <;> fail) | (exfalso; simp at h; omega) | skip))
    | ((refine eB (fun h => ?_) (fun h => ?_)) <;> (first | (exfalso; simp at h <;> fail) | (exfalso; simp at h; omega) | skip))
    | refine oX (frz := []) Et_ok ?_
    | refine oS ?_
    | refine RunOps.nil ?_
    | refine Run.skip ?_
    | refine cT ?_
    | refine cF ?_
    | refine Run.block ?_
    | refine Run.exit ?_
    | refine Run.draw (frz := []) Et_ok (by kernel_rfl) ?_
    | refine eX ?_
    | refine eS ?_
    | refine eN ?_
    | (refine Run.ret ?_; (first | refine rB ?_ | refine rI ?_ | refine rA ?_ | refine rII ?_ | refine rSI ?_ | refine rT ?_ | refine rS ?_); first | done | (skip))
    | fail)
  refine Run.loop (fun i : Nat => ⟨PT.ofList [(0, .d (strs l)), (3, .d (.int .i64 i))], [], []⟩) (fun i => i ≤ l.length ∧ (l.take i).Nodup) (fun i => l.length - i) 0 ⟨Nat.zero_le _, by simp⟩ (weak_of (by repeat' (first | exact trivial | refine ⟨rfl, ?_⟩))) (fun i hi => ?_)
  rcases Nat.lt_or_ge i l.length with hlt | hge
  · obtain ⟨x, hx⟩ := get_ok hlt
    have hh := has08 (l.take i) x (by simp; omega)
    have hc : AV.d (DV.sl 1 (cutL none (some (i : Int)) (l.map DV.str))) = .d (strs (l.take i)) := by simp [cutL, List.map_take]
    by_cases hm : x ∈ l.take i
    · rw [show (l.take i).any (fun y => decide (y = x)) = true from List.any_eq_true.2 ⟨x, hm, by simp⟩] at hh
      rw [decide_eq_true (nodup_not hx hm)]
      repeat' (first
        | refine Run.region ?_
        | refine Run.seq ?_
        | ((refine oB (frz := []) Et_ok (fun h => ?_) (fun h => ?_)) <;> (first | (exfalso; simp at h <;> fail) | (exfalso; simp at h; omega) | skip))
        | ((refine eB (fun h => ?_) (fun h => ?_)) <;> (first | (exfalso; simp at h <;> fail) | (exfalso; simp at h; omega) | skip))
        | refine oX (frz := []) Et_ok ?_
        | refine oS ?_
        | refine RunOps.nil ?_
        | refine Run.skip ?_
        | refine cT ?_
        | refine cF ?_
        | refine Run.block ?_
        | refine Run.exit ?_
        | refine Run.draw (frz := []) Et_ok (by kernel_rfl) ?_
        | refine eX ?_
        | refine eS ?_
        | refine eN ?_
        | refine oC (hh) ?_
        | refine eC (hh) ?_
        | refine oX (frz := []) (v := .d (.ep [.str x])) Et_ok ?_ (hf := (by first | (simp [inB] <;> fail) | (simp [inB]; omega))) (he := (by first | (simp [List.getD_eq_getElem?_getD, cellsD, hx] <;> fail) | fail))
        | refine eX (v := .d (.ep [.str x])) ?_ (hf := (by first | (simp [inB] <;> fail) | (simp [inB]; omega))) (he := (by first | (simp [List.getD_eq_getElem?_getD, cellsD, hx] <;> fail) | fail))
        | refine eX (v := .d (strs (l.take i))) ?_ (hf := by first | (simp [cutC, maxC] <;> fail) | (simp [cutC, maxC]; omega)) (he := hc)
        | (refine Run.ret ?_; (first | refine rB ?_ | refine rI ?_ | refine rA ?_ | refine rII ?_ | refine rSI ?_ | refine rT ?_ | refine rS ?_); first | done | (rfl))
        | ((exfalso; (simp at h <;> omega)))
        | fail)
    · rw [show (l.take i).any (fun y => decide (y = x)) = false from by rw [List.any_eq_false]; intro y hy he; exact hm (by simpa using (by simpa using he : y = x) ▸ hy)] at hh
      have hn := nodup_take hx hi.2 hm
      repeat' (first
        | refine Run.region ?_
        | refine Run.seq ?_
        | ((refine oB (frz := []) Et_ok (fun h => ?_) (fun h => ?_)) <;> (first | (exfalso; simp at h <;> fail) | (exfalso; simp at h; omega) | skip))
        | ((refine eB (fun h => ?_) (fun h => ?_)) <;> (first | (exfalso; simp at h <;> fail) | (exfalso; simp at h; omega) | skip))
        | refine oX (frz := []) Et_ok ?_
        | refine oS ?_
        | refine RunOps.nil ?_
        | refine Run.skip ?_
        | refine cT ?_
        | refine cF ?_
        | refine Run.block ?_
        | refine Run.exit ?_
        | refine Run.draw (frz := []) Et_ok (by kernel_rfl) ?_
        | refine eX ?_
        | refine eS ?_
        | refine eN ?_
        | refine oC (hh) ?_
        | refine eC (hh) ?_
        | refine oX (frz := []) (v := .d (.ep [.str x])) Et_ok ?_ (hf := (by first | (simp [inB] <;> fail) | (simp [inB]; omega))) (he := (by first | (simp [List.getD_eq_getElem?_getD, cellsD, hx] <;> fail) | fail))
        | refine eX (v := .d (.ep [.str x])) ?_ (hf := (by first | (simp [inB] <;> fail) | (simp [inB]; omega))) (he := (by first | (simp [List.getD_eq_getElem?_getD, cellsD, hx] <;> fail) | fail))
        | refine eX (v := .d (strs (l.take i))) ?_ (hf := by first | (simp [cutC, maxC] <;> fail) | (simp [cutC, maxC]; omega)) (he := hc)
        | (refine Run.ret ?_; (first | refine rB ?_ | refine rI ?_ | refine rA ?_ | refine rII ?_ | refine rSI ?_ | refine rT ?_ | refine rS ?_); first | done | ((exfalso; (simp at h <;> omega))))
        | (exact ⟨i + 1, ⟨hlt, hn⟩, by omega, weak_of (by repeat' (first | exact trivial | refine ⟨rfl, ?_⟩ | refine ⟨(inc_get (k := i) (by kernel_rfl) (by omega)), ?_⟩))⟩)
        | fail)
  · have hie : i = l.length := by omega
    subst hie
    have hn := hi.2
    rw [List.take_length] at hn
    rw [decide_eq_false (by simpa using hn)]
    repeat' (first
      | refine Run.region ?_
      | refine Run.seq ?_
      | ((refine oB (frz := []) Et_ok (fun h => ?_) (fun h => ?_)) <;> (first | (exfalso; simp at h <;> fail) | (exfalso; simp at h; omega) | skip))
      | ((refine eB (fun h => ?_) (fun h => ?_)) <;> (first | (exfalso; simp at h <;> fail) | (exfalso; simp at h; omega) | skip))
      | refine oX (frz := []) Et_ok ?_
      | refine oS ?_
      | refine RunOps.nil ?_
      | refine Run.skip ?_
      | refine cT ?_
      | refine cF ?_
      | refine Run.block ?_
      | refine Run.exit ?_
      | refine Run.draw (frz := []) Et_ok (by kernel_rfl) ?_
      | refine eX ?_
      | refine eS ?_
      | refine eN ?_
      | (refine Run.ret ?_; (first | refine rB ?_ | refine rI ?_ | refine rA ?_ | refine rII ?_ | refine rSI ?_ | refine rT ?_ | refine rS ?_); first | done | (rfl))
      | fail)
end Go.Av
end
noncomputable section
namespace Go.Av
open Go Go.Proofs
set_option maxRecDepth 10000
def smL {α : Type} (p : α → α → Bool) : List α → List α → Bool
  | [], [] => true
  | x :: a, y :: b => p x y && smL p a b
  | _, _ => false
theorem smL_len {α : Type} {p : α → α → Bool} : ∀ {a b : List α}, a.length ≠ b.length → smL p a b = false
  | [], [], h => absurd rfl h
  | [], _ :: _, _ => rfl
  | _ :: _, [], _ => rfl
  | x :: a, y :: b, h => by
    have : smL p a b = false := smL_len (by simpa using h)
    simp [smL, this]
theorem smL_at {α : Type} {p : α → α → Bool} : ∀ {a b : List α} {i : Nat} {x y : α}, a[i]? = some x → b[i]? = some y → p x y = false → smL p a b = false
  | [], _, i, x, y, h, _, _ => by simp at h
  | _ :: _, [], i, x, y, _, h, _ => by simp at h
  | u :: a, v :: b, 0, x, y, h, k, hp => by simp at h k; subst h k; simp [smL, hp]
  | u :: a, v :: b, i + 1, x, y, h, k, hp => by
    have := smL_at (p := p) (a := a) (b := b) (i := i) (by simpa using h) (by simpa using k) hp
    simp [smL, this]
theorem smL_all {α : Type} {p : α → α → Bool} : ∀ {a b : List α}, a.length = b.length → (∀ (j : Nat) x y, a[j]? = some x → b[j]? = some y → p x y = true) → smL p a b = true
  | [], [], _, _ => rfl
  | [], _ :: _, h, _ => by simp at h
  | _ :: _, [], h, _ => by simp at h
  | x :: a, y :: b, h, hp => by
    have h1 := hp 0 x y rfl rfl
    have h2 := smL_all (p := p) (a := a) (b := b) (by simpa using h) (fun j u v hu hv => hp (j + 1) u v (by simpa using hu) (by simpa using hv))
    simp [smL, h1, h2]
theorem smL_self {α : Type} {p : α → α → Bool} {a : List α} (h : ∀ x ∈ a, p x x = true) : smL p a a = true :=
  smL_all rfl fun j x y hx hy => by rw [hx] at hy; cases hy; exact h x (List.mem_of_getElem? hx)
theorem smL_dec {α : Type} [DecidableEq α] {a b : List α} : smL (fun x y => decide (x = y)) a b = decide (a = b) := by
  by_cases hl : a.length = b.length
  · by_cases h : a = b
    · subst h; rw [decide_eq_true rfl]; exact smL_self fun x _ => by simp
    · rw [decide_eq_false h]
      have : ∃ j : Nat, ∃ x y, a[j]? = some x ∧ b[j]? = some y ∧ x ≠ y := Classical.byContradiction fun hn => h (List.ext_getElem hl fun j h1 h2 => Classical.byContradiction fun hne => hn ⟨j, a[j], b[j], by simp [h1], by simp [h2], hne⟩)
      obtain ⟨j, x, y, hx, hy, hne⟩ := this
      exact smL_at hx hy (by simpa using hne)
  · rw [smL_len hl, decide_eq_false]
    intro e; subst e; exact hl rfl
theorem upTo_succ {α : Type} {a b : List α} {p : α → α → Bool} {i : Nat} {x y : α} (hi : ∀ j : Nat, j < i → ∀ u v, a[j]? = some u → b[j]? = some v → p u v = true) (hx : a[i]? = some x) (hy : b[i]? = some y) (h : p x y = true) :
    ∀ j : Nat, j < i + 1 → ∀ u v, a[j]? = some u → b[j]? = some v → p u v = true := by
  intro j hj u v hu hv
  rcases Nat.lt_or_ge j i with h1 | h1
  · exact hi j h1 u v hu hv
  · have : j = i := by omega
    subst this
    rw [hx] at hu; rw [hy] at hv; cases hu; cases hv; exact h
theorem upTo_all {α : Type} {a b : List α} {p : α → α → Bool} {i : Nat} (hl : a.length = b.length) (hge : a.length ≤ i) (hi : ∀ j : Nat, j < i → ∀ u v, a[j]? = some u → b[j]? = some v → p u v = true) : smL p a b = true :=
  smL_all hl fun j u v hu hv => hi j (Nat.lt_of_lt_of_le (List.getElem?_eq_some_iff.1 hu).1 hge) u v hu hv
def smR (x y : SRule) : Bool := decide (x.name = y.name) && decide (x.alts = y.alts)
def smX (a b : Src) : Bool := decide (a.k = b.k) && decide (a.sep = b.sep) && decide (a.start = b.start) && decide (a.tokens = b.tokens) && smL smR a.rules b.rules
theorem smR_self (x : SRule) : smR x x = true := by simp [smR]
theorem smX_self (a : Src) : smX a a = true := by simp [smX, smL_self fun x _ => smR_self x]
theorem textsR8 (a b : List (List Nat)) (hal : a.length ≤ 1099511627776) : KnownCall Tryz.prog 109 [strs a, strs b] (.d (.bool (decide (a = b)))) := by
  by_cases hlen : a.length = b.length
  · refine knownE Et_ok (fnAt Tryz.func109 (by kernel_rfl) (by kernel_rfl) : FnAt _ _ (mkFn Tryz.f109 [])) ?_
    repeat' (first
      | refine Run.region ?_
      | refine Run.seq ?_
      | ((refine oB (frz := []) Et_ok (fun h => ?_) (fun h => ?_)) <;> (first | (exfalso; simp at h <;> fail) | (exfalso; simp at h; omega) | skip))
      | ((refine eB (fun h => ?_) (fun h => ?_)) <;> (first | (exfalso; simp at h <;> fail) | (exfalso; simp at h; omega) | skip))
      | refine oX (frz := []) Et_ok ?_
      | refine oS ?_
      | refine RunOps.nil ?_
      | refine Run.skip ?_
      | refine cT ?_
      | refine cF ?_
      | refine Run.block ?_
      | refine Run.exit ?_
      | refine Run.draw (frz := []) Et_ok (by kernel_rfl) ?_
      | refine eX ?_
      | refine eS ?_
      | refine eN ?_
      | (refine Run.ret ?_; (first | refine rB ?_ | refine rI ?_ | refine rA ?_ | refine rII ?_ | refine rSI ?_ | refine rT ?_ | refine rS ?_); first | done | (skip))
      | ((exfalso; first | (simp_all <;> fail) | (simp_all; omega)))
      | fail)
    refine Run.loop (fun i : Nat => ⟨PT.ofList [(0, .d (strs a)), (1, .d (strs b)), (5, .d (.int .i64 i))], [], []⟩) (fun i => i ≤ a.length ∧ a.take i = b.take i) (fun i => a.length - i) 0 ⟨Nat.zero_le _, rfl⟩ (weak_of (by repeat' (first | exact trivial | refine ⟨rfl, ?_⟩))) (fun i hi => ?_)
    rcases Nat.lt_or_ge i a.length with hlt | hge
    · obtain ⟨x, hx⟩ := get_ok hlt
      obtain ⟨y, hy⟩ := get_ok (show i < b.length by omega)
      by_cases hxy : x = y
      · subst hxy
        have ht : a.take (i + 1) = b.take (i + 1) := by rw [List.take_add_one, List.take_add_one, hi.2, hx, hy]
        repeat' (first
          | refine Run.region ?_
          | refine Run.seq ?_
          | ((refine oB (frz := []) Et_ok (fun h => ?_) (fun h => ?_)) <;> (first | (exfalso; simp at h <;> fail) | (exfalso; simp at h; omega) | skip))
          | ((refine eB (fun h => ?_) (fun h => ?_)) <;> (first | (exfalso; simp at h <;> fail) | (exfalso; simp at h; omega) | skip))
          | refine oX (frz := []) Et_ok ?_
          | refine oS ?_
          | refine RunOps.nil ?_
          | refine Run.skip ?_
          | refine cT ?_
          | refine cF ?_
          | refine Run.block ?_
          | refine Run.exit ?_
          | refine Run.draw (frz := []) Et_ok (by kernel_rfl) ?_
          | refine eX ?_
          | refine eS ?_
          | refine eN ?_
          | refine oX (frz := []) (v := .d (.ep [.str x])) Et_ok ?_ (hf := (by first | (simp [inB] <;> fail) | (simp [inB]; omega))) (he := (by first | (simp [List.getD_eq_getElem?_getD, cellsD, hx] <;> fail) | fail))
          | refine eX (v := .d (.ep [.str x])) ?_ (hf := (by first | (simp [inB] <;> fail) | (simp [inB]; omega))) (he := (by first | (simp [List.getD_eq_getElem?_getD, cellsD, hx] <;> fail) | fail))
          | refine oX (frz := []) (v := .d (.ep [.str x])) Et_ok ?_ (hf := (by first | (simp [inB] <;> fail) | (simp [inB]; omega))) (he := (by first | (simp [List.getD_eq_getElem?_getD, cellsD, hy] <;> fail) | fail))
          | refine eX (v := .d (.ep [.str x])) ?_ (hf := (by first | (simp [inB] <;> fail) | (simp [inB]; omega))) (he := (by first | (simp [List.getD_eq_getElem?_getD, cellsD, hy] <;> fail) | fail))
          | (refine Run.ret ?_; (first | refine rB ?_ | refine rI ?_ | refine rA ?_ | refine rII ?_ | refine rSI ?_ | refine rT ?_ | refine rS ?_); first | done | (skip))
          | (exact ⟨i + 1, ⟨hlt, ht⟩, by omega, weak_of (by repeat' (first | exact trivial | refine ⟨rfl, ?_⟩ | refine ⟨(inc_get (k := i) (by kernel_rfl) (by omega)), ?_⟩))⟩)
          | ((exfalso; first | (simp_all <;> fail) | (simp_all; omega)))
          | fail)
      · have hne : a ≠ b := fun e => by subst e; rw [hx] at hy; cases hy; exact hxy rfl
        rw [decide_eq_false hne]
        repeat' (first
          | refine Run.region ?_
          | refine Run.seq ?_
          | ((refine oB (frz := []) Et_ok (fun h => ?_) (fun h => ?_)) <;> (first | (exfalso; simp at h <;> fail) | (exfalso; simp at h; omega) | skip))
          | ((refine eB (fun h => ?_) (fun h => ?_)) <;> (first | (exfalso; simp at h <;> fail) | (exfalso; simp at h; omega) | skip))
          | refine oX (frz := []) Et_ok ?_
          | refine oS ?_
          | refine RunOps.nil ?_
          | refine Run.skip ?_
          | refine cT ?_
          | refine cF ?_
          | refine Run.block ?_
          | refine Run.exit ?_
          | refine Run.draw (frz := []) Et_ok (by kernel_rfl) ?_
          | refine eX ?_
          | refine eS ?_
          | refine eN ?_
          | refine oX (frz := []) (v := .d (.ep [.str x])) Et_ok ?_ (hf := (by first | (simp [inB] <;> fail) | (simp [inB]; omega))) (he := (by first | (simp [List.getD_eq_getElem?_getD, cellsD, hx] <;> fail) | fail))
          | refine eX (v := .d (.ep [.str x])) ?_ (hf := (by first | (simp [inB] <;> fail) | (simp [inB]; omega))) (he := (by first | (simp [List.getD_eq_getElem?_getD, cellsD, hx] <;> fail) | fail))
          | refine oX (frz := []) (v := .d (.ep [.str y])) Et_ok ?_ (hf := (by first | (simp [inB] <;> fail) | (simp [inB]; omega))) (he := (by first | (simp [List.getD_eq_getElem?_getD, cellsD, hy] <;> fail) | fail))
          | refine eX (v := .d (.ep [.str y])) ?_ (hf := (by first | (simp [inB] <;> fail) | (simp [inB]; omega))) (he := (by first | (simp [List.getD_eq_getElem?_getD, cellsD, hy] <;> fail) | fail))
          | (refine Run.ret ?_; (first | refine rB ?_ | refine rI ?_ | refine rA ?_ | refine rII ?_ | refine rSI ?_ | refine rT ?_ | refine rS ?_); first | done | (rfl))
          | ((exfalso; first | (simp_all <;> fail) | (simp_all; omega)))
          | fail)
    · have hie : i = a.length := by have := hi.1; omega
      have hab : a = b := by have := hi.2; rw [hie, List.take_length, hlen, List.take_length] at this; exact this
      rw [decide_eq_true hab]
      repeat' (first
        | refine Run.region ?_
        | refine Run.seq ?_
        | ((refine oB (frz := []) Et_ok (fun h => ?_) (fun h => ?_)) <;> (first | (exfalso; simp at h <;> fail) | (exfalso; simp at h; omega) | skip))
        | ((refine eB (fun h => ?_) (fun h => ?_)) <;> (first | (exfalso; simp at h <;> fail) | (exfalso; simp at h; omega) | skip))
        | refine oX (frz := []) Et_ok ?_
        | refine oS ?_
        | refine RunOps.nil ?_
        | refine Run.skip ?_
        | refine cT ?_
        | refine cF ?_
        | refine Run.block ?_
        | refine Run.exit ?_
        | refine Run.draw (frz := []) Et_ok (by kernel_rfl) ?_
        | refine eX ?_
        | refine eS ?_
        | refine eN ?_
        | (refine Run.ret ?_; (first | refine rB ?_ | refine rI ?_ | refine rA ?_ | refine rII ?_ | refine rSI ?_ | refine rT ?_ | refine rS ?_); first | done | (rfl))
        | ((exfalso; first | (simp_all <;> fail) | (simp_all; omega)))
        | fail)
  · have hne : a ≠ b := fun e => by subst e; exact hlen rfl
    rw [decide_eq_false hne]
    refine knownE Et_ok (fnAt Tryz.func109 (by kernel_rfl) (by kernel_rfl) : FnAt _ _ (mkFn Tryz.f109 [])) ?_
    repeat' (first
      | refine Run.region ?_
      | refine Run.seq ?_
      | ((refine oB (frz := []) Et_ok (fun h => ?_) (fun h => ?_)) <;> (first | (exfalso; simp at h <;> fail) | (exfalso; simp at h; omega) | skip))
      | ((refine eB (fun h => ?_) (fun h => ?_)) <;> (first | (exfalso; simp at h <;> fail) | (exfalso; simp at h; omega) | skip))
      | refine oX (frz := []) Et_ok ?_
      | refine oS ?_
      | refine RunOps.nil ?_
      | refine Run.skip ?_
      | refine cT ?_
      | refine cF ?_
      | refine Run.block ?_
      | refine Run.exit ?_
      | refine Run.draw (frz := []) Et_ok (by kernel_rfl) ?_
      | refine eX ?_
      | refine eS ?_
      | refine eN ?_
      | (refine Run.ret ?_; (first | refine rB ?_ | refine rI ?_ | refine rA ?_ | refine rII ?_ | refine rSI ?_ | refine rT ?_ | refine rS ?_); first | done | (rfl))
      | ((exfalso; first | (simp_all <;> fail) | (simp_all; omega)))
      | fail)
theorem equalS (a b : List (List Nat)) (hal : a.length ≤ 1099511627776) : KnownCall Tryz.prog 86 [strs a, strs b] (.d (.bool (decide (a = b)))) := by
  by_cases hlen : a.length = b.length
  · refine knownE Et_ok (fnAt Tryz.func86 (by kernel_rfl) (by kernel_rfl) : FnAt _ _ (mkFn Tryz.f86 [])) ?_
    repeat' (first
      | refine Run.region ?_
      | refine Run.seq ?_
      | ((refine oB (frz := []) Et_ok (fun h => ?_) (fun h => ?_)) <;> (first | (exfalso; simp at h <;> fail) | (exfalso; simp at h; omega) | skip))
      | ((refine eB (fun h => ?_) (fun h => ?_)) <;> (first | (exfalso; simp at h <;> fail) | (exfalso; simp at h; omega) | skip))
      | refine oX (frz := []) Et_ok ?_
      | refine oS ?_
      | refine RunOps.nil ?_
      | refine Run.skip ?_
      | refine cT ?_
      | refine cF ?_
      | refine Run.block ?_
      | refine Run.exit ?_
      | refine Run.draw (frz := []) Et_ok (by kernel_rfl) ?_
      | refine eX ?_
      | refine eS ?_
      | refine eN ?_
      | (refine Run.ret ?_; (first | refine rB ?_ | refine rI ?_ | refine rA ?_ | refine rII ?_ | refine rSI ?_ | refine rT ?_ | refine rS ?_); first | done | (skip))
      | ((exfalso; first | (simp_all <;> fail) | (simp_all; omega)))
      | fail)
    refine Run.loop (fun i : Nat => ⟨PT.ofList [(0, .d (strs a)), (1, .d (strs b)), (12, .d (.int .i64 (a.map DV.str).length)), (13, .d (.int .i64 i))], [], []⟩) (fun i => i ≤ a.length ∧ a.take i = b.take i) (fun i => a.length - i) 0 ⟨Nat.zero_le _, rfl⟩ (weak_of (by repeat' (first | exact trivial | refine ⟨rfl, ?_⟩))) (fun i hi => ?_)
    rcases Nat.lt_or_ge i a.length with hlt | hge
    · obtain ⟨x, hx⟩ := get_ok hlt
      obtain ⟨y, hy⟩ := get_ok (show i < b.length by omega)
      by_cases hxy : x = y
      · subst hxy
        have ht : a.take (i + 1) = b.take (i + 1) := by rw [List.take_add_one, List.take_add_one, hi.2, hx, hy]
        repeat' (first
          | refine Run.region ?_
          | refine Run.seq ?_
          | ((refine oB (frz := []) Et_ok (fun h => ?_) (fun h => ?_)) <;> (first | (exfalso; simp at h <;> fail) | (exfalso; simp at h; omega) | skip))
          | ((refine eB (fun h => ?_) (fun h => ?_)) <;> (first | (exfalso; simp at h <;> fail) | (exfalso; simp at h; omega) | skip))
          | refine oX (frz := []) Et_ok ?_
          | refine oS ?_
          | refine RunOps.nil ?_
          | refine Run.skip ?_
          | refine cT ?_
          | refine cF ?_
          | refine Run.block ?_
          | refine Run.exit ?_
          | refine Run.draw (frz := []) Et_ok (by kernel_rfl) ?_
          | refine eX ?_
          | refine eS ?_
          | refine eN ?_
          | refine oX (frz := []) (v := .d (.ep [.str x])) Et_ok ?_ (hf := (by first | (simp [inB] <;> fail) | (simp [inB]; omega))) (he := (by first | (simp [List.getD_eq_getElem?_getD, cellsD, hx] <;> fail) | fail))
          | refine eX (v := .d (.ep [.str x])) ?_ (hf := (by first | (simp [inB] <;> fail) | (simp [inB]; omega))) (he := (by first | (simp [List.getD_eq_getElem?_getD, cellsD, hx] <;> fail) | fail))
          | refine oX (frz := []) (v := .d (.ep [.str x])) Et_ok ?_ (hf := (by first | (simp [inB] <;> fail) | (simp [inB]; omega))) (he := (by first | (simp [List.getD_eq_getElem?_getD, cellsD, hy] <;> fail) | fail))
          | refine eX (v := .d (.ep [.str x])) ?_ (hf := (by first | (simp [inB] <;> fail) | (simp [inB]; omega))) (he := (by first | (simp [List.getD_eq_getElem?_getD, cellsD, hy] <;> fail) | fail))
          | (refine Run.ret ?_; (first | refine rB ?_ | refine rI ?_ | refine rA ?_ | refine rII ?_ | refine rSI ?_ | refine rT ?_ | refine rS ?_); first | done | (skip))
          | (exact ⟨i + 1, ⟨hlt, ht⟩, by omega, weak_of (by repeat' (first | exact trivial | refine ⟨rfl, ?_⟩ | refine ⟨(inc_get (k := i) (by kernel_rfl) (by omega)), ?_⟩))⟩)
          | ((exfalso; first | (simp_all <;> fail) | (simp_all; omega)))
          | fail)
      · have hne : a ≠ b := fun e => by subst e; rw [hx] at hy; cases hy; exact hxy rfl
        rw [decide_eq_false hne]
        repeat' (first
          | refine Run.region ?_
          | refine Run.seq ?_
          | ((refine oB (frz := []) Et_ok (fun h => ?_) (fun h => ?_)) <;> (first | (exfalso; simp at h <;> fail) | (exfalso; simp at h; omega) | skip))
          | ((refine eB (fun h => ?_) (fun h => ?_)) <;> (first | (exfalso; simp at h <;> fail) | (exfalso; simp at h; omega) | skip))
          | refine oX (frz := []) Et_ok ?_
          | refine oS ?_
          | refine RunOps.nil ?_
          | refine Run.skip ?_
          | refine cT ?_
          | refine cF ?_
          | refine Run.block ?_
          | refine Run.exit ?_
          | refine Run.draw (frz := []) Et_ok (by kernel_rfl) ?_
          | refine eX ?_
          | refine eS ?_
          | refine eN ?_
          | refine oX (frz := []) (v := .d (.ep [.str x])) Et_ok ?_ (hf := (by first | (simp [inB] <;> fail) | (simp [inB]; omega))) (he := (by first | (simp [List.getD_eq_getElem?_getD, cellsD, hx] <;> fail) | fail))
          | refine eX (v := .d (.ep [.str x])) ?_ (hf := (by first | (simp [inB] <;> fail) | (simp [inB]; omega))) (he := (by first | (simp [List.getD_eq_getElem?_getD, cellsD, hx] <;> fail) | fail))
          | refine oX (frz := []) (v := .d (.ep [.str y])) Et_ok ?_ (hf := (by first | (simp [inB] <;> fail) | (simp [inB]; omega))) (he := (by first | (simp [List.getD_eq_getElem?_getD, cellsD, hy] <;> fail) | fail))
          | refine eX (v := .d (.ep [.str y])) ?_ (hf := (by first | (simp [inB] <;> fail) | (simp [inB]; omega))) (he := (by first | (simp [List.getD_eq_getElem?_getD, cellsD, hy] <;> fail) | fail))
          | (refine Run.ret ?_; (first | refine rB ?_ | refine rI ?_ | refine rA ?_ | refine rII ?_ | refine rSI ?_ | refine rT ?_ | refine rS ?_); first | done | (rfl))
          | ((exfalso; first | (simp_all <;> fail) | (simp_all; omega)))
          | fail)
    · have hie : i = a.length := by have := hi.1; omega
      have hab : a = b := by have := hi.2; rw [hie, List.take_length, hlen, List.take_length] at this; exact this
      rw [decide_eq_true hab]
      repeat' (first
        | refine Run.region ?_
        | refine Run.seq ?_
        | ((refine oB (frz := []) Et_ok (fun h => ?_) (fun h => ?_)) <;> (first | (exfalso; simp at h <;> fail) | (exfalso; simp at h; omega) | skip))
        | ((refine eB (fun h => ?_) (fun h => ?_)) <;> (first | (exfalso; simp at h <;> fail) | (exfalso; simp at h; omega) | skip))
        | refine oX (frz := []) Et_ok ?_
        | refine oS ?_
        | refine RunOps.nil ?_
        | refine Run.skip ?_
        | refine cT ?_
        | refine cF ?_
        | refine Run.block ?_
        | refine Run.exit ?_
        | refine Run.draw (frz := []) Et_ok (by kernel_rfl) ?_
        | refine eX ?_
        | refine eS ?_
        | refine eN ?_
        | (refine Run.ret ?_; (first | refine rB ?_ | refine rI ?_ | refine rA ?_ | refine rII ?_ | refine rSI ?_ | refine rT ?_ | refine rS ?_); first | done | (rfl))
        | ((exfalso; first | (simp_all <;> fail) | (simp_all; omega)))
        | fail)
  · have hne : a ≠ b := fun e => by subst e; exact hlen rfl
    rw [decide_eq_false hne]
    refine knownE Et_ok (fnAt Tryz.func86 (by kernel_rfl) (by kernel_rfl) : FnAt _ _ (mkFn Tryz.f86 [])) ?_
    repeat' (first
      | refine Run.region ?_
      | refine Run.seq ?_
      | ((refine oB (frz := []) Et_ok (fun h => ?_) (fun h => ?_)) <;> (first | (exfalso; simp at h <;> fail) | (exfalso; simp at h; omega) | skip))
      | ((refine eB (fun h => ?_) (fun h => ?_)) <;> (first | (exfalso; simp at h <;> fail) | (exfalso; simp at h; omega) | skip))
      | refine oX (frz := []) Et_ok ?_
      | refine oS ?_
      | refine RunOps.nil ?_
      | refine Run.skip ?_
      | refine cT ?_
      | refine cF ?_
      | refine Run.block ?_
      | refine Run.exit ?_
      | refine Run.draw (frz := []) Et_ok (by kernel_rfl) ?_
      | refine eX ?_
      | refine eS ?_
      | refine eN ?_
      | (refine Run.ret ?_; (first | refine rB ?_ | refine rI ?_ | refine rA ?_ | refine rII ?_ | refine rSI ?_ | refine rT ?_ | refine rS ?_); first | done | (rfl))
      | ((exfalso; first | (simp_all <;> fail) | (simp_all; omega)))
      | fail)
theorem equalFuncRules (a b : List SRule) (hal : a.length ≤ 1099511627776) (F : FuncId) (p : SRule → SRule → Bool) (hp : ∀ x ∈ a, ∀ y ∈ b, KnownCall Tryz.prog F [encR x, encR y] (.d (.bool (p x y)))) :
    KnownCall Tryz.prog 87 [.sl 2 (a.map encR), .sl 2 (b.map encR), .fn (.func F) [] []] (.d (.bool (smL p a b))) := by
  by_cases hlen : a.length = b.length
  · refine knownE Et_ok (fnAt Tryz.func87 (by kernel_rfl) (by kernel_rfl) : FnAt _ _ (mkFn Tryz.f87 [])) ?_
    repeat' (first
      | refine Run.region ?_
      | refine Run.seq ?_
      | ((refine oB (frz := []) Et_ok (fun h => ?_) (fun h => ?_)) <;> (first | (exfalso; simp at h <;> fail) | (exfalso; simp at h; omega) | skip))
      | ((refine eB (fun h => ?_) (fun h => ?_)) <;> (first | (exfalso; simp at h <;> fail) | (exfalso; simp at h; omega) | skip))
      | refine oX (frz := []) Et_ok ?_
      | refine oS ?_
      | refine RunOps.nil ?_
      | refine Run.skip ?_
      | refine cT ?_
      | refine cF ?_
      | refine Run.block ?_
      | refine Run.exit ?_
      | refine Run.draw (frz := []) Et_ok (by kernel_rfl) ?_
      | refine eX ?_
      | refine eS ?_
      | refine eN ?_
      | (refine Run.ret ?_; (first | refine rB ?_ | refine rI ?_ | refine rA ?_ | refine rII ?_ | refine rSI ?_ | refine rT ?_ | refine rS ?_); first | done | (skip))
      | ((exfalso; first | (simp_all <;> fail) | (simp_all; omega)))
      | fail)
    refine Run.loopT (fun i : Nat => ⟨PT.ofList [(1, .d (.sl 2 (b.map encR))), (2, .d (.fn (.func F) [] [])), (15, .d (.sl 2 (a.map encR))), (16, .d (.int .i64 (a.map encR).length)), (17, .d (.int .i64 i))], [], []⟩) (fun i => i ≤ a.length ∧ ∀ j : Nat, j < i → ∀ u v, a[j]? = some u → b[j]? = some v → p u v = true) (fun i => a.length - i) 0 ⟨Nat.zero_le _, fun j hj => by omega⟩ (tidy_of (objs := _) _ 0 (by rfl) rfl (by repeat' (first | exact trivial | refine ⟨(Or.inl rfl), ?_⟩ | refine ⟨(Or.inr rfl), ?_⟩ | fail)) (by repeat' (first | exact trivial | refine ⟨rfl, ?_⟩ | fail)) rfl rfl) (fun i hi => ?_)
    rcases Nat.lt_or_ge i a.length with hlt | hge
    · obtain ⟨x, hx⟩ := get_ok hlt
      obtain ⟨y, hy⟩ := get_ok (show i < b.length by omega)
      have hc := hp x (List.mem_of_getElem? hx) y (List.mem_of_getElem? hy)
      cases hxy : p x y with
      | true =>
        rw [hxy] at hc
        have ht := upTo_succ hi.2 hx hy hxy
        repeat' (first
          | refine Run.region ?_
          | refine Run.seq ?_
          | ((refine oB (frz := []) Et_ok (fun h => ?_) (fun h => ?_)) <;> (first | (exfalso; simp at h <;> fail) | (exfalso; simp at h; omega) | skip))
          | ((refine eB (fun h => ?_) (fun h => ?_)) <;> (first | (exfalso; simp at h <;> fail) | (exfalso; simp at h; omega) | skip))
          | refine oX (frz := []) Et_ok ?_
          | refine oS ?_
          | refine RunOps.nil ?_
          | refine Run.skip ?_
          | refine cT ?_
          | refine cF ?_
          | refine Run.block ?_
          | refine Run.exit ?_
          | refine Run.draw (frz := []) Et_ok (by kernel_rfl) ?_
          | refine eX ?_
          | refine eS ?_
          | refine eN ?_
          | refine oX (frz := []) (v := .d (.ep [.str x.name, Go.Av.alts x.alts])) Et_ok ?_ (hf := (by first | (simp [inB] <;> fail) | (simp [inB]; omega))) (he := (by first | (simp [List.getD_eq_getElem?_getD, cellsD, hx, encR] <;> fail) | fail))
          | refine eX (v := .d (.ep [.str x.name, Go.Av.alts x.alts])) ?_ (hf := (by first | (simp [inB] <;> fail) | (simp [inB]; omega))) (he := (by first | (simp [List.getD_eq_getElem?_getD, cellsD, hx, encR] <;> fail) | fail))
          | refine oX (frz := []) (v := .d (.ep [.str y.name, Go.Av.alts y.alts])) Et_ok ?_ (hf := (by first | (simp [inB] <;> fail) | (simp [inB]; omega))) (he := (by first | (simp [List.getD_eq_getElem?_getD, cellsD, hy, encR] <;> fail) | fail))
          | refine eX (v := .d (.ep [.str y.name, Go.Av.alts y.alts])) ?_ (hf := (by first | (simp [inB] <;> fail) | (simp [inB]; omega))) (he := (by first | (simp [List.getD_eq_getElem?_getD, cellsD, hy, encR] <;> fail) | fail))
          | refine oC (hc) ?_
          | refine eC (hc) ?_
          | (refine Run.ret ?_; (first | refine rB ?_ | refine rI ?_ | refine rA ?_ | refine rII ?_ | refine rSI ?_ | refine rT ?_ | refine rS ?_); first | done | (skip))
          | (exact ⟨i + 1, ⟨hlt, ht⟩, by omega, (tidy_of (objs := _) _ 0 (by rfl) rfl (by repeat' (first | exact trivial | refine ⟨(Or.inl rfl), ?_⟩ | refine ⟨(Or.inl (inc_get (k := i) (by kernel_rfl) (by omega))), ?_⟩ | refine ⟨(Or.inr rfl), ?_⟩ | fail)) (by repeat' (first | exact trivial | refine ⟨rfl, ?_⟩ | fail)) rfl rfl)⟩)
          | ((exfalso; first | (simp_all <;> fail) | (simp_all; omega)))
          | fail)
      | false =>
        rw [hxy] at hc
        rw [smL_at hx hy hxy]
        repeat' (first
          | refine Run.region ?_
          | refine Run.seq ?_
          | ((refine oB (frz := []) Et_ok (fun h => ?_) (fun h => ?_)) <;> (first | (exfalso; simp at h <;> fail) | (exfalso; simp at h; omega) | skip))
          | ((refine eB (fun h => ?_) (fun h => ?_)) <;> (first | (exfalso; simp at h <;> fail) | (exfalso; simp at h; omega) | skip))
          | refine oX (frz := []) Et_ok ?_
          | refine oS ?_
          | refine RunOps.nil ?_
          | refine Run.skip ?_
          | refine cT ?_
          | refine cF ?_
          | refine Run.block ?_
          | refine Run.exit ?_
          | refine Run.draw (frz := []) Et_ok (by kernel_rfl) ?_
          | refine eX ?_
          | refine eS ?_
          | refine eN ?_
          | refine oX (frz := []) (v := .d (.ep [.str x.name, Go.Av.alts x.alts])) Et_ok ?_ (hf := (by first | (simp [inB] <;> fail) | (simp [inB]; omega))) (he := (by first | (simp [List.getD_eq_getElem?_getD, cellsD, hx, encR] <;> fail) | fail))
          | refine eX (v := .d (.ep [.str x.name, Go.Av.alts x.alts])) ?_ (hf := (by first | (simp [inB] <;> fail) | (simp [inB]; omega))) (he := (by first | (simp [List.getD_eq_getElem?_getD, cellsD, hx, encR] <;> fail) | fail))
          | refine oX (frz := []) (v := .d (.ep [.str y.name, Go.Av.alts y.alts])) Et_ok ?_ (hf := (by first | (simp [inB] <;> fail) | (simp [inB]; omega))) (he := (by first | (simp [List.getD_eq_getElem?_getD, cellsD, hy, encR] <;> fail) | fail))
          | refine eX (v := .d (.ep [.str y.name, Go.Av.alts y.alts])) ?_ (hf := (by first | (simp [inB] <;> fail) | (simp [inB]; omega))) (he := (by first | (simp [List.getD_eq_getElem?_getD, cellsD, hy, encR] <;> fail) | fail))
          | refine oC (hc) ?_
          | refine eC (hc) ?_
          | (refine Run.ret ?_; (first | refine rB ?_ | refine rI ?_ | refine rA ?_ | refine rII ?_ | refine rSI ?_ | refine rT ?_ | refine rS ?_); first | done | (rfl))
          | ((exfalso; first | (simp_all <;> fail) | (simp_all; omega)))
          | fail)
    · rw [upTo_all hlen hge hi.2]
      have hie : i = a.length := by have := hi.1; omega
      subst hie
      repeat' (first
        | refine Run.region ?_
        | refine Run.seq ?_
        | ((refine oB (frz := []) Et_ok (fun h => ?_) (fun h => ?_)) <;> (first | (exfalso; simp at h <;> fail) | (exfalso; simp at h; omega) | skip))
        | ((refine eB (fun h => ?_) (fun h => ?_)) <;> (first | (exfalso; simp at h <;> fail) | (exfalso; simp at h; omega) | skip))
        | refine oX (frz := []) Et_ok ?_
        | refine oS ?_
        | refine RunOps.nil ?_
        | refine Run.skip ?_
        | refine cT ?_
        | refine cF ?_
        | refine Run.block ?_
        | refine Run.exit ?_
        | refine Run.draw (frz := []) Et_ok (by kernel_rfl) ?_
        | refine eX ?_
        | refine eS ?_
        | refine eN ?_
        | (refine Run.ret ?_; (first | refine rB ?_ | refine rI ?_ | refine rA ?_ | refine rII ?_ | refine rSI ?_ | refine rT ?_ | refine rS ?_); first | done | (rfl))
        | ((exfalso; first | (simp_all <;> fail) | (simp_all; omega)))
        | fail)
  · rw [smL_len hlen]
    refine knownE Et_ok (fnAt Tryz.func87 (by kernel_rfl) (by kernel_rfl) : FnAt _ _ (mkFn Tryz.f87 [])) ?_
    repeat' (first
      | refine Run.region ?_
      | refine Run.seq ?_
      | ((refine oB (frz := []) Et_ok (fun h => ?_) (fun h => ?_)) <;> (first | (exfalso; simp at h <;> fail) | (exfalso; simp at h; omega) | skip))
      | ((refine eB (fun h => ?_) (fun h => ?_)) <;> (first | (exfalso; simp at h <;> fail) | (exfalso; simp at h; omega) | skip))
      | refine oX (frz := []) Et_ok ?_
      | refine oS ?_
      | refine RunOps.nil ?_
      | refine Run.skip ?_
      | refine cT ?_
      | refine cF ?_
      | refine Run.block ?_
      | refine Run.exit ?_
      | refine Run.draw (frz := []) Et_ok (by kernel_rfl) ?_
      | refine eX ?_
      | refine eS ?_
      | refine eN ?_
      | (refine Run.ret ?_; (first | refine rB ?_ | refine rI ?_ | refine rA ?_ | refine rII ?_ | refine rSI ?_ | refine rT ?_ | refine rS ?_); first | done | (rfl))
      | ((exfalso; first | (simp_all <;> fail) | (simp_all; omega)))
      | fail)
theorem equalFuncAlts (a b : List (List (List Nat))) (hal : a.length ≤ 1099511627776) (F : FuncId) (p : (List (List Nat)) → (List (List Nat)) → Bool) (hp : ∀ x ∈ a, ∀ y ∈ b, KnownCall Tryz.prog F [strs x, strs y] (.d (.bool (p x y)))) :
    KnownCall Tryz.prog 89 [.sl 1 (a.map strs), .sl 1 (b.map strs), .fn (.func F) [] []] (.d (.bool (smL p a b))) := by
  by_cases hlen : a.length = b.length
  · refine knownE Et_ok (fnAt Tryz.func89 (by kernel_rfl) (by kernel_rfl) : FnAt _ _ (mkFn Tryz.f89 [])) ?_
    repeat' (first
      | refine Run.region ?_
      | refine Run.seq ?_
      | ((refine oB (frz := []) Et_ok (fun h => ?_) (fun h => ?_)) <;> (first | (exfalso; simp at h <;> fail) | (exfalso; simp at h; omega) | skip))
      | ((refine eB (fun h => ?_) (fun h => ?_)) <;> (first | (exfalso; simp at h <;> fail) | (exfalso; simp at h; omega) | skip))
      | refine oX (frz := []) Et_ok ?_
      | refine oS ?_
      | refine RunOps.nil ?_
      | refine Run.skip ?_
      | refine cT ?_
      | refine cF ?_
      | refine Run.block ?_
      | refine Run.exit ?_
      | refine Run.draw (frz := []) Et_ok (by kernel_rfl) ?_
      | refine eX ?_
      | refine eS ?_
      | refine eN ?_
      | (refine Run.ret ?_; (first | refine rB ?_ | refine rI ?_ | refine rA ?_ | refine rII ?_ | refine rSI ?_ | refine rT ?_ | refine rS ?_); first | done | (skip))
      | ((exfalso; first | (simp_all <;> fail) | (simp_all; omega)))
      | fail)
    refine Run.loopT (fun i : Nat => ⟨PT.ofList [(1, .d (.sl 1 (b.map strs))), (2, .d (.fn (.func F) [] [])), (15, .d (.sl 1 (a.map strs))), (16, .d (.int .i64 (a.map strs).length)), (17, .d (.int .i64 i))], [], []⟩) (fun i => i ≤ a.length ∧ ∀ j : Nat, j < i → ∀ u v, a[j]? = some u → b[j]? = some v → p u v = true) (fun i => a.length - i) 0 ⟨Nat.zero_le _, fun j hj => by omega⟩ (tidy_of (objs := _) _ 0 (by rfl) rfl (by repeat' (first | exact trivial | refine ⟨(Or.inl rfl), ?_⟩ | refine ⟨(Or.inr rfl), ?_⟩ | fail)) (by repeat' (first | exact trivial | refine ⟨rfl, ?_⟩ | fail)) rfl rfl) (fun i hi => ?_)
    rcases Nat.lt_or_ge i a.length with hlt | hge
    · obtain ⟨x, hx⟩ := get_ok hlt
      obtain ⟨y, hy⟩ := get_ok (show i < b.length by omega)
      have hc := hp x (List.mem_of_getElem? hx) y (List.mem_of_getElem? hy)
      cases hxy : p x y with
      | true =>
        rw [hxy] at hc
        have ht := upTo_succ hi.2 hx hy hxy
        repeat' (first
          | refine Run.region ?_
          | refine Run.seq ?_
          | ((refine oB (frz := []) Et_ok (fun h => ?_) (fun h => ?_)) <;> (first | (exfalso; simp at h <;> fail) | (exfalso; simp at h; omega) | skip))
          | ((refine eB (fun h => ?_) (fun h => ?_)) <;> (first | (exfalso; simp at h <;> fail) | (exfalso; simp at h; omega) | skip))
          | refine oX (frz := []) Et_ok ?_
          | refine oS ?_
          | refine RunOps.nil ?_
          | refine Run.skip ?_
          | refine cT ?_
          | refine cF ?_
          | refine Run.block ?_
          | refine Run.exit ?_
          | refine Run.draw (frz := []) Et_ok (by kernel_rfl) ?_
          | refine eX ?_
          | refine eS ?_
          | refine eN ?_
          | refine oX (frz := []) (v := .d (.ep [strs x])) Et_ok ?_ (hf := (by first | (simp [inB] <;> fail) | (simp [inB]; omega))) (he := (by first | (simp [List.getD_eq_getElem?_getD, cellsD, hx, strs] <;> fail) | fail))
          | refine eX (v := .d (.ep [strs x])) ?_ (hf := (by first | (simp [inB] <;> fail) | (simp [inB]; omega))) (he := (by first | (simp [List.getD_eq_getElem?_getD, cellsD, hx, strs] <;> fail) | fail))
          | refine oX (frz := []) (v := .d (.ep [strs y])) Et_ok ?_ (hf := (by first | (simp [inB] <;> fail) | (simp [inB]; omega))) (he := (by first | (simp [List.getD_eq_getElem?_getD, cellsD, hy, strs] <;> fail) | fail))
          | refine eX (v := .d (.ep [strs y])) ?_ (hf := (by first | (simp [inB] <;> fail) | (simp [inB]; omega))) (he := (by first | (simp [List.getD_eq_getElem?_getD, cellsD, hy, strs] <;> fail) | fail))
          | refine oC (hc) ?_
          | refine eC (hc) ?_
          | (refine Run.ret ?_; (first | refine rB ?_ | refine rI ?_ | refine rA ?_ | refine rII ?_ | refine rSI ?_ | refine rT ?_ | refine rS ?_); first | done | (skip))
          | (exact ⟨i + 1, ⟨hlt, ht⟩, by omega, (tidy_of (objs := _) _ 0 (by rfl) rfl (by repeat' (first | exact trivial | refine ⟨(Or.inl rfl), ?_⟩ | refine ⟨(Or.inl (inc_get (k := i) (by kernel_rfl) (by omega))), ?_⟩ | refine ⟨(Or.inr rfl), ?_⟩ | fail)) (by repeat' (first | exact trivial | refine ⟨rfl, ?_⟩ | fail)) rfl rfl)⟩)
          | ((exfalso; first | (simp_all <;> fail) | (simp_all; omega)))
          | fail)
      | false =>
        rw [hxy] at hc
        rw [smL_at hx hy hxy]
        repeat' (first
          | refine Run.region ?_
          | refine Run.seq ?_
          | ((refine oB (frz := []) Et_ok (fun h => ?_) (fun h => ?_)) <;> (first | (exfalso; simp at h <;> fail) | (exfalso; simp at h; omega) | skip))
          | ((refine eB (fun h => ?_) (fun h => ?_)) <;> (first | (exfalso; simp at h <;> fail) | (exfalso; simp at h; omega) | skip))
          | refine oX (frz := []) Et_ok ?_
          | refine oS ?_
          | refine RunOps.nil ?_
          | refine Run.skip ?_
          | refine cT ?_
          | refine cF ?_
          | refine Run.block ?_
          | refine Run.exit ?_
          | refine Run.draw (frz := []) Et_ok (by kernel_rfl) ?_
          | refine eX ?_
          | refine eS ?_
          | refine eN ?_
          | refine oX (frz := []) (v := .d (.ep [strs x])) Et_ok ?_ (hf := (by first | (simp [inB] <;> fail) | (simp [inB]; omega))) (he := (by first | (simp [List.getD_eq_getElem?_getD, cellsD, hx, strs] <;> fail) | fail))
          | refine eX (v := .d (.ep [strs x])) ?_ (hf := (by first | (simp [inB] <;> fail) | (simp [inB]; omega))) (he := (by first | (simp [List.getD_eq_getElem?_getD, cellsD, hx, strs] <;> fail) | fail))
          | refine oX (frz := []) (v := .d (.ep [strs y])) Et_ok ?_ (hf := (by first | (simp [inB] <;> fail) | (simp [inB]; omega))) (he := (by first | (simp [List.getD_eq_getElem?_getD, cellsD, hy, strs] <;> fail) | fail))
          | refine eX (v := .d (.ep [strs y])) ?_ (hf := (by first | (simp [inB] <;> fail) | (simp [inB]; omega))) (he := (by first | (simp [List.getD_eq_getElem?_getD, cellsD, hy, strs] <;> fail) | fail))
          | refine oC (hc) ?_
          | refine eC (hc) ?_
          | (refine Run.ret ?_; (first | refine rB ?_ | refine rI ?_ | refine rA ?_ | refine rII ?_ | refine rSI ?_ | refine rT ?_ | refine rS ?_); first | done | (rfl))
          | ((exfalso; first | (simp_all <;> fail) | (simp_all; omega)))
          | fail)
    · rw [upTo_all hlen hge hi.2]
      have hie : i = a.length := by have := hi.1; omega
      subst hie
      repeat' (first
        | refine Run.region ?_
        | refine Run.seq ?_
        | ((refine oB (frz := []) Et_ok (fun h => ?_) (fun h => ?_)) <;> (first | (exfalso; simp at h <;> fail) | (exfalso; simp at h; omega) | skip))
        | ((refine eB (fun h => ?_) (fun h => ?_)) <;> (first | (exfalso; simp at h <;> fail) | (exfalso; simp at h; omega) | skip))
        | refine oX (frz := []) Et_ok ?_
        | refine oS ?_
        | refine RunOps.nil ?_
        | refine Run.skip ?_
        | refine cT ?_
        | refine cF ?_
        | refine Run.block ?_
        | refine Run.exit ?_
        | refine Run.draw (frz := []) Et_ok (by kernel_rfl) ?_
        | refine eX ?_
        | refine eS ?_
        | refine eN ?_
        | (refine Run.ret ?_; (first | refine rB ?_ | refine rI ?_ | refine rA ?_ | refine rII ?_ | refine rSI ?_ | refine rT ?_ | refine rS ?_); first | done | (rfl))
        | ((exfalso; first | (simp_all <;> fail) | (simp_all; omega)))
        | fail)
  · rw [smL_len hlen]
    refine knownE Et_ok (fnAt Tryz.func89 (by kernel_rfl) (by kernel_rfl) : FnAt _ _ (mkFn Tryz.f89 [])) ?_
    repeat' (first
      | refine Run.region ?_
      | refine Run.seq ?_
      | ((refine oB (frz := []) Et_ok (fun h => ?_) (fun h => ?_)) <;> (first | (exfalso; simp at h <;> fail) | (exfalso; simp at h; omega) | skip))
      | ((refine eB (fun h => ?_) (fun h => ?_)) <;> (first | (exfalso; simp at h <;> fail) | (exfalso; simp at h; omega) | skip))
      | refine oX (frz := []) Et_ok ?_
      | refine oS ?_
      | refine RunOps.nil ?_
      | refine Run.skip ?_
      | refine cT ?_
      | refine cF ?_
      | refine Run.block ?_
      | refine Run.exit ?_
      | refine Run.draw (frz := []) Et_ok (by kernel_rfl) ?_
      | refine eX ?_
      | refine eS ?_
      | refine eN ?_
      | (refine Run.ret ?_; (first | refine rB ?_ | refine rI ?_ | refine rA ?_ | refine rII ?_ | refine rSI ?_ | refine rT ?_ | refine rS ?_); first | done | (rfl))
      | ((exfalso; first | (simp_all <;> fail) | (simp_all; omega)))
      | fail)
theorem sameRule1 (x y : SRule) (hx : x.alts.length ≤ 1099511627776) (hxs : ∀ a ∈ x.alts, a.length ≤ 1099511627776) : KnownCall Tryz.prog 88 [encR x, encR y] (.d (.bool (smR x y))) := by
  have c := equalFuncAlts x.alts y.alts hx 86 (fun u v => decide (u = v)) (fun u hu v _ => equalS u v (hxs u hu))
  rw [smL_dec] at c
  unfold smR
  generalize decide (x.alts = y.alts) = b at c ⊢
  by_cases h1 : x.name = y.name
  · rw [decide_eq_true h1]
    cases b with
    | true =>
      refine knownE Et_ok (fnAt Tryz.func88 (by kernel_rfl) (by kernel_rfl) : FnAt _ _ (mkFn Tryz.f88 [2, 3])) ?_
      repeat' (first
        | refine Run.region ?_
        | refine Run.seq ?_
        | ((refine oB (frz := [2, 3]) Et_ok (fun h => ?_) (fun h => ?_)) <;> (first | (exfalso; simp at h <;> fail) | (exfalso; simp at h; omega) | skip))
        | ((refine eB (fun h => ?_) (fun h => ?_)) <;> (first | (exfalso; simp at h <;> fail) | (exfalso; simp at h; omega) | skip))
        | refine oX (frz := [2, 3]) Et_ok ?_
        | refine oS ?_
        | refine RunOps.nil ?_
        | refine Run.skip ?_
        | refine cT ?_
        | refine cF ?_
        | refine Run.block ?_
        | refine Run.exit ?_
        | refine Run.draw (frz := [2, 3]) Et_ok (by kernel_rfl) ?_
        | refine eX ?_
        | refine eS ?_
        | refine eN ?_
        | refine oC (c) ?_
        | refine eC (c) ?_
        | (refine Run.ret ?_; (first | refine rB ?_ | refine rI ?_ | refine rA ?_ | refine rII ?_ | refine rSI ?_ | refine rT ?_ | refine rS ?_); first | done | (rfl))
        | ((exfalso; first | (simp_all <;> fail) | (simp_all; omega)))
        | fail)
    | false =>
      refine knownE Et_ok (fnAt Tryz.func88 (by kernel_rfl) (by kernel_rfl) : FnAt _ _ (mkFn Tryz.f88 [2, 3])) ?_
      repeat' (first
        | refine Run.region ?_
        | refine Run.seq ?_
        | ((refine oB (frz := [2, 3]) Et_ok (fun h => ?_) (fun h => ?_)) <;> (first | (exfalso; simp at h <;> fail) | (exfalso; simp at h; omega) | skip))
        | ((refine eB (fun h => ?_) (fun h => ?_)) <;> (first | (exfalso; simp at h <;> fail) | (exfalso; simp at h; omega) | skip))
        | refine oX (frz := [2, 3]) Et_ok ?_
        | refine oS ?_
        | refine RunOps.nil ?_
        | refine Run.skip ?_
        | refine cT ?_
        | refine cF ?_
        | refine Run.block ?_
        | refine Run.exit ?_
        | refine Run.draw (frz := [2, 3]) Et_ok (by kernel_rfl) ?_
        | refine eX ?_
        | refine eS ?_
        | refine eN ?_
        | refine oC (c) ?_
        | refine eC (c) ?_
        | (refine Run.ret ?_; (first | refine rB ?_ | refine rI ?_ | refine rA ?_ | refine rII ?_ | refine rSI ?_ | refine rT ?_ | refine rS ?_); first | done | (rfl))
        | ((exfalso; first | (simp_all <;> fail) | (simp_all; omega)))
        | fail)
  · rw [decide_eq_false h1]
    refine knownE Et_ok (fnAt Tryz.func88 (by kernel_rfl) (by kernel_rfl) : FnAt _ _ (mkFn Tryz.f88 [2, 3])) ?_
    repeat' (first
      | refine Run.region ?_
      | refine Run.seq ?_
      | ((refine oB (frz := [2, 3]) Et_ok (fun h => ?_) (fun h => ?_)) <;> (first | (exfalso; simp at h <;> fail) | (exfalso; simp at h; omega) | skip))
      | ((refine eB (fun h => ?_) (fun h => ?_)) <;> (first | (exfalso; simp at h <;> fail) | (exfalso; simp at h; omega) | skip))
      | refine oX (frz := [2, 3]) Et_ok ?_
      | refine oS ?_
      | refine RunOps.nil ?_
      | refine Run.skip ?_
      | refine cT ?_
      | refine cF ?_
      | refine Run.block ?_
      | refine Run.exit ?_
      | refine Run.draw (frz := [2, 3]) Et_ok (by kernel_rfl) ?_
      | refine eX ?_
      | refine eS ?_
      | refine eN ?_
      | refine oC (c) ?_
      | refine eC (c) ?_
      | (refine Run.ret ?_; (first | refine rB ?_ | refine rI ?_ | refine rA ?_ | refine rII ?_ | refine rSI ?_ | refine rT ?_ | refine rS ?_); first | done | (rfl))
      | ((exfalso; first | (simp_all <;> fail) | (simp_all; omega)))
      | fail)
theorem sameSr (a b : Src) (ha : FitsX a) : KnownCall Tryz.prog 22 [encX a, encX b] (.d (.bool (smX a b))) := by
  have c1 := equalS a.tokens b.tokens (Nat.le_trans ha.tokens (by decide))
  have c3 := equalFuncRules a.rules b.rules (Nat.le_trans ha.rules (by decide)) 88 smR (fun x hx y _ => sameRule1 x y (Nat.le_trans (ha.alts x hx) (by decide)) (fun u hu => Nat.le_trans (ha.names x hx u hu) (by decide)))
  unfold smX
  generalize decide (a.tokens = b.tokens) = b1 at c1 ⊢
  generalize smL smR a.rules b.rules = b3 at c3 ⊢
  refine knownE Et_ok (fnAt Tryz.func22 (by kernel_rfl) (by kernel_rfl) : FnAt _ _ (mkFn Tryz.f22 [2, 3])) ?_
  repeat' (first
    | refine Run.region ?_
    | refine Run.seq ?_
    | ((refine oB (frz := [2, 3]) Et_ok (fun h => ?_) (fun h => ?_)) <;> (first | (exfalso; simp at h <;> fail) | (exfalso; simp at h; omega) | skip))
    | ((refine eB (fun h => ?_) (fun h => ?_)) <;> (first | (exfalso; simp at h <;> fail) | (exfalso; simp at h; omega) | skip))
    | refine oX (frz := [2, 3]) Et_ok ?_
    | refine oS ?_
    | refine RunOps.nil ?_
    | refine Run.skip ?_
    | refine cT ?_
    | refine cF ?_
    | refine Run.block ?_
    | refine Run.exit ?_
    | refine Run.draw (frz := [2, 3]) Et_ok (by kernel_rfl) ?_
    | refine eX ?_
    | refine eS ?_
    | refine eN ?_
    | ((refine oK (c1) (fun h => ?_) (fun h => ?_)) <;> (first | (exfalso; simp at h <;> fail) | (exfalso; simp at h; omega) | skip))
    | refine oC (c1) ?_
    | ((refine eK (c1) (fun h => ?_) (fun h => ?_)) <;> (first | (exfalso; simp at h <;> fail) | (exfalso; simp at h; omega) | skip))
    | refine eC (c1) ?_
    | ((refine oK (c3) (fun h => ?_) (fun h => ?_)) <;> (first | (exfalso; simp at h <;> fail) | (exfalso; simp at h; omega) | skip))
    | refine oC (c3) ?_
    | ((refine eK (c3) (fun h => ?_) (fun h => ?_)) <;> (first | (exfalso; simp at h <;> fail) | (exfalso; simp at h; omega) | skip))
    | refine eC (c3) ?_
    | (refine Run.ret ?_; (first | refine rB ?_ | refine rI ?_ | refine rA ?_ | refine rII ?_ | refine rSI ?_ | refine rT ?_ | refine rS ?_); first | done | (first | rfl | (simp_all <;> fail)))
    | ((exfalso; first | (simp_all <;> fail) | (simp_all; omega)))
    | fail)
end Go.Av
end
noncomputable section
namespace Go.Av
open Go Go.Proofs
set_option maxRecDepth 10000
end Go.Av
end
noncomputable section
namespace Go.Av
open Go Go.Proofs
set_option maxRecDepth 10000
theorem vN8 {x : Int} {n : Nat} (h : x = (n : Int)) (hn : n ≤ 1099511627776) : AV.d (.int .i64 (IntKind.i64.wrap x)) = .d (.int .i64 (n : Int)) := by
  subst h; exact congrArg (fun n => AV.d (.int .i64 n)) (wrap_nat hn)
def longA (a : List (List Nat)) : Bool := decide (6 < a.length)
def sumTo (x : Src) (i : Nat) : Nat := ((x.rules.take i).map (·.alts.length)).sum
theorem sumTo_succ {x : Src} {i : Nat} {r : SRule} (h : x.rules[i]? = some r) : sumTo x (i + 1) = sumTo x i + r.alts.length := by
  simp [sumTo, List.take_add_one, h]
theorem sumTo_le {x : Src} (hf : FitsX x) : ∀ {i : Nat}, i ≤ x.rules.length → sumTo x i ≤ i * 1048576
  | 0, _ => by simp [sumTo]
  | i + 1, hi => by
    obtain ⟨r, hr⟩ := get_ok (show i < x.rules.length by omega)
    have h1 := sumTo_le hf (i := i) (by omega)
    have h2 := hf.alts r (List.mem_of_getElem? hr)
    rw [sumTo_succ hr, Nat.succ_mul]; omega
theorem le_sum : ∀ {l : List Nat} {a : Nat}, a ∈ l → a ≤ l.sum
  | b :: l, a, h => by
    rw [List.sum_cons]
    rcases List.mem_cons.1 h with rfl | h
    · omega
    · have := le_sum h; omega
theorem le_sumTo {x : Src} {r : SRule} (h : r ∈ x.rules) : r.alts.length ≤ sumTo x x.rules.length := by
  unfold sumTo
  rw [List.take_length]
  obtain ⟨i, hi, rfl⟩ := List.getElem_of_mem h
  exact le_sum (List.mem_map.2 ⟨_, h, rfl⟩)
def fullX (x : Src) : Bool := x.rules.any (fun r => r.alts.any longA) || decide (8 < x.tokens.length) || decide (8 < x.rules.length) || decide (24 < sumTo x x.rules.length)
theorem fullX_end {x : Src} (h : (x.rules.take x.rules.length).any (fun r => (r.alts.take 25).any longA) = false) : fullX x = (decide (8 < x.tokens.length) || decide (8 < x.rules.length) || decide (24 < sumTo x x.rules.length)) := by
  by_cases hs : 24 < sumTo x x.rules.length
  · simp [fullX, hs]
  · have : x.rules.any (fun r => r.alts.any longA) = false := by
      rw [List.any_eq_false]
      intro r hr
      have h1 := le_sumTo hr
      rw [List.take_length, List.any_eq_false] at h
      have h2 := h r hr
      rw [List.take_of_length_le (by omega)] at h2
      exact h2
    simp [fullX, this]
theorem full08 (x : Src) (hf : FitsX x) : KnownCall Tryz.prog 128 [encX x] (.d (.bool (fullX x))) := by
  have hrl := hf.rules
  refine knownE Et_ok (fnAt Tryz.func128 (by kernel_rfl) (by kernel_rfl) : FnAt _ _ (mkFn Tryz.f128 [1])) ?_
  repeat' (first
    | refine Run.region ?_
    | refine Run.seq ?_
    | ((refine oB (frz := [1]) Et_ok (fun h => ?_) (fun h => ?_)) <;> (first | (exfalso; simp at h <;> fail) | (exfalso; simp at h; omega) | skip))
    | ((refine eB (fun h => ?_) (fun h => ?_)) <;> (first | (exfalso; simp at h <;> fail) | (exfalso; simp at h; omega) | skip))
    | refine oX (frz := [1]) Et_ok ?_
    | refine oS ?_
    | refine RunOps.nil ?_
    | refine Run.skip ?_
    | refine cT ?_
    | refine cF ?_
    | refine Run.block ?_
    | refine Run.exit ?_
    | refine Run.draw (frz := [1]) Et_ok (by kernel_rfl) ?_
    | refine eX ?_
    | refine eS ?_
    | refine eN ?_
    | (refine Run.ret ?_; (first | refine rB ?_ | refine rI ?_ | refine rA ?_ | refine rII ?_ | refine rSI ?_ | refine rT ?_ | refine rS ?_); first | done | (skip))
    | fail)
  refine Run.loop (fun i : Nat => ⟨PT.ofList [(1, cellX x), (3, .d (.int .i64 (sumTo x i : Nat))), (4, .d (.int .i64 i))], [], []⟩) (fun i => i ≤ x.rules.length ∧ i ≤ 9 ∧ (x.rules.take i).any (fun r => (r.alts.take 25).any longA) = false) (fun i => x.rules.length - i) 0 ⟨Nat.zero_le _, Nat.zero_le _, rfl⟩ (weak_of (by repeat' (first | exact trivial | refine ⟨rfl, ?_⟩))) (fun i hi => ?_)
  obtain ⟨hi1, hi2, hi3⟩ := hi
  by_cases hlt : i < x.rules.length ∧ i ≤ 8
  · obtain ⟨hl1, hl2⟩ := hlt
    obtain ⟨r, hr⟩ := get_ok hl1
    have hra := hf.alts r (List.mem_of_getElem? hr)
    have hsl := sumTo_le hf (i := i) hi1
    have hsum : AV.d (.int .i64 (IntKind.i64.wrap ((sumTo x i : Nat) + ((r.alts.map strs).length : Int)))) = .d (.int .i64 (sumTo x (i + 1) : Nat)) := vN8 (by rw [sumTo_succ hr]; simp) (by rw [sumTo_succ hr]; omega)
    repeat' (first
      | refine oX (frz := [1]) (v := .d (.int .i64 (sumTo x (i + 1) : Nat))) Et_ok ?_ (he := (hsum))
      | refine eX (v := .d (.int .i64 (sumTo x (i + 1) : Nat))) ?_ (he := (hsum))
      | refine Run.region ?_
      | refine Run.seq ?_
      | ((refine oB (frz := [1]) Et_ok (fun h => ?_) (fun h => ?_)) <;> (first | (exfalso; simp at h <;> fail) | (exfalso; simp at h; omega) | skip))
      | ((refine eB (fun h => ?_) (fun h => ?_)) <;> (first | (exfalso; simp at h <;> fail) | (exfalso; simp at h; omega) | skip))
      | refine oX (frz := [1]) Et_ok ?_
      | refine oS ?_
      | refine RunOps.nil ?_
      | refine Run.skip ?_
      | refine cT ?_
      | refine cF ?_
      | refine Run.block ?_
      | refine Run.exit ?_
      | refine Run.draw (frz := [1]) Et_ok (by kernel_rfl) ?_
      | refine eX ?_
      | refine eS ?_
      | refine eN ?_
      | refine oX (frz := [1]) (v := .d (.ep [.str r.name, alts r.alts])) Et_ok ?_ (hf := (by first | (simp [inB] <;> fail) | (simp [inB]; omega))) (he := (by first | (simp [List.getD_eq_getElem?_getD, cellsD, hr, encR] <;> fail) | fail))
      | refine eX (v := .d (.ep [.str r.name, alts r.alts])) ?_ (hf := (by first | (simp [inB] <;> fail) | (simp [inB]; omega))) (he := (by first | (simp [List.getD_eq_getElem?_getD, cellsD, hr, encR] <;> fail) | fail))
      | (refine Run.ret ?_; (first | refine rB ?_ | refine rI ?_ | refine rA ?_ | refine rII ?_ | refine rSI ?_ | refine rT ?_ | refine rS ?_); first | done | (skip))
      | ((exfalso; (simp at h <;> omega)))
      | fail)
    refine Run.loop (fun k : Nat => ⟨PT.ofList [(1, cellX x), (3, .d (.int .i64 (sumTo x (i + 1) : Nat))), (4, .d (.int .i64 i)), (5, .d (.int .i64 k))], [], []⟩) (fun k => k ≤ r.alts.length ∧ k ≤ 25 ∧ (r.alts.take k).any longA = false) (fun k => r.alts.length - k) 0 ⟨Nat.zero_le _, Nat.zero_le _, rfl⟩ (weak_of (by repeat' (first | exact trivial | refine ⟨rfl, ?_⟩))) (fun k hk => ?_)
    obtain ⟨hk1, hk2, hk3⟩ := hk
    by_cases hkl : k < r.alts.length ∧ k ≤ 24
    · obtain ⟨hm1, hm2⟩ := hkl
      obtain ⟨a, ha⟩ := get_ok hm1
      cases hla : longA a with
      | true =>
        have hfx : fullX x = true := by unfold fullX; rw [any_hit hr (p := fun r => r.alts.any longA) (any_hit ha hla)]; rfl
        have hla' : 6 < a.length := by simpa [longA] using hla
        rw [hfx]
        repeat' (first
          | refine Run.region ?_
          | refine Run.seq ?_
          | ((refine oB (frz := [1]) Et_ok (fun h => ?_) (fun h => ?_)) <;> (first | (exfalso; simp at h <;> fail) | (exfalso; simp at h; omega) | skip))
          | ((refine eB (fun h => ?_) (fun h => ?_)) <;> (first | (exfalso; simp at h <;> fail) | (exfalso; simp at h; omega) | skip))
          | refine oX (frz := [1]) Et_ok ?_
          | refine oS ?_
          | refine RunOps.nil ?_
          | refine Run.skip ?_
          | refine cT ?_
          | refine cF ?_
          | refine Run.block ?_
          | refine Run.exit ?_
          | refine Run.draw (frz := [1]) Et_ok (by kernel_rfl) ?_
          | refine eX ?_
          | refine eS ?_
          | refine eN ?_
          | refine oX (frz := [1]) (v := .d (.ep [.str r.name, alts r.alts])) Et_ok ?_ (hf := (by first | (simp [inB] <;> fail) | (simp [inB]; omega))) (he := (by first | (simp [List.getD_eq_getElem?_getD, cellsD, hr, encR] <;> fail) | fail))
          | refine eX (v := .d (.ep [.str r.name, alts r.alts])) ?_ (hf := (by first | (simp [inB] <;> fail) | (simp [inB]; omega))) (he := (by first | (simp [List.getD_eq_getElem?_getD, cellsD, hr, encR] <;> fail) | fail))
          | refine oX (frz := [1]) (v := .d (.ep [strs a])) Et_ok ?_ (hf := (by first | (simp [inB] <;> fail) | (simp [inB]; omega))) (he := (by first | (simp [List.getD_eq_getElem?_getD, cellsD, ha] <;> fail) | fail))
          | refine eX (v := .d (.ep [strs a])) ?_ (hf := (by first | (simp [inB] <;> fail) | (simp [inB]; omega))) (he := (by first | (simp [List.getD_eq_getElem?_getD, cellsD, ha] <;> fail) | fail))
          | (refine Run.ret ?_; (first | refine rB ?_ | refine rI ?_ | refine rA ?_ | refine rII ?_ | refine rSI ?_ | refine rT ?_ | refine rS ?_); first | done | (rfl))
          | ((exfalso; (simp at h <;> omega)))
          | fail)
      | false =>
        have hla' : ¬ 6 < a.length := by simpa [longA] using hla
        repeat' (first
          | refine Run.region ?_
          | refine Run.seq ?_
          | ((refine oB (frz := [1]) Et_ok (fun h => ?_) (fun h => ?_)) <;> (first | (exfalso; simp at h <;> fail) | (exfalso; simp at h; omega) | skip))
          | ((refine eB (fun h => ?_) (fun h => ?_)) <;> (first | (exfalso; simp at h <;> fail) | (exfalso; simp at h; omega) | skip))
          | refine oX (frz := [1]) Et_ok ?_
          | refine oS ?_
          | refine RunOps.nil ?_
          | refine Run.skip ?_
          | refine cT ?_
          | refine cF ?_
          | refine Run.block ?_
          | refine Run.exit ?_
          | refine Run.draw (frz := [1]) Et_ok (by kernel_rfl) ?_
          | refine eX ?_
          | refine eS ?_
          | refine eN ?_
          | refine oX (frz := [1]) (v := .d (.ep [.str r.name, alts r.alts])) Et_ok ?_ (hf := (by first | (simp [inB] <;> fail) | (simp [inB]; omega))) (he := (by first | (simp [List.getD_eq_getElem?_getD, cellsD, hr, encR] <;> fail) | fail))
          | refine eX (v := .d (.ep [.str r.name, alts r.alts])) ?_ (hf := (by first | (simp [inB] <;> fail) | (simp [inB]; omega))) (he := (by first | (simp [List.getD_eq_getElem?_getD, cellsD, hr, encR] <;> fail) | fail))
          | refine oX (frz := [1]) (v := .d (.ep [strs a])) Et_ok ?_ (hf := (by first | (simp [inB] <;> fail) | (simp [inB]; omega))) (he := (by first | (simp [List.getD_eq_getElem?_getD, cellsD, ha] <;> fail) | fail))
          | refine eX (v := .d (.ep [strs a])) ?_ (hf := (by first | (simp [inB] <;> fail) | (simp [inB]; omega))) (he := (by first | (simp [List.getD_eq_getElem?_getD, cellsD, ha] <;> fail) | fail))
          | (refine Run.ret ?_; (first | refine rB ?_ | refine rI ?_ | refine rA ?_ | refine rII ?_ | refine rSI ?_ | refine rT ?_ | refine rS ?_); first | done | ((exfalso; (simp at h <;> omega))))
          | (exact ⟨k + 1, ⟨by omega, by omega, any_next ha hk3 hla⟩, by omega, weak_of (by repeat' (first | exact trivial | refine ⟨rfl, ?_⟩ | refine ⟨(inc_get (k := k) (by kernel_rfl) (by omega)), ?_⟩))⟩)
          | ((exfalso; (simp at h <;> omega)))
          | fail)
    · have hall : (r.alts.take 25).any longA = false := by
        rcases Nat.lt_or_ge k 25 with hc | hc
        · have : k = r.alts.length := by omega
          subst this
          rw [List.take_length] at hk3
          rw [List.take_of_length_le (by omega)]; exact hk3
        · have : k = 25 := by omega
          subst this; exact hk3
      by_cases hka : k < r.alts.length
      · have hkb : ¬ k ≤ 24 := fun e => hkl ⟨hka, e⟩
        repeat' (first
          | refine Run.region ?_
          | refine Run.seq ?_
          | ((refine oB (frz := [1]) Et_ok (fun h => ?_) (fun h => ?_)) <;> (first | (exfalso; simp at h <;> fail) | (exfalso; simp at h; omega) | skip))
          | ((refine eB (fun h => ?_) (fun h => ?_)) <;> (first | (exfalso; simp at h <;> fail) | (exfalso; simp at h; omega) | skip))
          | refine oX (frz := [1]) Et_ok ?_
          | refine oS ?_
          | refine RunOps.nil ?_
          | refine Run.skip ?_
          | refine cT ?_
          | refine cF ?_
          | refine Run.block ?_
          | refine Run.exit ?_
          | refine Run.draw (frz := [1]) Et_ok (by kernel_rfl) ?_
          | refine eX ?_
          | refine eS ?_
          | refine eN ?_
          | refine oX (frz := [1]) (v := .d (.ep [.str r.name, alts r.alts])) Et_ok ?_ (hf := (by first | (simp [inB] <;> fail) | (simp [inB]; omega))) (he := (by first | (simp [List.getD_eq_getElem?_getD, cellsD, hr, encR] <;> fail) | fail))
          | refine eX (v := .d (.ep [.str r.name, alts r.alts])) ?_ (hf := (by first | (simp [inB] <;> fail) | (simp [inB]; omega))) (he := (by first | (simp [List.getD_eq_getElem?_getD, cellsD, hr, encR] <;> fail) | fail))
          | (refine Run.ret ?_; (first | refine rB ?_ | refine rI ?_ | refine rA ?_ | refine rII ?_ | refine rSI ?_ | refine rT ?_ | refine rS ?_); first | done | (skip))
          | (exact ⟨i + 1, ⟨by omega, by omega, any_next hr hi3 hall⟩, by omega, weak_of (by repeat' (first | exact trivial | refine ⟨rfl, ?_⟩ | refine ⟨(inc_get (k := i) (by kernel_rfl) (by omega)), ?_⟩))⟩)
          | ((exfalso; (simp at h <;> omega)))
          | fail)
      · repeat' (first
          | refine Run.region ?_
          | refine Run.seq ?_
          | ((refine oB (frz := [1]) Et_ok (fun h => ?_) (fun h => ?_)) <;> (first | (exfalso; simp at h <;> fail) | (exfalso; simp at h; omega) | skip))
          | ((refine eB (fun h => ?_) (fun h => ?_)) <;> (first | (exfalso; simp at h <;> fail) | (exfalso; simp at h; omega) | skip))
          | refine oX (frz := [1]) Et_ok ?_
          | refine oS ?_
          | refine RunOps.nil ?_
          | refine Run.skip ?_
          | refine cT ?_
          | refine cF ?_
          | refine Run.block ?_
          | refine Run.exit ?_
          | refine Run.draw (frz := [1]) Et_ok (by kernel_rfl) ?_
          | refine eX ?_
          | refine eS ?_
          | refine eN ?_
          | refine oX (frz := [1]) (v := .d (.ep [.str r.name, alts r.alts])) Et_ok ?_ (hf := (by first | (simp [inB] <;> fail) | (simp [inB]; omega))) (he := (by first | (simp [List.getD_eq_getElem?_getD, cellsD, hr, encR] <;> fail) | fail))
          | refine eX (v := .d (.ep [.str r.name, alts r.alts])) ?_ (hf := (by first | (simp [inB] <;> fail) | (simp [inB]; omega))) (he := (by first | (simp [List.getD_eq_getElem?_getD, cellsD, hr, encR] <;> fail) | fail))
          | (refine Run.ret ?_; (first | refine rB ?_ | refine rI ?_ | refine rA ?_ | refine rII ?_ | refine rSI ?_ | refine rT ?_ | refine rS ?_); first | done | (skip))
          | (exact ⟨i + 1, ⟨by omega, by omega, any_next hr hi3 hall⟩, by omega, weak_of (by repeat' (first | exact trivial | refine ⟨rfl, ?_⟩ | refine ⟨(inc_get (k := i) (by kernel_rfl) (by omega)), ?_⟩))⟩)
          | ((exfalso; (simp at h <;> omega)))
          | fail)
  · by_cases h8 : 8 < x.rules.length
    · have hi9 : i = 9 := by omega
      subst hi9
      have hfx : fullX x = true := by simp [fullX, h8]
      rw [hfx]
      by_cases ht : 8 < x.tokens.length
      · by_cases hn : 9 < x.rules.length
        · repeat' (first
            | refine Run.region ?_
            | refine Run.seq ?_
            | ((refine oB (frz := [1]) Et_ok (fun h => ?_) (fun h => ?_)) <;> (first | (exfalso; simp at h <;> fail) | (exfalso; simp at h; omega) | skip))
            | ((refine eB (fun h => ?_) (fun h => ?_)) <;> (first | (exfalso; simp at h <;> fail) | (exfalso; simp at h; omega) | skip))
            | refine oX (frz := [1]) Et_ok ?_
            | refine oS ?_
            | refine RunOps.nil ?_
            | refine Run.skip ?_
            | refine cT ?_
            | refine cF ?_
            | refine Run.block ?_
            | refine Run.exit ?_
            | refine Run.draw (frz := [1]) Et_ok (by kernel_rfl) ?_
            | refine eX ?_
            | refine eS ?_
            | refine eN ?_
            | (refine Run.ret ?_; (first | refine rB ?_ | refine rI ?_ | refine rA ?_ | refine rII ?_ | refine rSI ?_ | refine rT ?_ | refine rS ?_); first | done | (rfl))
            | ((exfalso; (simp at h <;> omega)))
            | fail)
        · repeat' (first
            | refine Run.region ?_
            | refine Run.seq ?_
            | ((refine oB (frz := [1]) Et_ok (fun h => ?_) (fun h => ?_)) <;> (first | (exfalso; simp at h <;> fail) | (exfalso; simp at h; omega) | skip))
            | ((refine eB (fun h => ?_) (fun h => ?_)) <;> (first | (exfalso; simp at h <;> fail) | (exfalso; simp at h; omega) | skip))
            | refine oX (frz := [1]) Et_ok ?_
            | refine oS ?_
            | refine RunOps.nil ?_
            | refine Run.skip ?_
            | refine cT ?_
            | refine cF ?_
            | refine Run.block ?_
            | refine Run.exit ?_
            | refine Run.draw (frz := [1]) Et_ok (by kernel_rfl) ?_
            | refine eX ?_
            | refine eS ?_
            | refine eN ?_
            | (refine Run.ret ?_; (first | refine rB ?_ | refine rI ?_ | refine rA ?_ | refine rII ?_ | refine rSI ?_ | refine rT ?_ | refine rS ?_); first | done | (rfl))
            | ((exfalso; (simp at h <;> omega)))
            | fail)
      · by_cases hn : 9 < x.rules.length
        · repeat' (first
            | refine Run.region ?_
            | refine Run.seq ?_
            | ((refine oB (frz := [1]) Et_ok (fun h => ?_) (fun h => ?_)) <;> (first | (exfalso; simp at h <;> fail) | (exfalso; simp at h; omega) | skip))
            | ((refine eB (fun h => ?_) (fun h => ?_)) <;> (first | (exfalso; simp at h <;> fail) | (exfalso; simp at h; omega) | skip))
            | refine oX (frz := [1]) Et_ok ?_
            | refine oS ?_
            | refine RunOps.nil ?_
            | refine Run.skip ?_
            | refine cT ?_
            | refine cF ?_
            | refine Run.block ?_
            | refine Run.exit ?_
            | refine Run.draw (frz := [1]) Et_ok (by kernel_rfl) ?_
            | refine eX ?_
            | refine eS ?_
            | refine eN ?_
            | (refine Run.ret ?_; (first | refine rB ?_ | refine rI ?_ | refine rA ?_ | refine rII ?_ | refine rSI ?_ | refine rT ?_ | refine rS ?_); first | done | (rfl))
            | ((exfalso; (simp at h <;> omega)))
            | fail)
        · repeat' (first
            | refine Run.region ?_
            | refine Run.seq ?_
            | ((refine oB (frz := [1]) Et_ok (fun h => ?_) (fun h => ?_)) <;> (first | (exfalso; simp at h <;> fail) | (exfalso; simp at h; omega) | skip))
            | ((refine eB (fun h => ?_) (fun h => ?_)) <;> (first | (exfalso; simp at h <;> fail) | (exfalso; simp at h; omega) | skip))
            | refine oX (frz := [1]) Et_ok ?_
            | refine oS ?_
            | refine RunOps.nil ?_
            | refine Run.skip ?_
            | refine cT ?_
            | refine cF ?_
            | refine Run.block ?_
            | refine Run.exit ?_
            | refine Run.draw (frz := [1]) Et_ok (by kernel_rfl) ?_
            | refine eX ?_
            | refine eS ?_
            | refine eN ?_
            | (refine Run.ret ?_; (first | refine rB ?_ | refine rI ?_ | refine rA ?_ | refine rII ?_ | refine rSI ?_ | refine rT ?_ | refine rS ?_); first | done | (rfl))
            | ((exfalso; (simp at h <;> omega)))
            | fail)
    · have hie : i = x.rules.length := by omega
      subst hie
      rw [fullX_end hi3, decide_eq_false h8]
      by_cases ht : 8 < x.tokens.length
      · rw [decide_eq_true ht]
        repeat' (first
          | refine Run.region ?_
          | refine Run.seq ?_
          | ((refine oB (frz := [1]) Et_ok (fun h => ?_) (fun h => ?_)) <;> (first | (exfalso; simp at h <;> fail) | (exfalso; simp at h; omega) | skip))
          | ((refine eB (fun h => ?_) (fun h => ?_)) <;> (first | (exfalso; simp at h <;> fail) | (exfalso; simp at h; omega) | skip))
          | refine oX (frz := [1]) Et_ok ?_
          | refine oS ?_
          | refine RunOps.nil ?_
          | refine Run.skip ?_
          | refine cT ?_
          | refine cF ?_
          | refine Run.block ?_
          | refine Run.exit ?_
          | refine Run.draw (frz := [1]) Et_ok (by kernel_rfl) ?_
          | refine eX ?_
          | refine eS ?_
          | refine eN ?_
          | (refine Run.ret ?_; (first | refine rB ?_ | refine rI ?_ | refine rA ?_ | refine rII ?_ | refine rSI ?_ | refine rT ?_ | refine rS ?_); first | done | (rfl))
          | ((exfalso; (simp at h <;> omega)))
          | fail)
      · rw [decide_eq_false ht]
        by_cases hs : 24 < sumTo x x.rules.length
        · rw [decide_eq_true hs]
          repeat' (first
            | refine Run.region ?_
            | refine Run.seq ?_
            | ((refine oB (frz := [1]) Et_ok (fun h => ?_) (fun h => ?_)) <;> (first | (exfalso; simp at h <;> fail) | (exfalso; simp at h; omega) | skip))
            | ((refine eB (fun h => ?_) (fun h => ?_)) <;> (first | (exfalso; simp at h <;> fail) | (exfalso; simp at h; omega) | skip))
            | refine oX (frz := [1]) Et_ok ?_
            | refine oS ?_
            | refine RunOps.nil ?_
            | refine Run.skip ?_
            | refine cT ?_
            | refine cF ?_
            | refine Run.block ?_
            | refine Run.exit ?_
            | refine Run.draw (frz := [1]) Et_ok (by kernel_rfl) ?_
            | refine eX ?_
            | refine eS ?_
            | refine eN ?_
            | (refine Run.ret ?_; (first | refine rB ?_ | refine rI ?_ | refine rA ?_ | refine rII ?_ | refine rSI ?_ | refine rT ?_ | refine rS ?_); first | done | (rfl))
            | ((exfalso; (simp at h <;> omega)))
            | fail)
        · rw [decide_eq_false hs]
          repeat' (first
            | refine Run.region ?_
            | refine Run.seq ?_
            | ((refine oB (frz := [1]) Et_ok (fun h => ?_) (fun h => ?_)) <;> (first | (exfalso; simp at h <;> fail) | (exfalso; simp at h; omega) | skip))
            | ((refine eB (fun h => ?_) (fun h => ?_)) <;> (first | (exfalso; simp at h <;> fail) | (exfalso; simp at h; omega) | skip))
            | refine oX (frz := [1]) Et_ok ?_
            | refine oS ?_
            | refine RunOps.nil ?_
            | refine Run.skip ?_
            | refine cT ?_
            | refine cF ?_
            | refine Run.block ?_
            | refine Run.exit ?_
            | refine Run.draw (frz := [1]) Et_ok (by kernel_rfl) ?_
            | refine eX ?_
            | refine eS ?_
            | refine eN ?_
            | (refine Run.ret ?_; (first | refine rB ?_ | refine rI ?_ | refine rA ?_ | refine rII ?_ | refine rSI ?_ | refine rT ?_ | refine rS ?_); first | done | (rfl))
            | ((exfalso; (simp at h <;> omega)))
            | fail)
end Go.Av
end
noncomputable section
namespace Go.Av
open Go Go.Proofs
set_option maxRecDepth 10000
def noName (s : List Nat) : Bool := !smallF s && !capitalF s
def misR (r : SRule) : Bool := !capitalF r.name || r.alts.any (fun a => a.any noName)
def misX (x : Src) : Bool := x.tokens.any (fun s => !smallF s) || x.rules.any misR || !smallF x.sep || !capitalF x.start
theorem misnamed08 (x : Src) (hf : FitsX x) : KnownCall Tryz.prog 129 [encX x] (.d (.bool (misX x))) := by
  have hrl := hf.rules
  have htl := hf.tokens
  refine knownE Et_ok (fnAt Tryz.func129 (by kernel_rfl) (by kernel_rfl) : FnAt _ _ (mkFn Tryz.f129 [1])) ?_
  repeat' (first
    | refine Run.region ?_
    | refine Run.seq ?_
    | ((refine oB (frz := [1]) Et_ok (fun h => ?_) (fun h => ?_)) <;> (first | (exfalso; simp at h <;> fail) | (exfalso; simp at h; omega) | skip))
    | ((refine eB (fun h => ?_) (fun h => ?_)) <;> (first | (exfalso; simp at h <;> fail) | (exfalso; simp at h; omega) | skip))
    | refine oX (frz := [1]) Et_ok ?_
    | refine oS ?_
    | refine RunOps.nil ?_
    | refine Run.skip ?_
    | refine cT ?_
    | refine cF ?_
    | refine Run.block ?_
    | refine Run.exit ?_
    | refine Run.draw (frz := [1]) Et_ok (by kernel_rfl) ?_
    | refine eX ?_
    | refine eS ?_
    | refine eN ?_
    | (refine Run.ret ?_; (first | refine rB ?_ | refine rI ?_ | refine rA ?_ | refine rII ?_ | refine rSI ?_ | refine rT ?_ | refine rS ?_); first | done | (skip))
    | fail)
  refine Run.loop (fun i : Nat => ⟨PT.ofList [(1, cellX x), (3, .d (.int .i64 i))], [], []⟩) (fun i => i ≤ x.tokens.length ∧ (x.tokens.take i).any (fun s => !smallF s) = false) (fun i => x.tokens.length - i) 0 ⟨Nat.zero_le _, rfl⟩ (weak_of (by repeat' (first | exact trivial | refine ⟨rfl, ?_⟩))) (fun i hi => ?_)
  rcases Nat.lt_or_ge i x.tokens.length with hlt | hge
  · obtain ⟨s, hs⟩ := get_ok hlt
    have hsm := refSmall s (Nat.le_trans (hf.tokenS s (List.mem_of_getElem? hs)) (by decide))
    cases hb : smallF s with
    | true =>
      rw [hb] at hsm
      repeat' (first
        | refine Run.region ?_
        | refine Run.seq ?_
        | ((refine oB (frz := [1]) Et_ok (fun h => ?_) (fun h => ?_)) <;> (first | (exfalso; simp at h <;> fail) | (exfalso; simp at h; omega) | skip))
        | ((refine eB (fun h => ?_) (fun h => ?_)) <;> (first | (exfalso; simp at h <;> fail) | (exfalso; simp at h; omega) | skip))
        | refine oX (frz := [1]) Et_ok ?_
        | refine oS ?_
        | refine RunOps.nil ?_
        | refine Run.skip ?_
        | refine cT ?_
        | refine cF ?_
        | refine Run.block ?_
        | refine Run.exit ?_
        | refine Run.draw (frz := [1]) Et_ok (by kernel_rfl) ?_
        | refine eX ?_
        | refine eS ?_
        | refine eN ?_
        | refine oX (frz := [1]) (v := .d (.ep [.str s])) Et_ok ?_ (hf := (by first | (simp [inB] <;> fail) | (simp [inB]; omega))) (he := (by first | (simp [List.getD_eq_getElem?_getD, cellsD, hs] <;> fail) | fail))
        | refine eX (v := .d (.ep [.str s])) ?_ (hf := (by first | (simp [inB] <;> fail) | (simp [inB]; omega))) (he := (by first | (simp [List.getD_eq_getElem?_getD, cellsD, hs] <;> fail) | fail))
        | refine oC (hsm) ?_
        | refine eC (hsm) ?_
        | (refine Run.ret ?_; (first | refine rB ?_ | refine rI ?_ | refine rA ?_ | refine rII ?_ | refine rSI ?_ | refine rT ?_ | refine rS ?_); first | done | (skip))
        | (exact ⟨i + 1, ⟨hlt, any_next hs hi.2 (by simp [hb])⟩, by omega, weak_of (by repeat' (first | exact trivial | refine ⟨rfl, ?_⟩ | refine ⟨(inc_get (k := i) (by kernel_rfl) (by omega)), ?_⟩))⟩)
        | ((exfalso; (simp at h <;> omega)))
        | fail)
    | false =>
      rw [hb] at hsm
      have hm : misX x = true := by unfold misX; rw [any_hit hs (p := fun s => !smallF s) (by simp [hb])]; rfl
      rw [hm]
      repeat' (first
        | refine Run.region ?_
        | refine Run.seq ?_
        | ((refine oB (frz := [1]) Et_ok (fun h => ?_) (fun h => ?_)) <;> (first | (exfalso; simp at h <;> fail) | (exfalso; simp at h; omega) | skip))
        | ((refine eB (fun h => ?_) (fun h => ?_)) <;> (first | (exfalso; simp at h <;> fail) | (exfalso; simp at h; omega) | skip))
        | refine oX (frz := [1]) Et_ok ?_
        | refine oS ?_
        | refine RunOps.nil ?_
        | refine Run.skip ?_
        | refine cT ?_
        | refine cF ?_
        | refine Run.block ?_
        | refine Run.exit ?_
        | refine Run.draw (frz := [1]) Et_ok (by kernel_rfl) ?_
        | refine eX ?_
        | refine eS ?_
        | refine eN ?_
        | refine oX (frz := [1]) (v := .d (.ep [.str s])) Et_ok ?_ (hf := (by first | (simp [inB] <;> fail) | (simp [inB]; omega))) (he := (by first | (simp [List.getD_eq_getElem?_getD, cellsD, hs] <;> fail) | fail))
        | refine eX (v := .d (.ep [.str s])) ?_ (hf := (by first | (simp [inB] <;> fail) | (simp [inB]; omega))) (he := (by first | (simp [List.getD_eq_getElem?_getD, cellsD, hs] <;> fail) | fail))
        | refine oC (hsm) ?_
        | refine eC (hsm) ?_
        | (refine Run.ret ?_; (first | refine rB ?_ | refine rI ?_ | refine rA ?_ | refine rII ?_ | refine rSI ?_ | refine rT ?_ | refine rS ?_); first | done | (rfl))
        | ((exfalso; (simp at h <;> omega)))
        | fail)
  · have hie : i = x.tokens.length := by omega
    have htk := hi.2
    rw [hie, List.take_length] at htk
    subst hie
    repeat' (first
      | refine Run.region ?_
      | refine Run.seq ?_
      | ((refine oB (frz := [1]) Et_ok (fun h => ?_) (fun h => ?_)) <;> (first | (exfalso; simp at h <;> fail) | (exfalso; simp at h; omega) | skip))
      | ((refine eB (fun h => ?_) (fun h => ?_)) <;> (first | (exfalso; simp at h <;> fail) | (exfalso; simp at h; omega) | skip))
      | refine oX (frz := [1]) Et_ok ?_
      | refine oS ?_
      | refine RunOps.nil ?_
      | refine Run.skip ?_
      | refine cT ?_
      | refine cF ?_
      | refine Run.block ?_
      | refine Run.exit ?_
      | refine Run.draw (frz := [1]) Et_ok (by kernel_rfl) ?_
      | refine eX ?_
      | refine eS ?_
      | refine eN ?_
      | (refine Run.ret ?_; (first | refine rB ?_ | refine rI ?_ | refine rA ?_ | refine rII ?_ | refine rSI ?_ | refine rT ?_ | refine rS ?_); first | done | (skip))
      | fail)
    refine Run.loop (fun i : Nat => ⟨PT.ofList [(1, cellX x), (4, .d (.int .i64 i))], [], []⟩) (fun i => i ≤ x.rules.length ∧ (x.rules.take i).any misR = false) (fun i => x.rules.length - i) 0 ⟨Nat.zero_le _, rfl⟩ (weak_of (by repeat' (first | exact trivial | refine ⟨rfl, ?_⟩))) (fun i hi => ?_)
    rcases Nat.lt_or_ge i x.rules.length with hlt | hge
    · obtain ⟨r, hr⟩ := get_ok hlt
      have hmem := List.mem_of_getElem? hr
      have hra := hf.alts r hmem
      have hcm := refCapital r.name (Nat.le_trans (hf.ruleS r hmem) (by decide))
      cases hb : capitalF r.name with
      | false =>
        rw [hb] at hcm
        have hm : misX x = true := by unfold misX; rw [any_hit hr (p := misR) (by simp [misR, hb])]; simp
        rw [hm]
        repeat' (first
          | refine Run.region ?_
          | refine Run.seq ?_
          | ((refine oB (frz := [1]) Et_ok (fun h => ?_) (fun h => ?_)) <;> (first | (exfalso; simp at h <;> fail) | (exfalso; simp at h; omega) | skip))
          | ((refine eB (fun h => ?_) (fun h => ?_)) <;> (first | (exfalso; simp at h <;> fail) | (exfalso; simp at h; omega) | skip))
          | refine oX (frz := [1]) Et_ok ?_
          | refine oS ?_
          | refine RunOps.nil ?_
          | refine Run.skip ?_
          | refine cT ?_
          | refine cF ?_
          | refine Run.block ?_
          | refine Run.exit ?_
          | refine Run.draw (frz := [1]) Et_ok (by kernel_rfl) ?_
          | refine eX ?_
          | refine eS ?_
          | refine eN ?_
          | refine oX (frz := [1]) (v := .d (.ep [.str r.name, alts r.alts])) Et_ok ?_ (hf := (by first | (simp [inB] <;> fail) | (simp [inB]; omega))) (he := (by first | (simp [List.getD_eq_getElem?_getD, cellsD, hr, encR] <;> fail) | fail))
          | refine eX (v := .d (.ep [.str r.name, alts r.alts])) ?_ (hf := (by first | (simp [inB] <;> fail) | (simp [inB]; omega))) (he := (by first | (simp [List.getD_eq_getElem?_getD, cellsD, hr, encR] <;> fail) | fail))
          | refine oC (hcm) ?_
          | refine eC (hcm) ?_
          | (refine Run.ret ?_; (first | refine rB ?_ | refine rI ?_ | refine rA ?_ | refine rII ?_ | refine rSI ?_ | refine rT ?_ | refine rS ?_); first | done | (rfl))
          | ((exfalso; (simp at h <;> omega)))
          | fail)
      | true =>
        rw [hb] at hcm
        repeat' (first
          | refine Run.region ?_
          | refine Run.seq ?_
          | ((refine oB (frz := [1]) Et_ok (fun h => ?_) (fun h => ?_)) <;> (first | (exfalso; simp at h <;> fail) | (exfalso; simp at h; omega) | skip))
          | ((refine eB (fun h => ?_) (fun h => ?_)) <;> (first | (exfalso; simp at h <;> fail) | (exfalso; simp at h; omega) | skip))
          | refine oX (frz := [1]) Et_ok ?_
          | refine oS ?_
          | refine RunOps.nil ?_
          | refine Run.skip ?_
          | refine cT ?_
          | refine cF ?_
          | refine Run.block ?_
          | refine Run.exit ?_
          | refine Run.draw (frz := [1]) Et_ok (by kernel_rfl) ?_
          | refine eX ?_
          | refine eS ?_
          | refine eN ?_
          | refine oX (frz := [1]) (v := .d (.ep [.str r.name, alts r.alts])) Et_ok ?_ (hf := (by first | (simp [inB] <;> fail) | (simp [inB]; omega))) (he := (by first | (simp [List.getD_eq_getElem?_getD, cellsD, hr, encR] <;> fail) | fail))
          | refine eX (v := .d (.ep [.str r.name, alts r.alts])) ?_ (hf := (by first | (simp [inB] <;> fail) | (simp [inB]; omega))) (he := (by first | (simp [List.getD_eq_getElem?_getD, cellsD, hr, encR] <;> fail) | fail))
          | refine oC (hcm) ?_
          | refine eC (hcm) ?_
          | (refine Run.ret ?_; (first | refine rB ?_ | refine rI ?_ | refine rA ?_ | refine rII ?_ | refine rSI ?_ | refine rT ?_ | refine rS ?_); first | done | (skip))
          | fail)
        refine Run.loop (fun k : Nat => ⟨PT.ofList [(1, cellX x), (4, .d (.int .i64 i)), (5, .d (.int .i64 k))], [], []⟩) (fun k => k ≤ r.alts.length ∧ (r.alts.take k).any (fun a => a.any noName) = false) (fun k => r.alts.length - k) 0 ⟨Nat.zero_le _, rfl⟩ (weak_of (by repeat' (first | exact trivial | refine ⟨rfl, ?_⟩))) (fun k hk => ?_)
        rcases Nat.lt_or_ge k r.alts.length with hkl | hkg
        · obtain ⟨a, ha⟩ := get_ok hkl
          have hmema := List.mem_of_getElem? ha
          have hal := hf.names r hmem a hmema
          repeat' (first
            | refine Run.region ?_
            | refine Run.seq ?_
            | ((refine oB (frz := [1]) Et_ok (fun h => ?_) (fun h => ?_)) <;> (first | (exfalso; simp at h <;> fail) | (exfalso; simp at h; omega) | skip))
            | ((refine eB (fun h => ?_) (fun h => ?_)) <;> (first | (exfalso; simp at h <;> fail) | (exfalso; simp at h; omega) | skip))
            | refine oX (frz := [1]) Et_ok ?_
            | refine oS ?_
            | refine RunOps.nil ?_
            | refine Run.skip ?_
            | refine cT ?_
            | refine cF ?_
            | refine Run.block ?_
            | refine Run.exit ?_
            | refine Run.draw (frz := [1]) Et_ok (by kernel_rfl) ?_
            | refine eX ?_
            | refine eS ?_
            | refine eN ?_
            | refine oX (frz := [1]) (v := .d (.ep [.str r.name, alts r.alts])) Et_ok ?_ (hf := (by first | (simp [inB] <;> fail) | (simp [inB]; omega))) (he := (by first | (simp [List.getD_eq_getElem?_getD, cellsD, hr, encR] <;> fail) | fail))
            | refine eX (v := .d (.ep [.str r.name, alts r.alts])) ?_ (hf := (by first | (simp [inB] <;> fail) | (simp [inB]; omega))) (he := (by first | (simp [List.getD_eq_getElem?_getD, cellsD, hr, encR] <;> fail) | fail))
            | (refine Run.ret ?_; (first | refine rB ?_ | refine rI ?_ | refine rA ?_ | refine rII ?_ | refine rSI ?_ | refine rT ?_ | refine rS ?_); first | done | (skip))
            | ((exfalso; (simp at h <;> omega)))
            | fail)
          refine Run.loop (fun j : Nat => ⟨PT.ofList [(1, cellX x), (4, .d (.int .i64 i)), (5, .d (.int .i64 k)), (6, .d (.int .i64 j))], [], []⟩) (fun j => j ≤ a.length ∧ (a.take j).any noName = false) (fun j => a.length - j) 0 ⟨Nat.zero_le _, rfl⟩ (weak_of (by repeat' (first | exact trivial | refine ⟨rfl, ?_⟩))) (fun j hj => ?_)
          rcases Nat.lt_or_ge j a.length with hjl | hjg
          · obtain ⟨s, hs⟩ := get_ok hjl
            have hsl := Nat.le_trans (hf.nameS r hmem a hmema s (List.mem_of_getElem? hs)) (show 1048576 ≤ 1099511627776 by decide)
            have hsm := refSmall s hsl
            have hsc := refCapital s hsl
            cases hc1 : smallF s with
            | true =>
              rw [hc1] at hsm
              repeat' (first
                | refine Run.region ?_
                | refine Run.seq ?_
                | ((refine oB (frz := [1]) Et_ok (fun h => ?_) (fun h => ?_)) <;> (first | (exfalso; simp at h <;> fail) | (exfalso; simp at h; omega) | skip))
                | ((refine eB (fun h => ?_) (fun h => ?_)) <;> (first | (exfalso; simp at h <;> fail) | (exfalso; simp at h; omega) | skip))
                | refine oX (frz := [1]) Et_ok ?_
                | refine oS ?_
                | refine RunOps.nil ?_
                | refine Run.skip ?_
                | refine cT ?_
                | refine cF ?_
                | refine Run.block ?_
                | refine Run.exit ?_
                | refine Run.draw (frz := [1]) Et_ok (by kernel_rfl) ?_
                | refine eX ?_
                | refine eS ?_
                | refine eN ?_
                | refine oX (frz := [1]) (v := .d (.ep [.str r.name, alts r.alts])) Et_ok ?_ (hf := (by first | (simp [inB] <;> fail) | (simp [inB]; omega))) (he := (by first | (simp [List.getD_eq_getElem?_getD, cellsD, hr, encR] <;> fail) | fail))
                | refine eX (v := .d (.ep [.str r.name, alts r.alts])) ?_ (hf := (by first | (simp [inB] <;> fail) | (simp [inB]; omega))) (he := (by first | (simp [List.getD_eq_getElem?_getD, cellsD, hr, encR] <;> fail) | fail))
                | refine oX (frz := [1]) (v := .d (.ep [strs a])) Et_ok ?_ (hf := (by first | (simp [inB] <;> fail) | (simp [inB]; omega))) (he := (by first | (simp [List.getD_eq_getElem?_getD, cellsD, ha] <;> fail) | fail))
                | refine eX (v := .d (.ep [strs a])) ?_ (hf := (by first | (simp [inB] <;> fail) | (simp [inB]; omega))) (he := (by first | (simp [List.getD_eq_getElem?_getD, cellsD, ha] <;> fail) | fail))
                | refine oX (frz := [1]) (v := .d (.ep [.str s])) Et_ok ?_ (hf := (by first | (simp [inB] <;> fail) | (simp [inB]; omega))) (he := (by first | (simp [List.getD_eq_getElem?_getD, cellsD, hs] <;> fail) | fail))
                | refine eX (v := .d (.ep [.str s])) ?_ (hf := (by first | (simp [inB] <;> fail) | (simp [inB]; omega))) (he := (by first | (simp [List.getD_eq_getElem?_getD, cellsD, hs] <;> fail) | fail))
                | refine oC (hsm) ?_
                | refine eC (hsm) ?_
                | refine oC (hsc) ?_
                | refine eC (hsc) ?_
                | (refine Run.ret ?_; (first | refine rB ?_ | refine rI ?_ | refine rA ?_ | refine rII ?_ | refine rSI ?_ | refine rT ?_ | refine rS ?_); first | done | (skip))
                | (exact ⟨j + 1, ⟨hjl, any_next hs hj.2 (by simp [noName, hc1])⟩, by omega, weak_of (by repeat' (first | exact trivial | refine ⟨rfl, ?_⟩ | refine ⟨(inc_get (k := j) (by kernel_rfl) (by omega)), ?_⟩))⟩)
                | ((exfalso; (simp at h <;> omega)))
                | fail)
            | false =>
              rw [hc1] at hsm
              cases hc2 : capitalF s with
              | true =>
                rw [hc2] at hsc
                repeat' (first
                  | refine Run.region ?_
                  | refine Run.seq ?_
                  | ((refine oB (frz := [1]) Et_ok (fun h => ?_) (fun h => ?_)) <;> (first | (exfalso; simp at h <;> fail) | (exfalso; simp at h; omega) | skip))
                  | ((refine eB (fun h => ?_) (fun h => ?_)) <;> (first | (exfalso; simp at h <;> fail) | (exfalso; simp at h; omega) | skip))
                  | refine oX (frz := [1]) Et_ok ?_
                  | refine oS ?_
                  | refine RunOps.nil ?_
                  | refine Run.skip ?_
                  | refine cT ?_
                  | refine cF ?_
                  | refine Run.block ?_
                  | refine Run.exit ?_
                  | refine Run.draw (frz := [1]) Et_ok (by kernel_rfl) ?_
                  | refine eX ?_
                  | refine eS ?_
                  | refine eN ?_
                  | refine oX (frz := [1]) (v := .d (.ep [.str r.name, alts r.alts])) Et_ok ?_ (hf := (by first | (simp [inB] <;> fail) | (simp [inB]; omega))) (he := (by first | (simp [List.getD_eq_getElem?_getD, cellsD, hr, encR] <;> fail) | fail))
                  | refine eX (v := .d (.ep [.str r.name, alts r.alts])) ?_ (hf := (by first | (simp [inB] <;> fail) | (simp [inB]; omega))) (he := (by first | (simp [List.getD_eq_getElem?_getD, cellsD, hr, encR] <;> fail) | fail))
                  | refine oX (frz := [1]) (v := .d (.ep [strs a])) Et_ok ?_ (hf := (by first | (simp [inB] <;> fail) | (simp [inB]; omega))) (he := (by first | (simp [List.getD_eq_getElem?_getD, cellsD, ha] <;> fail) | fail))
                  | refine eX (v := .d (.ep [strs a])) ?_ (hf := (by first | (simp [inB] <;> fail) | (simp [inB]; omega))) (he := (by first | (simp [List.getD_eq_getElem?_getD, cellsD, ha] <;> fail) | fail))
                  | refine oX (frz := [1]) (v := .d (.ep [.str s])) Et_ok ?_ (hf := (by first | (simp [inB] <;> fail) | (simp [inB]; omega))) (he := (by first | (simp [List.getD_eq_getElem?_getD, cellsD, hs] <;> fail) | fail))
                  | refine eX (v := .d (.ep [.str s])) ?_ (hf := (by first | (simp [inB] <;> fail) | (simp [inB]; omega))) (he := (by first | (simp [List.getD_eq_getElem?_getD, cellsD, hs] <;> fail) | fail))
                  | refine oC (hsm) ?_
                  | refine eC (hsm) ?_
                  | refine oC (hsc) ?_
                  | refine eC (hsc) ?_
                  | (refine Run.ret ?_; (first | refine rB ?_ | refine rI ?_ | refine rA ?_ | refine rII ?_ | refine rSI ?_ | refine rT ?_ | refine rS ?_); first | done | (skip))
                  | (exact ⟨j + 1, ⟨hjl, any_next hs hj.2 (by simp [noName, hc2])⟩, by omega, weak_of (by repeat' (first | exact trivial | refine ⟨rfl, ?_⟩ | refine ⟨(inc_get (k := j) (by kernel_rfl) (by omega)), ?_⟩))⟩)
                  | ((exfalso; (simp at h <;> omega)))
                  | fail)
              | false =>
                rw [hc2] at hsc
                have hm : misX x = true := by unfold misX; rw [any_hit hr (p := misR) (by simp only [misR]; rw [any_hit ha (p := fun a => a.any noName) (any_hit hs (by simp [noName, hc1, hc2]))]; simp)]; simp
                rw [hm]
                repeat' (first
                  | refine Run.region ?_
                  | refine Run.seq ?_
                  | ((refine oB (frz := [1]) Et_ok (fun h => ?_) (fun h => ?_)) <;> (first | (exfalso; simp at h <;> fail) | (exfalso; simp at h; omega) | skip))
                  | ((refine eB (fun h => ?_) (fun h => ?_)) <;> (first | (exfalso; simp at h <;> fail) | (exfalso; simp at h; omega) | skip))
                  | refine oX (frz := [1]) Et_ok ?_
                  | refine oS ?_
                  | refine RunOps.nil ?_
                  | refine Run.skip ?_
                  | refine cT ?_
                  | refine cF ?_
                  | refine Run.block ?_
                  | refine Run.exit ?_
                  | refine Run.draw (frz := [1]) Et_ok (by kernel_rfl) ?_
                  | refine eX ?_
                  | refine eS ?_
                  | refine eN ?_
                  | refine oX (frz := [1]) (v := .d (.ep [.str r.name, alts r.alts])) Et_ok ?_ (hf := (by first | (simp [inB] <;> fail) | (simp [inB]; omega))) (he := (by first | (simp [List.getD_eq_getElem?_getD, cellsD, hr, encR] <;> fail) | fail))
                  | refine eX (v := .d (.ep [.str r.name, alts r.alts])) ?_ (hf := (by first | (simp [inB] <;> fail) | (simp [inB]; omega))) (he := (by first | (simp [List.getD_eq_getElem?_getD, cellsD, hr, encR] <;> fail) | fail))
                  | refine oX (frz := [1]) (v := .d (.ep [strs a])) Et_ok ?_ (hf := (by first | (simp [inB] <;> fail) | (simp [inB]; omega))) (he := (by first | (simp [List.getD_eq_getElem?_getD, cellsD, ha] <;> fail) | fail))
                  | refine eX (v := .d (.ep [strs a])) ?_ (hf := (by first | (simp [inB] <;> fail) | (simp [inB]; omega))) (he := (by first | (simp [List.getD_eq_getElem?_getD, cellsD, ha] <;> fail) | fail))
                  | refine oX (frz := [1]) (v := .d (.ep [.str s])) Et_ok ?_ (hf := (by first | (simp [inB] <;> fail) | (simp [inB]; omega))) (he := (by first | (simp [List.getD_eq_getElem?_getD, cellsD, hs] <;> fail) | fail))
                  | refine eX (v := .d (.ep [.str s])) ?_ (hf := (by first | (simp [inB] <;> fail) | (simp [inB]; omega))) (he := (by first | (simp [List.getD_eq_getElem?_getD, cellsD, hs] <;> fail) | fail))
                  | refine oC (hsm) ?_
                  | refine eC (hsm) ?_
                  | refine oC (hsc) ?_
                  | refine eC (hsc) ?_
                  | (refine Run.ret ?_; (first | refine rB ?_ | refine rI ?_ | refine rA ?_ | refine rII ?_ | refine rSI ?_ | refine rT ?_ | refine rS ?_); first | done | (rfl))
                  | ((exfalso; (simp at h <;> omega)))
                  | fail)
          · have hje : j = a.length := by omega
            subst hje
            have haa := any_end hj.2
            repeat' (first
              | refine Run.region ?_
              | refine Run.seq ?_
              | ((refine oB (frz := [1]) Et_ok (fun h => ?_) (fun h => ?_)) <;> (first | (exfalso; simp at h <;> fail) | (exfalso; simp at h; omega) | skip))
              | ((refine eB (fun h => ?_) (fun h => ?_)) <;> (first | (exfalso; simp at h <;> fail) | (exfalso; simp at h; omega) | skip))
              | refine oX (frz := [1]) Et_ok ?_
              | refine oS ?_
              | refine RunOps.nil ?_
              | refine Run.skip ?_
              | refine cT ?_
              | refine cF ?_
              | refine Run.block ?_
              | refine Run.exit ?_
              | refine Run.draw (frz := [1]) Et_ok (by kernel_rfl) ?_
              | refine eX ?_
              | refine eS ?_
              | refine eN ?_
              | refine oX (frz := [1]) (v := .d (.ep [.str r.name, alts r.alts])) Et_ok ?_ (hf := (by first | (simp [inB] <;> fail) | (simp [inB]; omega))) (he := (by first | (simp [List.getD_eq_getElem?_getD, cellsD, hr, encR] <;> fail) | fail))
              | refine eX (v := .d (.ep [.str r.name, alts r.alts])) ?_ (hf := (by first | (simp [inB] <;> fail) | (simp [inB]; omega))) (he := (by first | (simp [List.getD_eq_getElem?_getD, cellsD, hr, encR] <;> fail) | fail))
              | refine oX (frz := [1]) (v := .d (.ep [strs a])) Et_ok ?_ (hf := (by first | (simp [inB] <;> fail) | (simp [inB]; omega))) (he := (by first | (simp [List.getD_eq_getElem?_getD, cellsD, ha] <;> fail) | fail))
              | refine eX (v := .d (.ep [strs a])) ?_ (hf := (by first | (simp [inB] <;> fail) | (simp [inB]; omega))) (he := (by first | (simp [List.getD_eq_getElem?_getD, cellsD, ha] <;> fail) | fail))
              | (refine Run.ret ?_; (first | refine rB ?_ | refine rI ?_ | refine rA ?_ | refine rII ?_ | refine rSI ?_ | refine rT ?_ | refine rS ?_); first | done | (skip))
              | (exact ⟨k + 1, ⟨hkl, any_next ha hk.2 haa⟩, by omega, weak_of (by repeat' (first | exact trivial | refine ⟨rfl, ?_⟩ | refine ⟨(inc_get (k := k) (by kernel_rfl) (by omega)), ?_⟩))⟩)
              | ((exfalso; (simp at h <;> omega)))
              | fail)
        · have hke : k = r.alts.length := by omega
          subst hke
          have hkk := any_end hk.2
          repeat' (first
            | refine Run.region ?_
            | refine Run.seq ?_
            | ((refine oB (frz := [1]) Et_ok (fun h => ?_) (fun h => ?_)) <;> (first | (exfalso; simp at h <;> fail) | (exfalso; simp at h; omega) | skip))
            | ((refine eB (fun h => ?_) (fun h => ?_)) <;> (first | (exfalso; simp at h <;> fail) | (exfalso; simp at h; omega) | skip))
            | refine oX (frz := [1]) Et_ok ?_
            | refine oS ?_
            | refine RunOps.nil ?_
            | refine Run.skip ?_
            | refine cT ?_
            | refine cF ?_
            | refine Run.block ?_
            | refine Run.exit ?_
            | refine Run.draw (frz := [1]) Et_ok (by kernel_rfl) ?_
            | refine eX ?_
            | refine eS ?_
            | refine eN ?_
            | refine oX (frz := [1]) (v := .d (.ep [.str r.name, alts r.alts])) Et_ok ?_ (hf := (by first | (simp [inB] <;> fail) | (simp [inB]; omega))) (he := (by first | (simp [List.getD_eq_getElem?_getD, cellsD, hr, encR] <;> fail) | fail))
            | refine eX (v := .d (.ep [.str r.name, alts r.alts])) ?_ (hf := (by first | (simp [inB] <;> fail) | (simp [inB]; omega))) (he := (by first | (simp [List.getD_eq_getElem?_getD, cellsD, hr, encR] <;> fail) | fail))
            | (refine Run.ret ?_; (first | refine rB ?_ | refine rI ?_ | refine rA ?_ | refine rII ?_ | refine rSI ?_ | refine rT ?_ | refine rS ?_); first | done | (skip))
            | (exact ⟨i + 1, ⟨hlt, any_next hr hi.2 (by simp only [misR, hb, hkk]; rfl)⟩, by omega, weak_of (by repeat' (first | exact trivial | refine ⟨rfl, ?_⟩ | refine ⟨(inc_get (k := i) (by kernel_rfl) (by omega)), ?_⟩))⟩)
            | ((exfalso; (simp at h <;> omega)))
            | fail)
    · have hie : i = x.rules.length := by omega
      subst hie
      have hm : misX x = (!smallF x.sep || !capitalF x.start) := by unfold misX; rw [htk, any_end hi.2]; simp
      rw [hm]
      have hsm := refSmall x.sep (Nat.le_trans hf.sep (by decide))
      have hsc := refCapital x.start (Nat.le_trans hf.start (by decide))
      cases hc1 : smallF x.sep with
      | false =>
        rw [hc1] at hsm
        repeat' (first
          | refine Run.region ?_
          | refine Run.seq ?_
          | ((refine oB (frz := [1]) Et_ok (fun h => ?_) (fun h => ?_)) <;> (first | (exfalso; simp at h <;> fail) | (exfalso; simp at h; omega) | skip))
          | ((refine eB (fun h => ?_) (fun h => ?_)) <;> (first | (exfalso; simp at h <;> fail) | (exfalso; simp at h; omega) | skip))
          | refine oX (frz := [1]) Et_ok ?_
          | refine oS ?_
          | refine RunOps.nil ?_
          | refine Run.skip ?_
          | refine cT ?_
          | refine cF ?_
          | refine Run.block ?_
          | refine Run.exit ?_
          | refine Run.draw (frz := [1]) Et_ok (by kernel_rfl) ?_
          | refine eX ?_
          | refine eS ?_
          | refine eN ?_
          | refine oC (hsm) ?_
          | refine eC (hsm) ?_
          | refine oC (hsc) ?_
          | refine eC (hsc) ?_
          | (refine Run.ret ?_; (first | refine rB ?_ | refine rI ?_ | refine rA ?_ | refine rII ?_ | refine rSI ?_ | refine rT ?_ | refine rS ?_); first | done | (rfl))
          | ((exfalso; (simp at h <;> omega)))
          | fail)
      | true =>
        rw [hc1] at hsm
        cases hc2 : capitalF x.start with
        | false =>
          rw [hc2] at hsc
          repeat' (first
            | refine Run.region ?_
            | refine Run.seq ?_
            | ((refine oB (frz := [1]) Et_ok (fun h => ?_) (fun h => ?_)) <;> (first | (exfalso; simp at h <;> fail) | (exfalso; simp at h; omega) | skip))
            | ((refine eB (fun h => ?_) (fun h => ?_)) <;> (first | (exfalso; simp at h <;> fail) | (exfalso; simp at h; omega) | skip))
            | refine oX (frz := [1]) Et_ok ?_
            | refine oS ?_
            | refine RunOps.nil ?_
            | refine Run.skip ?_
            | refine cT ?_
            | refine cF ?_
            | refine Run.block ?_
            | refine Run.exit ?_
            | refine Run.draw (frz := [1]) Et_ok (by kernel_rfl) ?_
            | refine eX ?_
            | refine eS ?_
            | refine eN ?_
            | refine oC (hsm) ?_
            | refine eC (hsm) ?_
            | refine oC (hsc) ?_
            | refine eC (hsc) ?_
            | (refine Run.ret ?_; (first | refine rB ?_ | refine rI ?_ | refine rA ?_ | refine rII ?_ | refine rSI ?_ | refine rT ?_ | refine rS ?_); first | done | (rfl))
            | ((exfalso; (simp at h <;> omega)))
            | fail)
        | true =>
          rw [hc2] at hsc
          repeat' (first
            | refine Run.region ?_
            | refine Run.seq ?_
            | ((refine oB (frz := [1]) Et_ok (fun h => ?_) (fun h => ?_)) <;> (first | (exfalso; simp at h <;> fail) | (exfalso; simp at h; omega) | skip))
            | ((refine eB (fun h => ?_) (fun h => ?_)) <;> (first | (exfalso; simp at h <;> fail) | (exfalso; simp at h; omega) | skip))
            | refine oX (frz := [1]) Et_ok ?_
            | refine oS ?_
            | refine RunOps.nil ?_
            | refine Run.skip ?_
            | refine cT ?_
            | refine cF ?_
            | refine Run.block ?_
            | refine Run.exit ?_
            | refine Run.draw (frz := [1]) Et_ok (by kernel_rfl) ?_
            | refine eX ?_
            | refine eS ?_
            | refine eN ?_
            | refine oC (hsm) ?_
            | refine eC (hsm) ?_
            | refine oC (hsc) ?_
            | refine eC (hsc) ?_
            | (refine Run.ret ?_; (first | refine rB ?_ | refine rI ?_ | refine rA ?_ | refine rII ?_ | refine rSI ?_ | refine rT ?_ | refine rS ?_); first | done | (rfl))
            | ((exfalso; (simp at h <;> omega)))
            | fail)
end Go.Av
end

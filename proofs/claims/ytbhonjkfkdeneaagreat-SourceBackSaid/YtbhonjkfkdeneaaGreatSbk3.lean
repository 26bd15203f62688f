/-
  Parts of the way to the law, joined: rules for code over data, and what the functions return. Conditions stand at each.
-/
import Derived.Test.YtbhonjkfkdeneaaGreatSbk2
import Derived.Test.YtbhonjkfkdeneaaGreatRows
set_option linter.all false
namespace Go.Av
open Go Go.Proofs
def ty1:Ty:=⟨.func #[] #[] false,1,8,[.nilfunc]⟩
def ty3:Ty:=⟨.int .i64,1,8,[(.int .i64 0)]⟩
def ty4:Ty:=⟨.bool,1,1,[(.bool false)]⟩
def ty5:Ty:=⟨.int .u8,1,1,[(.int .u8 0)]⟩
def ty9:Ty:=⟨.string,1,16,[(.str [])]⟩
def ty20:Ty:=⟨.interface #[],1,16,[.niliface]⟩
def ty21:Ty:=⟨.int .i32,1,4,[(.int .i32 0)]⟩
def ty22:Ty:=⟨.slice 9,1,24,[.nilsl]⟩
def ty29:Ty:=⟨.slice 96,1,24,[.nilsl]⟩
def ty31:Ty:=⟨.struct #[⟨ "K",3,0,false, "", "",0⟩,⟨ "Tokens",22,1,false, "", "",8⟩,⟨ "Sep",9,2,false, "", "",32⟩,⟨ "Start",9,3,false, "", "",48⟩,⟨ "Rules",29,4,false, "", "",64⟩],5,88,[(.int .i64 0),.nilsl,(.str []),(.str []),.nilsl]⟩
def ty32:Ty:=⟨.int .i64,1,8,[(.int .i64 0)]⟩
def ty41:Ty:=⟨.struct #[⟨ "Err",32,0,false, "", "",0⟩,⟨ "At",3,1,false, "", "",8⟩],2,16,[(.int .i64 0),(.int .i64 0)]⟩
def ty44:Ty:=⟨.func #[9] #[4] false,1,8,[.nilfunc]⟩
def ty55:Ty:=⟨.func #[22,22] #[4] false,1,8,[.nilfunc]⟩
def ty75:Ty:=⟨.slice 5,1,24,[.nilsl]⟩
def ty94:Ty:=⟨.slice 22,1,24,[.nilsl]⟩
def ty96:Ty:=⟨.struct #[⟨ "Name",9,0,false, "", "",0⟩,⟨ "Alts",94,1,false, "", "",16⟩],2,40,[(.str []),.nilsl]⟩
def ty105:Ty:=⟨.func #[96,96] #[4] false,1,8,[.nilfunc]⟩
def ty109:Ty:=⟨.slice 126,1,24,[.nilsl]⟩
def ty113:Ty:=⟨.struct #[⟨ "Fault",41,0,true, "", "",0⟩],2,16,[(.int .i64 0),(.int .i64 0)]⟩
def ty115:Ty:=⟨.pointer 119,1,8,[.nilptr]⟩
def ty116:Ty:=⟨.map 9 200,1,8,[.nilmap]⟩
def ty117:Ty:=⟨.slice 198,1,24,[.nilsl]⟩
def ty119:Ty:=⟨.struct #[⟨ "s",9,0,false, "", "stenotype/source",0⟩,⟨ "l",109,1,false, "", "stenotype/source",16⟩,⟨ "x",31,2,false, "", "stenotype/source",40⟩,⟨ "names",116,7,false, "", "stenotype/source",128⟩,⟨ "uses",117,8,false, "", "stenotype/source",136⟩,⟨ "total",3,9,false, "", "stenotype/source",160⟩],10,168,[(.str []),.nilsl,(.int .i64 0),.nilsl,(.str []),(.str []),.nilsl,.nilmap,.nilsl,(.int .i64 0)]⟩
def ty120:Ty:=⟨.func #[115] #[] false,1,8,[.nilfunc]⟩
def ty121:Ty:=⟨.array 6 120,6,48,[.nilfunc,.nilfunc,.nilfunc,.nilfunc,.nilfunc,.nilfunc]⟩
def ty122:Ty:=⟨.pointer 124,1,8,[.nilptr]⟩
def ty124:Ty:=⟨.struct #[⟨ "text",9,0,false, "", "stenotype/stenotyperef08",0⟩,⟨ "l",109,1,false, "", "stenotype/stenotyperef08",16⟩,⟨ "at",3,2,false, "", "stenotype/stenotyperef08",40⟩,⟨ "f",41,3,false, "", "stenotype/stenotyperef08",48⟩,⟨ "alts",3,5,false, "", "stenotype/stenotyperef08",64⟩,⟨ "x",31,6,false, "", "stenotype/stenotyperef08",72⟩],11,160,[(.str []),.nilsl,(.int .i64 0),(.int .i64 0),(.int .i64 0),(.int .i64 0),(.int .i64 0),.nilsl,(.str []),(.str []),.nilsl]⟩
def ty126:Ty:=⟨.struct #[⟨ "Kind",3,0,false, "", "",0⟩,⟨ "Text",9,1,false, "", "",8⟩,⟨ "At",3,2,false, "", "",24⟩],3,32,[(.int .i64 0),(.str []),(.int .i64 0)]⟩
def ty131:Ty:=⟨.pointer 136,1,8,[.nilptr]⟩
def ty132:Ty:=⟨.pointer 134,1,8,[.nilptr]⟩
def ty134:Ty:=⟨.struct #[⟨ "addr",132,0,false, "", "strings",0⟩,⟨ "buf",75,1,false, "", "strings",8⟩],2,32,[.nilptr,.nilsl]⟩
def ty136:Ty:=⟨.struct #[⟨ "Builder",134,0,true, "", "",0⟩],2,32,[.nilptr,.nilsl]⟩
def ty143:Ty:=⟨.func #[96] #[4] false,1,8,[.nilfunc]⟩
def ty189:Ty:=⟨.func #[233] #[] false,1,8,[.nilfunc]⟩
def ty190:Ty:=⟨.func #[233] #[] false,1,8,[.nilfunc]⟩
def ty198:Ty:=⟨.struct #[⟨ "name",9,0,false, "", "stenotype/source",0⟩,⟨ "at",3,1,false, "", "stenotype/source",16⟩],2,24,[(.str []),(.int .i64 0)]⟩
def ty200:Ty:=⟨.struct #[⟨ "token",4,0,false, "", "stenotype/source",0⟩,⟨ "sep",4,1,false, "", "stenotype/source",1⟩,⟨ "rule",4,2,false, "", "stenotype/source",2⟩],3,3,[(.bool false),(.bool false),(.bool false)]⟩
def ty207:Ty:=⟨.interface #[("Error",139)],1,16,[.niliface]⟩
def ty211:Ty:=⟨.pointer 5,1,8,[.nilptr]⟩
def ty233:Ty:=⟨.func #[126,41] #[4] false,1,8,[.nilfunc]⟩
def ty234:Ty:=⟨.pointer 238,1,8,[.nilptr]⟩
def ty236:Ty:=⟨.struct #[⟨ "s",9,0,false, "", "stenotype/text",0⟩,⟨ "at",3,1,false, "", "stenotype/text",16⟩],2,24,[(.str []),(.int .i64 0)]⟩
def ty238:Ty:=⟨.struct #[⟨ "cursor",236,0,true, "", "stenotype/text",0⟩],2,24,[(.str []),(.int .i64 0)]⟩
def ty253:Ty:=⟨.int .i64,1,8,[(.int .i64 0)]⟩
def ty257:Ty:=⟨.unsafePointer,1,8,[.nilptr]⟩
def ty261:Ty:=⟨.array 4 9,4,64,[(.str []),(.str []),(.str []),(.str [])]⟩
def ty266:Ty:=⟨.pointer 236,1,8,[.nilptr]⟩
def ty268:Ty:=⟨.slice 253,1,24,[.nilsl]⟩
def ty269:Ty:=⟨.array 4 5,4,4,[(.int .u8 0),(.int .u8 0),(.int .u8 0),(.int .u8 0)]⟩
noncomputable def Et:PT Ty:=(.node (.node (.node (.node (.node (.node .nil (some ty31) .nil) none (.node (.node (.node .nil (some ty143) .nil) none (.node .nil (some ty207) .nil)) none .nil)) none (.node .nil none (.node .nil (some ty55) (.node .nil (some ty119) .nil)))) (some ty3) (.node (.node (.node (.node (.node .nil (some ty131) .nil) none .nil) none .nil) none (.node (.node .nil none (.node .nil (some ty211) .nil)) none (.node .nil (some ty115) .nil))) none (.node (.node (.node .nil (some ty75) .nil) none .nil) none .nil))) (some ty1) (.node (.node (.node (.node (.node (.node (.node .nil (some ty257) .nil) none .nil) none .nil) none .nil) none (.node .nil none (.node .nil (some ty113) .nil))) (some ty9) (.node (.node .nil (some ty41) (.node .nil (some ty105) (.node .nil (some ty233) .nil))) none (.node .nil none (.node .nil (some ty121) .nil)))) (some ty5) (.node (.node (.node (.node (.node (.node .nil (some ty261) .nil) none .nil) none .nil) none .nil) (some ty21) (.node .nil none (.node .nil (some ty117) .nil))) none (.node (.node (.node (.node (.node .nil (some ty269) .nil) none .nil) none .nil) none (.node .nil (some ty109) .nil)) (some ty29) (.node .nil none (.node (.node .nil (some ty189) .nil) none (.node .nil (some ty253) .nil))))))) none (.node (.node (.node (.node (.node .nil (some ty32) (.node .nil (some ty96) .nil)) none .nil) none (.node (.node (.node (.node .nil (some ty136) .nil) none (.node .nil (some ty200) .nil)) none .nil) none (.node .nil none (.node .nil (some ty120) .nil)))) (some ty4) (.node (.node (.node (.node (.node .nil (some ty132) .nil) none .nil) none .nil) (some ty20) (.node .nil none (.node .nil (some ty116) .nil))) none (.node (.node (.node (.node (.node .nil (some ty268) .nil) none .nil) none .nil) (some ty44) (.node .nil none (.node .nil (some ty236) .nil))) none (.node .nil none (.node .nil (some ty124) .nil))))) none (.node (.node .nil none (.node (.node (.node (.node (.node .nil (some ty266) .nil) none .nil) none .nil) none (.node .nil none (.node .nil (some ty234) .nil))) none (.node .nil none (.node .nil (some ty122) .nil)))) none (.node (.node (.node (.node (.node .nil (some ty134) .nil) none (.node .nil (some ty198) .nil)) none .nil) (some ty22) .nil) none (.node (.node .nil none (.node .nil none (.node .nil (some ty238) .nil))) none (.node (.node .nil (some ty94) .nil) none (.node (.node .nil (some ty190) .nil) (some ty126) .nil)))))))
noncomputable def Ft:PT FnI:=(.node (.node (.node (.node (.node (.node (.node (.node (.node .nil (some (mkFn Tryz.f255 [])) .nil) none .nil) none (.node .nil (some (mkFn Tryz.f191 [])) .nil)) (some (mkFn Tryz.f31 [1,24,33,45,58,68,73])) (.node .nil (some (mkFn Tryz.f95 [1,2,3,4,6])) .nil)) none (.node .nil none (.node .nil (some (mkFn Tryz.f111 [])) (.node .nil (some (mkFn Tryz.f239 [])) .nil)))) none (.node (.node (.node .nil none (.node .nil (some (mkFn Tryz.f199 [])) .nil)) none (.node .nil (some (mkFn Tryz.f103 [])) (.node .nil (some (mkFn Tryz.f231 [])) .nil))) none (.node (.node .nil (some (mkFn Tryz.f87 [])) .nil) none (.node (.node .nil (some (mkFn Tryz.f183 [])) .nil) (some (mkFn Tryz.f119 [1])) .nil)))) none (.node (.node (.node (.node (.node (.node .nil (some (extFn 76)) .nil) (some (mkFn Tryz.f131 [1,19])) .nil) none (.node .nil (some (mkFn Tryz.f195 [])) .nil)) (some (mkFn Tryz.f35 [131080,1,11])) (.node .nil (some (mkFn Tryz.f99 [12,29])) (.node .nil (some (mkFn Tryz.f227 [])) .nil))) none (.node .nil none (.node (.node .nil (some (mkFn Tryz.f179 [])) .nil) (some (mkFn Tryz.f115 [1,16])) .nil))) none (.node (.node (.node (.node (.node .nil (some (mkFn Tryz.f267 [])) .nil) none .nil) none (.node .nil (some (mkFn Tryz.f203 [])) .nil)) none (.node .nil (some (mkFn Tryz.f107 [48,60])) (.node .nil (some (mkFn Tryz.f235 [131085,131085])) .nil))) (some (mkFn Tryz.f27 [])) (.node .nil none (.node (.node .nil (some (mkFn Tryz.f187 [33,45])) .nil) (some (mkFn Tryz.f123 [])) (.node .nil (some (mkFn Tryz.f251 [5,15])) .nil)))))) none (.node (.node (.node (.node (.node (.node (.node .nil (some (mkFn Tryz.f257 [])) .nil) none .nil) none (.node .nil (some (mkFn Tryz.f193 [])) .nil)) none (.node .nil (some (mkFn Tryz.f97 [])) (.node .nil (some (mkFn Tryz.f225 [])) .nil))) none (.node .nil none (.node (.node .nil (some (mkFn Tryz.f177 [1])) .nil) (some (mkFn Tryz.f113 [])) .nil))) none (.node (.node (.node .nil none (.node .nil (some (mkFn Tryz.f201 [])) .nil)) none (.node .nil (some (mkFn Tryz.f105 [87])) (.node .nil (some (mkFn Tryz.f233 [1])) .nil))) none (.node (.node .nil (some (mkFn Tryz.f89 [])) .nil) none (.node (.node .nil (some (mkFn Tryz.f185 [])) .nil) (some (mkFn Tryz.f121 [])) (.node .nil (some (mkFn Tryz.f249 [])) .nil))))) (some (mkFn Tryz.f5 [])) (.node (.node (.node (.node (.node (.node .nil (some (mkFn Tryz.f261 [])) .nil) none .nil) none (.node .nil (some (mkFn Tryz.f197 [65])) .nil)) none (.node (.node .nil (some (mkFn Tryz.f165 [])) .nil) (some (mkFn Tryz.f101 [23])) (.node .nil (some (mkFn Tryz.f229 [])) .nil))) none (.node .nil none (.node (.node .nil (some (mkFn Tryz.f181 [3])) .nil) (some (mkFn Tryz.f117 [])) .nil))) none (.node (.node .nil none (.node (.node .nil (some (mkFn Tryz.f173 [])) .nil) (some (mkFn Tryz.f109 [])) (.node .nil (some (mkFn Tryz.f237 [])) .nil))) (some (mkFn Tryz.f29 [2,3])) (.node .nil none (.node (.node .nil (some (mkFn Tryz.f189 [])) .nil) (some (mkFn Tryz.f125 [])) (.node .nil (some (mkFn Tryz.f253 [])) .nil))))))) none (.node (.node (.node (.node (.node (.node (.node (.node .nil (some (mkFn Tryz.f256 [])) .nil) none .nil) none (.node .nil (some (mkFn Tryz.f192 [3])) .nil)) none (.node .nil (some (mkFn Tryz.f96 [22])) (.node .nil (some (mkFn Tryz.f224 [])) .nil))) none (.node .nil none (.node .nil (some (mkFn Tryz.f112 [])) .nil))) none (.node (.node (.node .nil (some (mkFn Tryz.f72 [])) (.node .nil (some (mkFn Tryz.f200 [131096])) .nil)) none (.node .nil (some (mkFn Tryz.f104 [31])) (.node .nil (some (mkFn Tryz.f232 [3])) .nil))) none (.node (.node .nil (some (mkFn Tryz.f88 [2,3])) .nil) (some (mkFn Tryz.f56 [])) (.node (.node .nil (some (mkFn Tryz.f184 [])) .nil) (some (mkFn Tryz.f120 [3])) .nil)))) none (.node (.node (.node (.node (.node (.node .nil (some (mkFn Tryz.f260 [])) .nil) none .nil) none (.node .nil (some (mkFn Tryz.f196 [])) .nil)) none (.node .nil (some (mkFn Tryz.f100 [])) (.node .nil (some (mkFn Tryz.f228 [1])) .nil))) none (.node .nil none (.node (.node .nil (some (mkFn Tryz.f180 [])) .nil) (some (mkFn Tryz.f116 [1])) .nil))) none (.node (.node (.node (.node (.node .nil (some (mkFn Tryz.f268 [])) .nil) none .nil) none (.node .nil (some (mkFn Tryz.f204 [])) .nil)) none (.node (.node .nil (some (mkFn Tryz.f172 [])) .nil) (some (mkFn Tryz.f108 [4])) (.node .nil (some (mkFn Tryz.f236 [65558,200000])) .nil))) (some (mkFn Tryz.f28 [])) (.node .nil none (.node (.node .nil (some (mkFn Tryz.f188 [])) .nil) (some (mkFn Tryz.f124 [])) (.node .nil (some (mkFn Tryz.f252 [])) .nil)))))) none (.node (.node (.node (.node (.node (.node (.node .nil (some (extFn 0)) .nil) none .nil) none (.node .nil (some (mkFn Tryz.f194 [])) .nil)) none (.node .nil (some (mkFn Tryz.f98 [])) (.node .nil (some (mkFn Tryz.f226 [33,40])) .nil))) none (.node .nil none (.node (.node .nil (some (mkFn Tryz.f178 [])) .nil) none .nil))) none (.node (.node (.node (.node (.node .nil (some (mkFn Tryz.f266 [])) .nil) none .nil) none (.node .nil (some (mkFn Tryz.f202 [])) .nil)) none (.node .nil (some (mkFn Tryz.f106 [])) (.node .nil (some (mkFn Tryz.f234 [131082])) .nil))) (some (mkFn Tryz.f26 [])) (.node .nil none (.node (.node .nil (some (mkFn Tryz.f186 [3])) .nil) (some (mkFn Tryz.f122 [])) (.node .nil (some (mkFn Tryz.f250 [])) .nil))))) none (.node (.node (.node (.node .nil none (.node .nil (some (mkFn Tryz.f198 [65550])) .nil)) none (.node .nil (some (mkFn Tryz.f102 [88,100])) (.node .nil (some (mkFn Tryz.f230 [])) .nil))) (some (mkFn Tryz.f22 [2,3])) (.node (.node .nil (some (mkFn Tryz.f86 [])) .nil) none (.node (.node .nil (some (mkFn Tryz.f182 [])) .nil) (some (mkFn Tryz.f118 [1])) .nil))) none (.node (.node .nil none (.node .nil (some (mkFn Tryz.f110 [7])) (.node .nil (some (mkFn Tryz.f238 [])) .nil))) (some (mkFn Tryz.f30 [40,54])) (.node .nil none (.node (.node .nil (some (mkFn Tryz.f190 [])) .nil) (some (mkFn Tryz.f126 [])) (.node .nil (some (mkFn Tryz.f254 [])) .nil))))))))
theorem Yo:EnvOK Tryz.prog Et:=envOK_of ⟨trivial,⟨⟨by kernel_rfl,by kernel_rfl⟩,⟨⟨by kernel_rfl,by kernel_rfl⟩,⟨trivial,⟨trivial,⟨⟨by kernel_rfl,by kernel_rfl⟩,trivial,trivial⟩,⟨trivial,⟨trivial,⟨⟨by kernel_rfl,by kernel_rfl⟩,trivial,trivial⟩,⟨⟨by kernel_rfl,by kernel_rfl⟩,trivial,trivial⟩⟩,trivial⟩⟩,⟨trivial,trivial,⟨⟨by kernel_rfl,by kernel_rfl⟩,trivial,⟨⟨by kernel_rfl,by kernel_rfl⟩,trivial,trivial⟩⟩⟩⟩,⟨trivial,⟨trivial,⟨trivial,⟨trivial,⟨⟨by kernel_rfl,by kernel_rfl⟩,trivial,trivial⟩,trivial⟩,trivial⟩,⟨trivial,⟨trivial,trivial,⟨⟨by kernel_rfl,by kernel_rfl⟩,trivial,trivial⟩⟩,⟨⟨by kernel_rfl,by kernel_rfl⟩,trivial,trivial⟩⟩⟩,⟨trivial,⟨trivial,⟨⟨by kernel_rfl,by kernel_rfl⟩,trivial,trivial⟩,trivial⟩,trivial⟩⟩⟩,⟨⟨by kernel_rfl,by kernel_rfl⟩,⟨⟨by kernel_rfl,by kernel_rfl⟩,⟨trivial,⟨trivial,⟨trivial,⟨trivial,⟨⟨by kernel_rfl,by kernel_rfl⟩,trivial,trivial⟩,trivial⟩,trivial⟩,trivial⟩,⟨trivial,trivial,⟨⟨by kernel_rfl,by kernel_rfl⟩,trivial,trivial⟩⟩⟩,⟨trivial,⟨⟨by kernel_rfl,by kernel_rfl⟩,trivial,⟨⟨by kernel_rfl,by kernel_rfl⟩,trivial,⟨⟨by kernel_rfl,by kernel_rfl⟩,trivial,trivial⟩⟩⟩,⟨trivial,trivial,⟨⟨by kernel_rfl,by kernel_rfl⟩,trivial,trivial⟩⟩⟩⟩,⟨trivial,⟨⟨by kernel_rfl,by kernel_rfl⟩,⟨trivial,⟨trivial,⟨trivial,⟨⟨by kernel_rfl,by kernel_rfl⟩,trivial,trivial⟩,trivial⟩,trivial⟩,trivial⟩,⟨trivial,trivial,⟨⟨by kernel_rfl,by kernel_rfl⟩,trivial,trivial⟩⟩⟩,⟨⟨by kernel_rfl,by kernel_rfl⟩,⟨trivial,⟨trivial,⟨trivial,⟨⟨by kernel_rfl,by kernel_rfl⟩,trivial,trivial⟩,trivial⟩,trivial⟩,⟨⟨by kernel_rfl,by kernel_rfl⟩,trivial,trivial⟩⟩,⟨trivial,trivial,⟨trivial,⟨⟨by kernel_rfl,by kernel_rfl⟩,trivial,trivial⟩,⟨⟨by kernel_rfl,by kernel_rfl⟩,trivial,trivial⟩⟩⟩⟩⟩⟩⟩,⟨trivial,⟨⟨by kernel_rfl,by kernel_rfl⟩,⟨trivial,⟨trivial,⟨⟨by kernel_rfl,by kernel_rfl⟩,trivial,⟨⟨by kernel_rfl,by kernel_rfl⟩,trivial,trivial⟩⟩,trivial⟩,⟨trivial,⟨trivial,⟨trivial,⟨⟨by kernel_rfl,by kernel_rfl⟩,trivial,trivial⟩,⟨⟨by kernel_rfl,by kernel_rfl⟩,trivial,trivial⟩⟩,trivial⟩,⟨trivial,trivial,⟨⟨by kernel_rfl,by kernel_rfl⟩,trivial,trivial⟩⟩⟩⟩,⟨trivial,⟨⟨by kernel_rfl,by kernel_rfl⟩,⟨trivial,⟨trivial,⟨⟨by kernel_rfl,by kernel_rfl⟩,trivial,trivial⟩,trivial⟩,trivial⟩,⟨trivial,trivial,⟨⟨by kernel_rfl,by kernel_rfl⟩,trivial,trivial⟩⟩⟩,⟨trivial,⟨⟨by kernel_rfl,by kernel_rfl⟩,⟨trivial,⟨trivial,⟨⟨by kernel_rfl,by kernel_rfl⟩,trivial,trivial⟩,trivial⟩,trivial⟩,⟨trivial,trivial,⟨⟨by kernel_rfl,by kernel_rfl⟩,trivial,trivial⟩⟩⟩,⟨trivial,trivial,⟨⟨by kernel_rfl,by kernel_rfl⟩,trivial,trivial⟩⟩⟩⟩⟩,⟨trivial,⟨trivial,trivial,⟨trivial,⟨trivial,⟨trivial,⟨trivial,⟨⟨by kernel_rfl,by kernel_rfl⟩,trivial,trivial⟩,trivial⟩,trivial⟩,⟨trivial,trivial,⟨⟨by kernel_rfl,by kernel_rfl⟩,trivial,trivial⟩⟩⟩,⟨trivial,trivial,⟨⟨by kernel_rfl,by kernel_rfl⟩,trivial,trivial⟩⟩⟩⟩,⟨trivial,⟨⟨by kernel_rfl,by kernel_rfl⟩,⟨trivial,⟨trivial,⟨⟨by kernel_rfl,by kernel_rfl⟩,trivial,trivial⟩,⟨⟨by kernel_rfl,by kernel_rfl⟩,trivial,trivial⟩⟩,trivial⟩,trivial⟩,⟨trivial,⟨trivial,trivial,⟨trivial,trivial,⟨⟨by kernel_rfl,by kernel_rfl⟩,trivial,trivial⟩⟩⟩,⟨trivial,⟨⟨by kernel_rfl,by kernel_rfl⟩,trivial,trivial⟩,⟨⟨by kernel_rfl,by kernel_rfl⟩,⟨⟨by kernel_rfl,by kernel_rfl⟩,trivial,trivial⟩,trivial⟩⟩⟩⟩⟩⟩⟩
theorem Ft_ok:FnsOK Tryz.prog Ft.get?:=fnsOK_of ⟨trivial,⟨trivial,⟨trivial,⟨trivial,⟨trivial,⟨(fnAt Tryz.func31 (by kernel_rfl) (by kernel_rfl)),⟨trivial,⟨trivial,⟨(fnAt Tryz.func255 (by kernel_rfl) (by kernel_rfl)),trivial,trivial⟩,trivial⟩,⟨(fnAt Tryz.func191 (by kernel_rfl) (by kernel_rfl)),trivial,trivial⟩⟩,⟨(fnAt Tryz.func95 (by kernel_rfl) (by kernel_rfl)),trivial,trivial⟩⟩,⟨trivial,trivial,⟨(fnAt Tryz.func111 (by kernel_rfl) (by kernel_rfl)),trivial,⟨(fnAt Tryz.func239 (by kernel_rfl) (by kernel_rfl)),trivial,trivial⟩⟩⟩⟩,⟨trivial,⟨trivial,⟨trivial,trivial,⟨(fnAt Tryz.func199 (by kernel_rfl) (by kernel_rfl)),trivial,trivial⟩⟩,⟨(fnAt Tryz.func103 (by kernel_rfl) (by kernel_rfl)),trivial,⟨(fnAt Tryz.func231 (by kernel_rfl) (by kernel_rfl)),trivial,trivial⟩⟩⟩,⟨trivial,⟨(fnAt Tryz.func87 (by kernel_rfl) (by kernel_rfl)),trivial,trivial⟩,⟨(fnAt Tryz.func119 (by kernel_rfl) (by kernel_rfl)),⟨(fnAt Tryz.func183 (by kernel_rfl) (by kernel_rfl)),trivial,trivial⟩,trivial⟩⟩⟩⟩,⟨trivial,⟨trivial,⟨(fnAt Tryz.func35 (by kernel_rfl) (by kernel_rfl)),⟨trivial,⟨(fnAt Tryz.func131 (by kernel_rfl) (by kernel_rfl)),⟨(extAt1 (ps:=#[3]) Tryz.func259 (by kernel_rfl) (by kernel_rfl) (by kernel_rfl) (by kernel_rfl)),trivial,trivial⟩,trivial⟩,⟨(fnAt Tryz.func195 (by kernel_rfl) (by kernel_rfl)),trivial,trivial⟩⟩,⟨(fnAt Tryz.func99 (by kernel_rfl) (by kernel_rfl)),trivial,⟨(fnAt Tryz.func227 (by kernel_rfl) (by kernel_rfl)),trivial,trivial⟩⟩⟩,⟨trivial,trivial,⟨(fnAt Tryz.func115 (by kernel_rfl) (by kernel_rfl)),⟨(fnAt Tryz.func179 (by kernel_rfl) (by kernel_rfl)),trivial,trivial⟩,trivial⟩⟩⟩,⟨(fnAt Tryz.func27 (by kernel_rfl) (by kernel_rfl)),⟨trivial,⟨trivial,⟨trivial,⟨(fnAt Tryz.func267 (by kernel_rfl) (by kernel_rfl)),trivial,trivial⟩,trivial⟩,⟨(fnAt Tryz.func203 (by kernel_rfl) (by kernel_rfl)),trivial,trivial⟩⟩,⟨(fnAt Tryz.func107 (by kernel_rfl) (by kernel_rfl)),trivial,⟨(fnAt Tryz.func235 (by kernel_rfl) (by kernel_rfl)),trivial,trivial⟩⟩⟩,⟨trivial,trivial,⟨(fnAt Tryz.func123 (by kernel_rfl) (by kernel_rfl)),⟨(fnAt Tryz.func187 (by kernel_rfl) (by kernel_rfl)),trivial,trivial⟩,⟨(fnAt Tryz.func251 (by kernel_rfl) (by kernel_rfl)),trivial,trivial⟩⟩⟩⟩⟩⟩,⟨(fnAt Tryz.func5 (by kernel_rfl) (by kernel_rfl)),⟨trivial,⟨trivial,⟨trivial,⟨trivial,⟨trivial,⟨(fnAt Tryz.func257 (by kernel_rfl) (by kernel_rfl)),trivial,trivial⟩,trivial⟩,⟨(fnAt Tryz.func193 (by kernel_rfl) (by kernel_rfl)),trivial,trivial⟩⟩,⟨(fnAt Tryz.func97 (by kernel_rfl) (by kernel_rfl)),trivial,⟨(fnAt Tryz.func225 (by kernel_rfl) (by kernel_rfl)),trivial,trivial⟩⟩⟩,⟨trivial,trivial,⟨(fnAt Tryz.func113 (by kernel_rfl) (by kernel_rfl)),⟨(fnAt Tryz.func177 (by kernel_rfl) (by kernel_rfl)),trivial,trivial⟩,trivial⟩⟩⟩,⟨trivial,⟨trivial,⟨trivial,trivial,⟨(fnAt Tryz.func201 (by kernel_rfl) (by kernel_rfl)),trivial,trivial⟩⟩,⟨(fnAt Tryz.func105 (by kernel_rfl) (by kernel_rfl)),trivial,⟨(fnAt Tryz.func233 (by kernel_rfl) (by kernel_rfl)),trivial,trivial⟩⟩⟩,⟨trivial,⟨(fnAt Tryz.func89 (by kernel_rfl) (by kernel_rfl)),trivial,trivial⟩,⟨(fnAt Tryz.func121 (by kernel_rfl) (by kernel_rfl)),⟨(fnAt Tryz.func185 (by kernel_rfl) (by kernel_rfl)),trivial,trivial⟩,⟨(fnAt Tryz.func249 (by kernel_rfl) (by kernel_rfl)),trivial,trivial⟩⟩⟩⟩⟩,⟨trivial,⟨trivial,⟨trivial,⟨trivial,⟨trivial,⟨(fnAt Tryz.func261 (by kernel_rfl) (by kernel_rfl)),trivial,trivial⟩,trivial⟩,⟨(fnAt Tryz.func197 (by kernel_rfl) (by kernel_rfl)),trivial,trivial⟩⟩,⟨(fnAt Tryz.func101 (by kernel_rfl) (by kernel_rfl)),⟨(fnAt Tryz.func165 (by kernel_rfl) (by kernel_rfl)),trivial,trivial⟩,⟨(fnAt Tryz.func229 (by kernel_rfl) (by kernel_rfl)),trivial,trivial⟩⟩⟩,⟨trivial,trivial,⟨(fnAt Tryz.func117 (by kernel_rfl) (by kernel_rfl)),⟨(fnAt Tryz.func181 (by kernel_rfl) (by kernel_rfl)),trivial,trivial⟩,trivial⟩⟩⟩,⟨(fnAt Tryz.func29 (by kernel_rfl) (by kernel_rfl)),⟨trivial,trivial,⟨(fnAt Tryz.func109 (by kernel_rfl) (by kernel_rfl)),⟨(fnAt Tryz.func173 (by kernel_rfl) (by kernel_rfl)),trivial,trivial⟩,⟨(fnAt Tryz.func237 (by kernel_rfl) (by kernel_rfl)),trivial,trivial⟩⟩⟩,⟨trivial,trivial,⟨(fnAt Tryz.func125 (by kernel_rfl) (by kernel_rfl)),⟨(fnAt Tryz.func189 (by kernel_rfl) (by kernel_rfl)),trivial,trivial⟩,⟨(fnAt Tryz.func253 (by kernel_rfl) (by kernel_rfl)),trivial,trivial⟩⟩⟩⟩⟩⟩⟩,⟨trivial,⟨trivial,⟨trivial,⟨trivial,⟨trivial,⟨trivial,⟨trivial,⟨(fnAt Tryz.func256 (by kernel_rfl) (by kernel_rfl)),trivial,trivial⟩,trivial⟩,⟨(fnAt Tryz.func192 (by kernel_rfl) (by kernel_rfl)),trivial,trivial⟩⟩,⟨(fnAt Tryz.func96 (by kernel_rfl) (by kernel_rfl)),trivial,⟨(fnAt Tryz.func224 (by kernel_rfl) (by kernel_rfl)),trivial,trivial⟩⟩⟩,⟨trivial,trivial,⟨(fnAt Tryz.func112 (by kernel_rfl) (by kernel_rfl)),trivial,trivial⟩⟩⟩,⟨trivial,⟨trivial,⟨(fnAt Tryz.func72 (by kernel_rfl) (by kernel_rfl)),trivial,⟨(fnAt Tryz.func200 (by kernel_rfl) (by kernel_rfl)),trivial,trivial⟩⟩,⟨(fnAt Tryz.func104 (by kernel_rfl) (by kernel_rfl)),trivial,⟨(fnAt Tryz.func232 (by kernel_rfl) (by kernel_rfl)),trivial,trivial⟩⟩⟩,⟨(fnAt Tryz.func56 (by kernel_rfl) (by kernel_rfl)),⟨(fnAt Tryz.func88 (by kernel_rfl) (by kernel_rfl)),trivial,trivial⟩,⟨(fnAt Tryz.func120 (by kernel_rfl) (by kernel_rfl)),⟨(fnAt Tryz.func184 (by kernel_rfl) (by kernel_rfl)),trivial,trivial⟩,trivial⟩⟩⟩⟩,⟨trivial,⟨trivial,⟨trivial,⟨trivial,⟨trivial,⟨(fnAt Tryz.func260 (by kernel_rfl) (by kernel_rfl)),trivial,trivial⟩,trivial⟩,⟨(fnAt Tryz.func196 (by kernel_rfl) (by kernel_rfl)),trivial,trivial⟩⟩,⟨(fnAt Tryz.func100 (by kernel_rfl) (by kernel_rfl)),trivial,⟨(fnAt Tryz.func228 (by kernel_rfl) (by kernel_rfl)),trivial,trivial⟩⟩⟩,⟨trivial,trivial,⟨(fnAt Tryz.func116 (by kernel_rfl) (by kernel_rfl)),⟨(fnAt Tryz.func180 (by kernel_rfl) (by kernel_rfl)),trivial,trivial⟩,trivial⟩⟩⟩,⟨(fnAt Tryz.func28 (by kernel_rfl) (by kernel_rfl)),⟨trivial,⟨trivial,⟨trivial,⟨(fnAt Tryz.func268 (by kernel_rfl) (by kernel_rfl)),trivial,trivial⟩,trivial⟩,⟨(fnAt Tryz.func204 (by kernel_rfl) (by kernel_rfl)),trivial,trivial⟩⟩,⟨(fnAt Tryz.func108 (by kernel_rfl) (by kernel_rfl)),⟨(fnAt Tryz.func172 (by kernel_rfl) (by kernel_rfl)),trivial,trivial⟩,⟨(fnAt Tryz.func236 (by kernel_rfl) (by kernel_rfl)),trivial,trivial⟩⟩⟩,⟨trivial,trivial,⟨(fnAt Tryz.func124 (by kernel_rfl) (by kernel_rfl)),⟨(fnAt Tryz.func188 (by kernel_rfl) (by kernel_rfl)),trivial,trivial⟩,⟨(fnAt Tryz.func252 (by kernel_rfl) (by kernel_rfl)),trivial,trivial⟩⟩⟩⟩⟩⟩,⟨trivial,⟨trivial,⟨trivial,⟨trivial,⟨trivial,⟨trivial,⟨(extAt0 Tryz.func258 (by kernel_rfl) (by kernel_rfl) (by kernel_rfl) (by kernel_rfl)),trivial,trivial⟩,trivial⟩,⟨(fnAt Tryz.func194 (by kernel_rfl) (by kernel_rfl)),trivial,trivial⟩⟩,⟨(fnAt Tryz.func98 (by kernel_rfl) (by kernel_rfl)),trivial,⟨(fnAt Tryz.func226 (by kernel_rfl) (by kernel_rfl)),trivial,trivial⟩⟩⟩,⟨trivial,trivial,⟨trivial,⟨(fnAt Tryz.func178 (by kernel_rfl) (by kernel_rfl)),trivial,trivial⟩,trivial⟩⟩⟩,⟨(fnAt Tryz.func26 (by kernel_rfl) (by kernel_rfl)),⟨trivial,⟨trivial,⟨trivial,⟨(fnAt Tryz.func266 (by kernel_rfl) (by kernel_rfl)),trivial,trivial⟩,trivial⟩,⟨(fnAt Tryz.func202 (by kernel_rfl) (by kernel_rfl)),trivial,trivial⟩⟩,⟨(fnAt Tryz.func106 (by kernel_rfl) (by kernel_rfl)),trivial,⟨(fnAt Tryz.func234 (by kernel_rfl) (by kernel_rfl)),trivial,trivial⟩⟩⟩,⟨trivial,trivial,⟨(fnAt Tryz.func122 (by kernel_rfl) (by kernel_rfl)),⟨(fnAt Tryz.func186 (by kernel_rfl) (by kernel_rfl)),trivial,trivial⟩,⟨(fnAt Tryz.func250 (by kernel_rfl) (by kernel_rfl)),trivial,trivial⟩⟩⟩⟩⟩,⟨trivial,⟨(fnAt Tryz.func22 (by kernel_rfl) (by kernel_rfl)),⟨trivial,⟨trivial,trivial,⟨(fnAt Tryz.func198 (by kernel_rfl) (by kernel_rfl)),trivial,trivial⟩⟩,⟨(fnAt Tryz.func102 (by kernel_rfl) (by kernel_rfl)),trivial,⟨(fnAt Tryz.func230 (by kernel_rfl) (by kernel_rfl)),trivial,trivial⟩⟩⟩,⟨trivial,⟨(fnAt Tryz.func86 (by kernel_rfl) (by kernel_rfl)),trivial,trivial⟩,⟨(fnAt Tryz.func118 (by kernel_rfl) (by kernel_rfl)),⟨(fnAt Tryz.func182 (by kernel_rfl) (by kernel_rfl)),trivial,trivial⟩,trivial⟩⟩⟩,⟨(fnAt Tryz.func30 (by kernel_rfl) (by kernel_rfl)),⟨trivial,trivial,⟨(fnAt Tryz.func110 (by kernel_rfl) (by kernel_rfl)),trivial,⟨(fnAt Tryz.func238 (by kernel_rfl) (by kernel_rfl)),trivial,trivial⟩⟩⟩,⟨trivial,trivial,⟨(fnAt Tryz.func126 (by kernel_rfl) (by kernel_rfl)),⟨(fnAt Tryz.func190 (by kernel_rfl) (by kernel_rfl)),trivial,trivial⟩,⟨(fnAt Tryz.func254 (by kernel_rfl) (by kernel_rfl)),trivial,trivial⟩⟩⟩⟩⟩⟩⟩⟩
end Go.Av
noncomputable section
namespace Go.Av
open Go Go.Proofs
def Fz (_:List Nat):Prop:=True
section
variable {frz:List Nat} {nt m:Nat} {ro':Option Nat} {K:Ex→S→Prop} {ops:Array Oper} {l:List Oper} {o:Oper} {tm tm' tm1 tm0:PT AV} {objs objs':List Ob} {dl:List Dl} {b:Bool} {ob:Option (List Ob)} {fl:Bool} {s s0:S} {i:Nat} {acc:List Eff} {G:S→Prop} {P A B X Y Q:Prop} {g:FuncId} {ds:List DV} {r:AV}
theorem oXw (_:Fz frz) {v v':AV} (k:RunOps Tryz.prog nt m ro' ops l ⟨tm',objs',dl⟩ K) (hg:guardA ops (rd tm) o=some true:=by rfl) (hv:evAny Et H0 frz (rd tm) objs o=some (v',ob,fl):=by rfl) (hf:fl=true:=by rfl)
  (he:v'=v:=by first|(conv=>lhs;dsimp only)|rfl) (ho:ob.getD objs=objs':=by first|(conv=>lhs;dsimp only [Option.getD])|rfl) (hp:isPan v=false:=by rfl) (ht:setD nt tm o.dst v=some tm':=by rfl) :
  RunOps Tryz.prog nt m ro' ops (o :: l) ⟨tm,objs,dl⟩ K:=RunOps.x Yo hg hv hf he ho hp ht k
theorem oXn (_:Fz frz) {v v':AV} (k:RunOps Tryz.prog nt m ro' ops l ⟨tm',objs',dl⟩ K) (_:boolOp o.op=false:=by rfl) (hg:guardA ops (rd tm) o=some true:=by rfl) (hv:evAny Et H0 frz (rd tm) objs o=some (v',ob,fl):=by rfl) (hf:fl=true:=by rfl)
  (he:v'=v:=by first|(conv=>lhs;dsimp only)|rfl) (ho:ob.getD objs=objs':=by first|(conv=>lhs;dsimp only [Option.getD])|rfl) (hp:isPan v=false:=by rfl) (ht:setD nt tm o.dst v=some tm':=by rfl) :
  RunOps Tryz.prog nt m ro' ops (o :: l) ⟨tm,objs,dl⟩ K:=RunOps.x Yo hg hv hf he ho hp ht k
theorem eXn {v v':AV} (k:EvD Tryz.prog Et frz nt ops s0 (i+1) (acc++[effOf (rd tm) objs o ob]) l ⟨tm',objs',dl⟩ G) (_:boolOp o.op=false:=by rfl) (hg:guardA ops (rd tm) o=some true:=by rfl) (hv:evAny Et H0 frz (rd tm) objs o=some (v',ob,fl):=by rfl) (hf:fl=true:=by rfl)
  (he:v'=v:=by first|(conv=>lhs;dsimp only)|rfl) (ho:ob.getD objs=objs':=by first|(conv=>lhs;dsimp only [Option.getD])|rfl) (hp:isPan v=false:=by rfl) (ht:setD nt tm o.dst v=some tm':=by rfl) :
  EvD Tryz.prog Et frz nt ops s0 i acc (o :: l) ⟨tm,objs,dl⟩ G:=EvD.x hg hv hf he ho hp ht k
theorem oBw (_:Fz frz) (k1:b=true→RunOps Tryz.prog nt m ro' ops l ⟨tm1,objs',dl⟩ K) (k0:b=false→RunOps Tryz.prog nt m ro' ops l ⟨tm0,objs',dl⟩ K) (hb:boolOp o.op=true:=by rfl) (hg:guardA ops (rd tm) o=some true:=by rfl)
  (hv:evAny Et H0 frz (rd tm) objs o=some (.d (.bool b),ob,fl):=by rfl) (hf:fl=true:=by rfl) (ho:ob.getD objs=objs':=by first|(conv=>lhs;dsimp only [Option.getD])|rfl) (ht1:setD nt tm o.dst (.d (.bool true))=some tm1:=by rfl) (ht0:setD nt tm o.dst (.d (.bool false))=some tm0:=by rfl) :
  RunOps Tryz.prog nt m ro' ops (o :: l) ⟨tm,objs,dl⟩ K:=RunOps.xb Yo hb hg hv hf ho ht1 ht0 k1 k0
theorem dW (_:Fz frz) {id:Nat} (h:EvD Tryz.prog Et frz nt ops s 0 [] ops.toList s (fun s'=>K .normal s')):Run Tryz.prog nt m ro' (.region id ops true) s K:=Yd Yo (by kernel_rfl) h
theorem zX (f:List Nat) (q:Q) (h:Fz f→Q→P:=by intro w q;first|exact oXw w q|exact eX q):P:=h trivial q
theorem zW (f:List Nat) (q:Q) (h:Fz f→Q→P:=by intro w q;first|exact Yg q|exact Yq q|exact oXn w q|exact oS q|exact Yn q|exact Yk q|exact cT q|exact cF q|exact Yb q|exact Ye q|exact dW w q|exact eXn q|exact eS q|exact eN q):P:=h trivial q
theorem zR (f:List Nat) (q:Q) (h:Fz f→Q→P:=by intro w q;first|exact Yg q|exact Run.seqR q|exact oXw w q|exact oS q|exact Yn q|exact dW w q|exact eX q|exact eS q|exact eN q):P:=h trivial q
theorem zRn (f:List Nat) (q:Q) (h:Fz f→Q→P:=by intro w q;first|exact Yg q|exact Run.seqR q|exact oXw w q|exact oS q|exact Yn q|exact eX q|exact eS q|exact eN q):P:=h trivial q
theorem zN (f:List Nat) (q:Q) (h:Fz f→Q→P:=by intro w q;first|exact Yg q|exact Yq q|exact oXn w q|exact oS q|exact Yn q|exact Yk q|exact cT q|exact cF q|exact Yb q|exact Ye q|exact eXn q|exact eS q|exact eN q):P:=h trivial q
theorem zG (f:List Nat) (q:Q) (h:Fz f→Q→P:=by intro w q;first|exact Yg q|exact Yq q|exact Yn q|exact Yk q|exact cT q|exact cF q|exact Yb q|exact Ye q|exact eN q|exact dW w q):P:=h trivial q
theorem zS (q:Q) (h:Q→P:=by intro q;first|exact Yq q|exact Yg q|exact Yn q|exact Yk q|exact cT q|exact cF q|exact Yb q|exact Ye q):P:=h q
theorem zA (f:List Nat) (q:Q) (h:Fz f→Q→P:=by intro w q;first|exact oXw w q|exact oS q|exact Yn q|exact Yg q|exact Yq q|exact Yk q|exact Yb q|exact Ye q|exact dW w q|exact eX q|exact eS q|exact eN q):P:=h trivial q
theorem zB (f:List Nat) (x:A→X) (y:B→Y) (h:Fz f→(A→X)→(B→Y)→P:=by intro w x y;first|exact oBw w x y|exact eB x y):P:=h trivial x y
theorem zk (a:A) (h:A→P:=by intro h;exfalso;simp at h;first|done|omega):P:=h a
theorem zC (c:KnownCall Tryz.prog g ds r) (q:Q) (h:KnownCall Tryz.prog g ds r→Q→P:=by intro c q;first|exact oC c q|exact eC c q):P:=h c q
theorem zK (c:KnownCall Tryz.prog g ds (.d (.bool b))) (x:A→X) (y:B→Y) (h:KnownCall Tryz.prog g ds (.d (.bool b))→(A→X)→(B→Y)→P:=by intro c x y;first|exact oK c x y|exact eK c x y):P:=h c x y
theorem zL (c:KnownCall Tryz.prog g ds r) (q:Q) (h:KnownCall Tryz.prog g ds r→Q→P:=by intro c q;first|exact oL c q|exact eL c q):P:=h c q
theorem zM (c:KnownCall Tryz.prog g ds r) (q:Q) (h:KnownCall Tryz.prog g ds r→Q→P:=by intro c q;first|exact oL c q|exact eL c q|exact oM c q|exact eM c q):P:=h c q
theorem zLb (c:KnownCall Tryz.prog g ds (.d (.bool b))) (x:A→X) (y:B→Y) (h:KnownCall Tryz.prog g ds (.d (.bool b))→(A→X)→(B→Y)→P:=by intro c x y;first|exact oLb c x y|exact eLb c x y):P:=h c x y
theorem zE (q:Q) (h:Q→P:=by intro q;refine Yt ?_;first|exact rB q|exact rI q|exact rA q|exact rII q|exact rSI q|exact rT q|exact rS q):P:=h q
end
end Go.Av
end
noncomputable section
namespace Go.Av
open Go Go.Proofs
set_option maxRecDepth 10000
abbrev strs (l:List (List Nat)):DV:=.sl 1 (l.map .str)
abbrev ints (l:List Int):DV:=.sl 1 (l.map (.int .i64))
theorem get_ok {α:Type} {l:List α} {i:Nat} (h:i<l.length):∃ x,l[i]?=some x:=⟨l[i],by simp [h]⟩
end Go.Av
end
noncomputable section
namespace Go.Av
open Go Go.Proofs
set_option maxRecDepth 10000
structure GProd where
 left:Int
 right:List Int
structure Gram where
 k:Int
 tokens:List (List Nat)
 sep:List Nat
 names:List (List Nat)
 start:Int
 prods:List GProd
structure Fits (g:Gram):Prop where
 tokens:g.tokens.length≤1048576
 names:g.names.length≤1048576
 prods:g.prods.length≤1048576
 sep:g.sep.length≤1048576
 tokenS:∀ s ∈ g.tokens,s.length≤1048576
 nameS:∀ s ∈ g.names,s.length≤1048576
 rights:∀ p ∈ g.prods,p.right.length≤1048576
end Go.Av
end
noncomputable section
namespace Go.Av
open Go Go.Proofs
set_option maxRecDepth 10000
end Go.Av
end
noncomputable section
namespace Go.Av
open Go Go.Proofs
set_option maxRecDepth 10000
theorem wrap64 {n:Int} (h1:-9223372036854775808≤n) (h2:n≤9223372036854775807):IntKind.i64.wrap n=n:=IntWalk.i64_in n ⟨h1,h2⟩
end Go.Av
end
noncomputable section
namespace Go.Av
open Go Go.Proofs
set_option maxRecDepth 10000
def letterF (c:Int):Bool:=(decide (97≤c) && decide (c≤122)) || (decide (65≤c) && decide (c≤90))
def digitF (c:Int):Bool:=decide (48≤c) && decide (c≤57)
def badAt (s:List Nat) (i:Nat):Prop:=∃ c:Nat,s[i]?=some c∧letterF c=false∧(i=0∨(digitF c=false∧(c:Int)≠95))
open Classical in
def wordF (s:List Nat):Int:=if s=[] then 5 else if ∃ i,badAt s i then 3 else if 12<s.length then 4 else 0
def wLook:List Nat:=[108,111,111,107,97,104,101,97,100]
def wToken:List Nat:=[116,111,107,101,110]
def wSep:List Nat:=[115,101,112,97,114,97,116,111,114]
def wStart:List Nat:=[115,116,97,114,116]
def languageF (s:List Nat):Bool:=decide (s=wLook∨s=wToken∨s=wSep∨s=wStart)
def nameF (s:List Nat):Int:=if wordF s=0∧languageF s=true then 12 else wordF s
theorem refLetter (c:Int):KnownCall Tryz.prog 266 [.int .u8 c] (.d (.bool (letterF c))):=by
 refine knownE Yo (fnAt Tryz.func266 (by kernel_rfl) (by kernel_rfl):FnAt _ _ (mkFn Tryz.f266 [])) ?_
 repeat' (first|refine zW [] ?_|((refine zB [] (fun h=>?_) (fun h=>?_))<;>(first|exact zk h|skip))|refine zX [] ?_|(refine zE ?_;(first|(simp_all [letterF];done)|(simp_all [letterF];omega)))|fail)
theorem letter (c:Int):KnownCall Tryz.prog 260 [.int .i32 c] (.d (.bool (letterF c))):=by
 refine knownE Yo (fnAt Tryz.func260 (by kernel_rfl) (by kernel_rfl):FnAt _ _ (mkFn Tryz.f260 [])) ?_
 repeat' (first|refine zW [] ?_|((refine zB [] (fun h=>?_) (fun h=>?_))<;>(first|exact zk h|skip))|refine zX [] ?_|(refine zE ?_;(first|(simp_all [letterF];done)|(simp_all [letterF];omega)))|fail)
theorem refDigit (c:Int):KnownCall Tryz.prog 267 [.int .u8 c] (.d (.bool (digitF c))):=by
 refine knownE Yo (fnAt Tryz.func267 (by kernel_rfl) (by kernel_rfl):FnAt _ _ (mkFn Tryz.f267 [])) ?_
 repeat' (first|refine zW [] ?_|((refine zB [] (fun h=>?_) (fun h=>?_))<;>(first|exact zk h|skip))|refine zX [] ?_|(refine zE ?_;(first|(simp_all [digitF];done)|(simp_all [digitF];omega)))|fail)
theorem digit (c:Int):KnownCall Tryz.prog 261 [.int .i32 c] (.d (.bool (digitF c))):=by
 refine knownE Yo (fnAt Tryz.func261 (by kernel_rfl) (by kernel_rfl):FnAt _ _ (mkFn Tryz.f261 [])) ?_
 repeat' (first|refine zW [] ?_|((refine zB [] (fun h=>?_) (fun h=>?_))<;>(first|exact zk h|skip))|refine zX [] ?_|(refine zE ?_;(first|(simp_all [digitF];done)|(simp_all [digitF];omega)))|fail)
theorem refLanguage (s:List Nat):KnownCall Tryz.prog 250 [.str s] (.d (.bool (languageF s))):=by
 refine knownE Yo (fnAt Tryz.func250 (by kernel_rfl) (by kernel_rfl):FnAt _ _ (mkFn Tryz.f250 [])) ?_
 repeat' (first|refine zW [] ?_|((refine zB [] (fun h=>?_) (fun h=>?_))<;>(first|exact zk h|skip))|refine zX [] ?_|(refine zE ?_;(first|(simp_all [languageF,wLook,wToken,wSep,wStart];done)))|fail)
theorem wordF_bad {s:List Nat} (hs:s≠[]) {i:Nat} (h:badAt s i):wordF s=3:=by
 unfold wordF
 rw [if_neg hs,if_pos ⟨i,h⟩]
theorem wordF_good {s:List Nat} (hs:s≠[]) (h:∀ i,¬ badAt s i):wordF s=if 12<s.length then 4 else 0:=by
 unfold wordF
 rw [if_neg hs,if_neg (fun⟨i,hi⟩=>h i hi)]
theorem refWord (s:List Nat) (hl:s.length≤1099511627776):KnownCall Tryz.prog 249 [.str s] (.d (.int .i64 (wordF s))):=by
 refine knownE Yo (fnAt Tryz.func249 (by kernel_rfl) (by kernel_rfl):FnAt _ _ (mkFn Tryz.f249 [])) ?_
 repeat' (first|refine zW [] ?_|((refine zB [] (fun h=>?_) (fun h=>?_))<;>(first|exact zk h|skip))|refine zX [] ?_|(refine zE ?_;(simp_all [wordF]))|fail)
 have hs:s≠[]:=by simpa using h
 refine Run.loop (fun i:Nat=>⟨PT.ofList [(0,.d (.str s)),(3,.d (.int .i64 i))],[],[]⟩) (fun i=>i≤s.length∧∀ j,j<i→¬ badAt s j) (fun i=>s.length-i) 0 ⟨Nat.zero_le _,fun j hj=>by omega⟩ (weak_of ⟨rfl,rfl,trivial⟩) (fun i hi=>?_)
 obtain⟨hi1,hi2⟩:=hi
 rcases Nat.lt_or_ge i s.length with hlt|hge
 ·obtain⟨c,hc⟩:=get_ok hlt
  have hbad:badAt s i ↔ letterF c=false∧(i=0∨(digitF c=false∧(c:Int)≠95)):=⟨fun⟨c',h1,h2⟩=>by rw [hc] at h1;cases h1;exact h2,fun h=>⟨c,hc,h⟩⟩
  repeat' (first|refine zW [] ?_|((refine zB [] (fun h=>?_) (fun h=>?_))<;>(first|exact zk h|skip))|refine zX [] ?_|refine oX (frz:=[]) (v:=.d (.int .u8 c)) Yo ?_ (hf:=(by first|(simp [inB]<;>fail)|(simp [inB];omega))) (he:=(by first|(simp [List.getD_eq_getElem?_getD,cellsD,hc]<;>fail)|fail))|refine eX (v:=.d (.int .u8 c)) ?_ (hf:=(by first|(simp [inB]<;>fail)|(simp [inB];omega))) (he:=(by first|(simp [List.getD_eq_getElem?_getD,cellsD,hc]<;>fail)|fail))|((refine zK (refLetter _) (fun h=>?_) (fun h=>?_))<;>(first|exact zk h|skip))|refine zC (refLetter _) ?_|((refine zK (refDigit _) (fun h=>?_) (fun h=>?_))<;>(first|exact zk h|skip))|refine zC (refDigit _) ?_|(refine zE ?_;(rw [wordF_bad hs (i:=i) (hbad.2 (by simp_all))]))|(exact⟨i+1,⟨by omega,fun j hj=>by rcases Nat.lt_succ_iff_lt_or_eq.1 hj with h|h;exact hi2 j h;subst h;rw [hbad];simp_all⟩,by omega,weak_of ⟨(by kernel_rfl),(inc_get (k:=i) (by kernel_rfl) (by omega)),trivial⟩⟩)|fail)
 ·have hge:i=s.length:=by omega
  have hall:∀ j,¬ badAt s j:=fun j hj=>by
   by_cases hlt:j<i
   ·exact hi2 j hlt hj
   ·obtain⟨c,h1,_⟩:=hj
    rw [List.getElem?_eq_none (by omega)] at h1;cases h1
  repeat' (first|refine zW [] ?_|((refine zB [] (fun h=>?_) (fun h=>?_))<;>(first|exact zk h|skip))|refine zX [] ?_|(refine zE ?_;(rw [wordF_good hs hall];first|(simp_all []<;>fail)|(simp_all [];omega)))|fail)
theorem word (s:List Nat) (hl:s.length≤1099511627776):KnownCall Tryz.prog 238 [.str s] (.d (.int .i64 (wordF s))):=by
 refine knownE Yo (fnAt Tryz.func238 (by kernel_rfl) (by kernel_rfl):FnAt _ _ (mkFn Tryz.f238 [])) ?_
 repeat' (first|refine zW [] ?_|((refine zB [] (fun h=>?_) (fun h=>?_))<;>(first|exact zk h|skip))|refine zX [] ?_|(refine zE ?_;(simp_all [wordF]))|fail)
 have hs:s≠[]:=by simpa using h
 refine Run.loop (fun i:Nat=>⟨PT.ofList [(0,.d (.str s)),(8,.bp 0 0)],[.sit s i],[]⟩) (fun i=>i≤s.length∧∀ j,j<i→¬ badAt s j) (fun i=>s.length-i) 0 ⟨Nat.zero_le _,fun j hj=>by omega⟩ (weak_of ⟨rfl,rfl,trivial⟩) (fun i hi=>?_)
 obtain⟨hi1,hi2⟩:=hi
 rcases Nat.lt_or_ge i s.length with hlt|hge
 ·obtain⟨c,hc⟩:=get_ok hlt
  have hbad:badAt s i ↔ letterF c=false∧(i=0∨(digitF c=false∧(c:Int)≠95)):=⟨fun⟨c',h1,h2⟩=>by rw [hc] at h1;cases h1;exact h2,fun h=>⟨c,hc,h⟩⟩
  rcases Nat.lt_or_ge c 128 with h8|h8
  ·have hd:=decL_ascii hc h8
   repeat' (first|refine zW [] ?_|((refine zB [] (fun h=>?_) (fun h=>?_))<;>(first|exact zk h|skip))|refine zX [] ?_|refine RunOps.next Yo (by rfl) (by rfl) (by rfl) hlt hd (by rfl) (by rfl) (by rfl) ?_|((refine zK (letter _) (fun h=>?_) (fun h=>?_))<;>(first|exact zk h|skip))|refine zC (letter _) ?_|((refine zK (digit _) (fun h=>?_) (fun h=>?_))<;>(first|exact zk h|skip))|refine zC (digit _) ?_|(refine zE ?_;(rw [wordF_bad hs (i:=i) (hbad.2 (by simp_all))]))|(exact⟨i+1,⟨by omega,fun j hj=>by rcases Nat.lt_succ_iff_lt_or_eq.1 hj with h|h;exact hi2 j h;subst h;rw [hbad];simp_all⟩,by omega,weak_of' (by rfl) rfl ⟨(by kernel_rfl),(by kernel_rfl),trivial⟩⟩)|fail)
  ·have hd:=decL_high hc h8
   obtain⟨r,n,hrn⟩:∃ r n,decL s i=(r,n):=⟨_,_,rfl⟩
   rw [hrn] at hd
   have hb:badAt s i:=hbad.2 ⟨by simp [letterF];omega,.inr ⟨by simp [digitF];omega,by omega⟩⟩
   have hr1:letterF r=false:=by simp [letterF];simp at hd;omega
   have hr2:digitF r=false:=by simp [digitF];simp at hd;omega
   have hr3:(r:Int)≠95:=by simp at hd;omega
   repeat' (first|refine zW [] ?_|((refine zB [] (fun h=>?_) (fun h=>?_))<;>(first|exact zk h|skip))|refine zX [] ?_|refine RunOps.next Yo (by rfl) (by rfl) (by rfl) hlt hrn (by rfl) (by rfl) (by rfl) ?_|((refine zK (letter _) (fun h=>?_) (fun h=>?_))<;>(first|exact zk h|skip))|refine zC (letter _) ?_|((refine zK (digit _) (fun h=>?_) (fun h=>?_))<;>(first|exact zk h|skip))|refine zC (digit _) ?_|(refine zE ?_;(rw [wordF_bad hs (i:=i) hb]))|(exfalso;simp_all)|fail)
 ·have hge:i=s.length:=by omega
  have hall:∀ j,¬ badAt s j:=fun j hj=>by
   by_cases hlt:j<i
   ·exact hi2 j hlt hj
   ·obtain⟨c,h1,_⟩:=hj
    rw [List.getElem?_eq_none (by omega)] at h1;cases h1
  repeat' (first|refine zW [] ?_|((refine zB [] (fun h=>?_) (fun h=>?_))<;>(first|exact zk h|skip))|refine zX [] ?_|refine RunOps.nextEnd Yo (by rfl) (by rfl) (by rfl) (Nat.le_of_eq hge.symm) (by rfl) (by rfl) ?_|(refine zE ?_;(rw [wordF_good hs hall];first|(simp_all []<;>fail)|(simp_all [];omega)))|fail)
theorem refCheck03 (s:List Nat) (hl:s.length≤1099511627776):KnownCall Tryz.prog 224 [.str s] (.d (.int .i64 (nameF s))):=by
 refine knownE Yo (fnAt Tryz.func224 (by kernel_rfl) (by kernel_rfl):FnAt _ _ (mkFn Tryz.f224 [])) ?_
 repeat' (first|refine zW [] ?_|((refine zB [] (fun h=>?_) (fun h=>?_))<;>(first|exact zk h|skip))|refine zX [] ?_|((refine zK (refWord _ hl) (fun h=>?_) (fun h=>?_))<;>(first|exact zk h|skip))|refine zC (refWord _ hl) ?_|((refine zK (refLanguage _) (fun h=>?_) (fun h=>?_))<;>(first|exact zk h|skip))|refine zC (refLanguage _) ?_|(refine zE ?_;(first|(simp_all [nameF]<;>fail)|(simp_all [nameF];omega)))|fail)
end Go.Av
end
noncomputable section
namespace Go.Av
open Go Go.Proofs
set_option maxRecDepth 10000
theorem all_succ {p:Nat→Prop} {i:Nat} (h:∀ j,j<i→p j) (h':p i):∀ j,j<i+1→p j:=fun j hj=>by
 rcases Nat.lt_succ_iff_lt_or_eq.1 hj with h1|h1
 ·exact h j h1
 ·exact h1 ▸ h'
def findF (l:List (List Nat)) (s:List Nat):Int:=if s ∈ l then(l.idxOf s:Nat) else -1
theorem findF_at {l:List (List Nat)} {s:List Nat} {i:Nat} (h:l[i]?=some s) (hb:∀ j,j<i→l[j]?≠some s):findF l s=i:=by
 have hm:s ∈ l:=List.mem_of_getElem? h
 have hi:i<l.length:=(List.getElem?_eq_some_iff.1 h).1
 have h1:l.idxOf s<l.length:=List.idxOf_lt_length_iff.2 hm
 have h2:l[l.idxOf s]?=some s:=by rw [List.getElem?_eq_getElem h1,List.getElem_idxOf h1]
 have h3:¬ l.idxOf s<i:=fun hlt=>hb _ hlt h2
 have h4:¬ i<l.idxOf s:=fun hlt=>by
  have:=List.not_of_lt_findIdx hlt
  have e:l[i]=s:=(List.getElem?_eq_some_iff.1 h).2
  simp [e] at this
 rw [findF,if_pos hm];omega
theorem findF_none {l:List (List Nat)} {s:List Nat} (hb:∀ j,j<l.length→l[j]?≠some s):findF l s=-1:=by
 rw [findF,if_neg]
 intro hm
 obtain⟨i,hi,e⟩:=List.getElem_of_mem hm
 exact hb i hi (by rw [List.getElem?_eq_getElem hi,e])
theorem index (l:List (List Nat)) (s:List Nat) (hl:l.length≤1099511627776):KnownCall Tryz.prog 165 [strs l,.str s] (.d (.int .i64 (findF l s))):=by
 refine knownE Yo (fnAt Tryz.func165 (by kernel_rfl) (by kernel_rfl):FnAt _ _ (mkFn Tryz.f165 [])) ?_
 repeat' (first|refine zW [] ?_|((refine zB [] (fun h=>?_) (fun h=>?_))<;>(first|exact zk h|skip))|refine zX [] ?_|(refine zE ?_;(skip))|fail)
 refine Run.loop (fun i:Nat=>⟨PT.ofList [(7,.d (.int .i64 ((l.map DV.str).length:Nat))),(0,.d (strs l)),(1,.d (.str s)),(8,.d (.int .i64 i))],[],[]⟩) (fun i=>i≤l.length∧∀ j,j<i→l[j]?≠some s) (fun i=>l.length-i) 0 ⟨Nat.zero_le _,fun j hj=>by omega⟩ (weak_of (by repeat' (first|exact trivial|refine⟨rfl,?_⟩))) (fun i hi=>?_)
 obtain⟨hi1,hi2⟩:=hi
 rcases Nat.lt_or_ge i l.length with hlt|hge
 ·obtain⟨x,hx⟩:=get_ok hlt
  repeat' (first|refine zW [] ?_|((refine zB [] (fun h=>?_) (fun h=>?_))<;>(first|exact zk h|skip))|refine zX [] ?_|refine oX (frz:=[]) (v:=.d (.ep [.str x])) Yo ?_ (hf:=(by first|(simp [inB]<;>fail)|(simp [inB];omega))) (he:=(by first|(simp [List.getD_eq_getElem?_getD,cellsD,hx]<;>fail)|fail))|refine eX (v:=.d (.ep [.str x])) ?_ (hf:=(by first|(simp [inB]<;>fail)|(simp [inB];omega))) (he:=(by first|(simp [List.getD_eq_getElem?_getD,cellsD,hx]<;>fail)|fail))|(refine zE ?_;(rw [findF_at (i:=i) (by simp_all) hi2]))|(exact⟨i+1,⟨by omega,all_succ hi2 (by rw [hx];intro e;simp_all)⟩,by omega,weak_of (by repeat' (first|exact trivial|refine⟨rfl,?_⟩|refine⟨(inc_get (k:=i) (by kernel_rfl) (by omega)),?_⟩))⟩)|fail)
 ·have hge:i=l.length:=by omega
  repeat' (first|refine zW [] ?_|((refine zB [] (fun h=>?_) (fun h=>?_))<;>(first|exact zk h|skip))|refine zX [] ?_|(refine zE ?_;(rw [findF_none (fun j hj=>hi2 j (by omega))]))|fail)
theorem contains (l:List (List Nat)) (s:List Nat) (hl:l.length≤1099511627776):KnownCall Tryz.prog 125 [strs l,.str s] (.d (.bool (decide (s ∈ l)))):=by
 refine knownE Yo (fnAt Tryz.func125 (by kernel_rfl) (by kernel_rfl):FnAt _ _ (mkFn Tryz.f125 [])) ?_
 repeat' (first|refine zW [] ?_|((refine zB [] (fun h=>?_) (fun h=>?_))<;>(first|exact zk h|skip))|refine zX [] ?_|((refine zK (index _ _ hl) (fun h=>?_) (fun h=>?_))<;>(first|exact zk h|skip))|refine zC (index _ _ hl) ?_|(refine zE ?_;(by_cases hm:s ∈ l<;>(first|(simp_all [findF]<;>fail)|(simp_all [findF];omega))))|fail)
end Go.Av
end
noncomputable section
namespace Go.Av
open Go Go.Proofs
set_option maxRecDepth 10000
abbrev wordsA:List AV:=[.d (.str wLook),.d (.str wToken),.d (.str wSep),.d (.str wStart)]
theorem indexW (s:List Nat):ACall Tryz.prog 165 [.bs 0 0 4 4,.d (.str s)] [.box wordsA] (.d (.int .i64 (findF [wLook,wToken,wSep,wStart] s))) [.box wordsA]:=by
 refine acall_of_run Yo (fnAt Tryz.func165 (by kernel_rfl) (by kernel_rfl):FnAt _ _ (mkFn Tryz.f165 [])) rfl rfl ?_
 repeat' (first|refine zW [] ?_|((refine zB [] (fun h=>?_) (fun h=>?_))<;>(first|exact zk h|skip))|refine zX [] ?_|(refine zE ?_;(skip))|fail)
 refine Run.loop (fun i:Nat=>⟨PT.ofList [(0,.bs 0 0 4 4),(1,.d (.str s)),(7,.d (.int .i64 4)),(8,.d (.int .i64 i))],[.box wordsA],[]⟩) (fun i=>i≤4∧∀ j,j<i→[wLook,wToken,wSep,wStart][j]?≠some s) (fun i=>4-i) 0 ⟨Nat.zero_le _,fun j hj=>by omega⟩ (weak_of (by repeat' (first|exact trivial|refine⟨rfl,?_⟩))) (fun i hi=>?_)
 obtain⟨hi1,hi2⟩:=hi
 have hcase:i=0∨i=1∨i=2∨i=3∨i=4:=by omega
 rcases hcase with h|h|h|h|h<;>subst h
 ·repeat' (first|refine zW [] ?_|((refine zB [] (fun h=>?_) (fun h=>?_))<;>(first|exact zk h|skip))|refine zX [] ?_|(refine zE ?_;(skip))|(exact⟨1,⟨by omega,all_succ hi2 (fun e=>by simp at e;subst e;simp at h)⟩,by omega,weak_of (by repeat' (first|exact trivial|refine⟨rfl,?_⟩))⟩)|fail)
  have hs:s=wLook:=by simpa using h
  refine Yt ?_
  refine⟨trivial,rfl,Eq.trans (b:=some (.d (.int .i64 0))) (by rfl) ?_⟩
  rw [findF_at (i:=0) (by rw [hs];rfl) hi2];rfl
 ·repeat' (first|refine zW [] ?_|((refine zB [] (fun h=>?_) (fun h=>?_))<;>(first|exact zk h|skip))|refine zX [] ?_|(refine zE ?_;(skip))|(exact⟨2,⟨by omega,all_succ hi2 (fun e=>by simp at e;subst e;simp at h)⟩,by omega,weak_of (by repeat' (first|exact trivial|refine⟨rfl,?_⟩))⟩)|fail)
  have hs:s=wToken:=by simpa using h
  refine Yt ?_
  refine⟨trivial,rfl,Eq.trans (b:=some (.d (.int .i64 1))) (by rfl) ?_⟩
  rw [findF_at (i:=1) (by rw [hs];rfl) hi2];rfl
 ·repeat' (first|refine zW [] ?_|((refine zB [] (fun h=>?_) (fun h=>?_))<;>(first|exact zk h|skip))|refine zX [] ?_|(refine zE ?_;(skip))|(exact⟨3,⟨by omega,all_succ hi2 (fun e=>by simp at e;subst e;simp at h)⟩,by omega,weak_of (by repeat' (first|exact trivial|refine⟨rfl,?_⟩))⟩)|fail)
  have hs:s=wSep:=by simpa using h
  refine Yt ?_
  refine⟨trivial,rfl,Eq.trans (b:=some (.d (.int .i64 2))) (by rfl) ?_⟩
  rw [findF_at (i:=2) (by rw [hs];rfl) hi2];rfl
 ·repeat' (first|refine zW [] ?_|((refine zB [] (fun h=>?_) (fun h=>?_))<;>(first|exact zk h|skip))|refine zX [] ?_|(refine zE ?_;(skip))|(exact⟨4,⟨by omega,all_succ hi2 (fun e=>by simp at e;subst e;simp at h)⟩,by omega,weak_of (by repeat' (first|exact trivial|refine⟨rfl,?_⟩))⟩)|fail)
  have hs:s=wStart:=by simpa using h
  refine Yt ?_
  refine⟨trivial,rfl,Eq.trans (b:=some (.d (.int .i64 3))) (by rfl) ?_⟩
  rw [findF_at (i:=3) (by rw [hs];rfl) hi2];rfl
 ·repeat' (first|refine zW [] ?_|((refine zB [] (fun h=>?_) (fun h=>?_))<;>(first|exact zk h|skip))|refine zX [] ?_|(refine zE ?_;(skip))|fail)
  refine Yt ?_
  refine⟨trivial,rfl,Eq.trans (b:=some (.d (.int .i64 (-1)))) (by rfl) ?_⟩
  rw [findF_none (l:=[wLook,wToken,wSep,wStart]) hi2]
theorem containsW (s:List Nat):ACall Tryz.prog 125 [.bs 0 0 4 4,.d (.str s)] [.box wordsA] (.d (.bool (languageF s))) [.box wordsA]:=by
 refine acall_of_run Yo (fnAt Tryz.func125 (by kernel_rfl) (by kernel_rfl):FnAt _ _ (mkFn Tryz.f125 [])) rfl rfl ?_
 repeat refine zA [] ?_
 refine RunOps.call (by rfl) (by rfl) (indexW s) (by rfl) (by rfl) ?_
 repeat refine zA [] ?_
 refine Yt ?_
 refine⟨trivial,rfl,Eq.trans (b:=some (.d (.bool (decide (0≤findF [wLook,wToken,wSep,wStart] s))))) (by kernel_rfl) ?_⟩
 by_cases hm:s ∈ [wLook,wToken,wSep,wStart]
 ·simp only [findF,if_pos hm];simp_all [languageF]
 ·simp only [findF,if_neg hm];simp_all [languageF]
theorem language (s:List Nat):KnownCall Tryz.prog 239 [.str s] (.d (.bool (languageF s))):=by
 refine knownE Yo (fnAt Tryz.func239 (by kernel_rfl) (by kernel_rfl):FnAt _ _ (mkFn Tryz.f239 [])) ?_
 repeat refine zA [] ?_
 refine RunOps.call (by rfl) (by rfl) (containsW s) (by rfl) (by rfl) ?_
 repeat' (first|refine zW [] ?_|((refine zB [] (fun h=>?_) (fun h=>?_))<;>(first|exact zk h|skip))|refine zX [] ?_|(refine zE ?_;(rfl))|fail)
theorem check03 (s:List Nat) (hl:s.length≤1099511627776):KnownCall Tryz.prog 204 [.str s] (.d (.int .i64 (nameF s))):=by
 refine knownE Yo (fnAt Tryz.func204 (by kernel_rfl) (by kernel_rfl):FnAt _ _ (mkFn Tryz.f204 [])) ?_
 repeat' (first|refine zW [] ?_|((refine zB [] (fun h=>?_) (fun h=>?_))<;>(first|exact zk h|skip))|refine zX [] ?_|((refine zK (word _ hl) (fun h=>?_) (fun h=>?_))<;>(first|exact zk h|skip))|refine zC (word _ hl) ?_|((refine zK (language _) (fun h=>?_) (fun h=>?_))<;>(first|exact zk h|skip))|refine zC (language _) ?_|(refine zE ?_;(first|(simp_all [nameF]<;>fail)|(simp_all [nameF];omega)))|fail)
def smallF (s:List Nat):Bool:=decide (nameF s=0) && decide (97≤s.getD 0 0)
def capitalF (s:List Nat):Bool:=decide (nameF s=0) && decide (s.getD 0 0<97)
theorem name_first {s:List Nat} (h:nameF s=0):∃ c:Nat,s[0]?=some c∧letterF c=true:=by
 have hw:wordF s=0:=by
  unfold nameF at h
  split at h
  ·omega
  ·exact h
 have hs:s≠[]:=fun e=>by simp [wordF,e] at hw
 obtain⟨c,hc⟩:=get_ok (l:=s) (i:=0) (List.length_pos_iff.2 hs)
 refine⟨c,hc,?_⟩
 cases hl:letterF c with
 |true=>rfl
 |false=>rw [wordF_bad hs ⟨c,hc,hl,.inl rfl⟩] at hw;omega
theorem letter_range {c:Nat} (h:letterF c=true):(97≤c∧c≤122)∨(65≤c∧c≤90):=by simp [letterF] at h;omega
theorem refSmall (s:List Nat) (hl:s.length≤1099511627776):KnownCall Tryz.prog 172 [.str s] (.d (.bool (smallF s))):=by
 refine knownE Yo (fnAt Tryz.func172 (by kernel_rfl) (by kernel_rfl):FnAt _ _ (mkFn Tryz.f172 [])) ?_
 by_cases h0:nameF s=0
 ·obtain⟨c,hc,hlet⟩:=name_first h0
  have hr:=letter_range hlet
  have hlt:0<s.length:=(List.getElem?_eq_some_iff.1 hc).1
  have hg:s.getD 0 0=c:=by simp [List.getD_eq_getElem?_getD,hc]
  repeat' (first|refine zW [] ?_|((refine zB [] (fun h=>?_) (fun h=>?_))<;>(first|exact zk h|skip))|refine zX [] ?_|((refine zK (refCheck03 _ hl) (fun h=>?_) (fun h=>?_))<;>(first|exact zk h|skip))|refine zC (refCheck03 _ hl) ?_|refine oX (frz:=[]) (v:=.d (.int .u8 c)) Yo ?_ (hf:=(by first|(simp [inB]<;>fail)|(simp [inB];omega))) (he:=(by first|(simp [List.getD_eq_getElem?_getD,cellsD,hc]<;>fail)|fail))|refine eX (v:=.d (.int .u8 c)) ?_ (hf:=(by first|(simp [inB]<;>fail)|(simp [inB];omega))) (he:=(by first|(simp [List.getD_eq_getElem?_getD,cellsD,hc]<;>fail)|fail))|(refine zE ?_;(first|(simp_all [smallF]<;>fail)|(simp_all [smallF];omega)))|fail)
 ·repeat' (first|refine zW [] ?_|((refine zB [] (fun h=>?_) (fun h=>?_))<;>(first|exact zk h|skip))|refine zX [] ?_|((refine zK (refCheck03 _ hl) (fun h=>?_) (fun h=>?_))<;>(first|exact zk h|skip))|refine zC (refCheck03 _ hl) ?_|(refine zE ?_;(first|(simp_all [smallF]<;>fail)|(simp_all [smallF];omega)))|fail)
theorem small (s:List Nat) (hl:s.length≤1099511627776):KnownCall Tryz.prog 121 [.str s] (.d (.bool (smallF s))):=by
 refine knownE Yo (fnAt Tryz.func121 (by kernel_rfl) (by kernel_rfl):FnAt _ _ (mkFn Tryz.f121 [])) ?_
 by_cases h0:nameF s=0
 ·obtain⟨c,hc,hlet⟩:=name_first h0
  have hr:=letter_range hlet
  have hlt:0<s.length:=(List.getElem?_eq_some_iff.1 hc).1
  have hg:s.getD 0 0=c:=by simp [List.getD_eq_getElem?_getD,hc]
  repeat' (first|refine zW [] ?_|((refine zB [] (fun h=>?_) (fun h=>?_))<;>(first|exact zk h|skip))|refine zX [] ?_|((refine zK (check03 _ hl) (fun h=>?_) (fun h=>?_))<;>(first|exact zk h|skip))|refine zC (check03 _ hl) ?_|refine oX (frz:=[]) (v:=.d (.int .u8 c)) Yo ?_ (hf:=(by first|(simp [inB]<;>fail)|(simp [inB];omega))) (he:=(by first|(simp [List.getD_eq_getElem?_getD,cellsD,hc]<;>fail)|fail))|refine eX (v:=.d (.int .u8 c)) ?_ (hf:=(by first|(simp [inB]<;>fail)|(simp [inB];omega))) (he:=(by first|(simp [List.getD_eq_getElem?_getD,cellsD,hc]<;>fail)|fail))|(refine zE ?_;(first|(simp_all [smallF]<;>fail)|(simp_all [smallF];omega)))|fail)
 ·repeat' (first|refine zW [] ?_|((refine zB [] (fun h=>?_) (fun h=>?_))<;>(first|exact zk h|skip))|refine zX [] ?_|((refine zK (check03 _ hl) (fun h=>?_) (fun h=>?_))<;>(first|exact zk h|skip))|refine zC (check03 _ hl) ?_|(refine zE ?_;(first|(simp_all [smallF]<;>fail)|(simp_all [smallF];omega)))|fail)
theorem refCapital (s:List Nat) (hl:s.length≤1099511627776):KnownCall Tryz.prog 173 [.str s] (.d (.bool (capitalF s))):=by
 refine knownE Yo (fnAt Tryz.func173 (by kernel_rfl) (by kernel_rfl):FnAt _ _ (mkFn Tryz.f173 [])) ?_
 by_cases h0:nameF s=0
 ·obtain⟨c,hc,hlet⟩:=name_first h0
  have hr:=letter_range hlet
  have hlt:0<s.length:=(List.getElem?_eq_some_iff.1 hc).1
  have hg:s.getD 0 0=c:=by simp [List.getD_eq_getElem?_getD,hc]
  repeat' (first|refine zW [] ?_|((refine zB [] (fun h=>?_) (fun h=>?_))<;>(first|exact zk h|skip))|refine zX [] ?_|((refine zK (refCheck03 _ hl) (fun h=>?_) (fun h=>?_))<;>(first|exact zk h|skip))|refine zC (refCheck03 _ hl) ?_|refine oX (frz:=[]) (v:=.d (.int .u8 c)) Yo ?_ (hf:=(by first|(simp [inB]<;>fail)|(simp [inB];omega))) (he:=(by first|(simp [List.getD_eq_getElem?_getD,cellsD,hc]<;>fail)|fail))|refine eX (v:=.d (.int .u8 c)) ?_ (hf:=(by first|(simp [inB]<;>fail)|(simp [inB];omega))) (he:=(by first|(simp [List.getD_eq_getElem?_getD,cellsD,hc]<;>fail)|fail))|(refine zE ?_;(first|(simp_all [capitalF]<;>fail)|(simp_all [capitalF];omega)))|fail)
 ·repeat' (first|refine zW [] ?_|((refine zB [] (fun h=>?_) (fun h=>?_))<;>(first|exact zk h|skip))|refine zX [] ?_|((refine zK (refCheck03 _ hl) (fun h=>?_) (fun h=>?_))<;>(first|exact zk h|skip))|refine zC (refCheck03 _ hl) ?_|(refine zE ?_;(first|(simp_all [capitalF]<;>fail)|(simp_all [capitalF];omega)))|fail)
theorem capital (s:List Nat) (hl:s.length≤1099511627776):KnownCall Tryz.prog 122 [.str s] (.d (.bool (capitalF s))):=by
 refine knownE Yo (fnAt Tryz.func122 (by kernel_rfl) (by kernel_rfl):FnAt _ _ (mkFn Tryz.f122 [])) ?_
 by_cases h0:nameF s=0
 ·obtain⟨c,hc,hlet⟩:=name_first h0
  have hr:=letter_range hlet
  have hlt:0<s.length:=(List.getElem?_eq_some_iff.1 hc).1
  have hg:s.getD 0 0=c:=by simp [List.getD_eq_getElem?_getD,hc]
  repeat' (first|refine zW [] ?_|((refine zB [] (fun h=>?_) (fun h=>?_))<;>(first|exact zk h|skip))|refine zX [] ?_|((refine zK (check03 _ hl) (fun h=>?_) (fun h=>?_))<;>(first|exact zk h|skip))|refine zC (check03 _ hl) ?_|refine oX (frz:=[]) (v:=.d (.int .u8 c)) Yo ?_ (hf:=(by first|(simp [inB]<;>fail)|(simp [inB];omega))) (he:=(by first|(simp [List.getD_eq_getElem?_getD,cellsD,hc]<;>fail)|fail))|refine eX (v:=.d (.int .u8 c)) ?_ (hf:=(by first|(simp [inB]<;>fail)|(simp [inB];omega))) (he:=(by first|(simp [List.getD_eq_getElem?_getD,cellsD,hc]<;>fail)|fail))|(refine zE ?_;(first|(simp_all [capitalF]<;>fail)|(simp_all [capitalF];omega)))|fail)
 ·repeat' (first|refine zW [] ?_|((refine zB [] (fun h=>?_) (fun h=>?_))<;>(first|exact zk h|skip))|refine zX [] ?_|((refine zK (check03 _ hl) (fun h=>?_) (fun h=>?_))<;>(first|exact zk h|skip))|refine zC (check03 _ hl) ?_|(refine zE ?_;(first|(simp_all [capitalF]<;>fail)|(simp_all [capitalF];omega)))|fail)
end Go.Av
end
noncomputable section
namespace Go.Av
open Go Go.Proofs
set_option maxRecDepth 10000
def smalls (g:Gram):List (List Nat):=g.tokens++[g.sep]
end Go.Av
end
noncomputable section
namespace Go.Av
open Go Go.Proofs
set_option maxRecDepth 10000
end Go.Av
end
noncomputable section
namespace Go.Av
open Go Go.Proofs
set_option maxRecDepth 10000
end Go.Av
end
noncomputable section
namespace Go.Av
open Go Go.Proofs
set_option maxRecDepth 10000
theorem Fits.small {g:Gram} (hf:Fits g) {i:Nat} {s:List Nat} (h:(smalls g)[i]?=some s):s.length≤1099511627776:=by
 have:=List.mem_of_getElem? h
 simp only [smalls,List.mem_append,List.mem_singleton] at this
 rcases this with h|rfl
 ·exact Nat.le_trans (hf.tokenS _ h) (by decide)
 ·exact Nat.le_trans hf.sep (by decide)
theorem Fits.name {g:Gram} (hf:Fits g) {i:Nat} {s:List Nat} (h:g.names[i]?=some s):s.length≤1099511627776:=Nat.le_trans (hf.nameS _ (List.mem_of_getElem? h)) (by decide)
end Go.Av
end
noncomputable section
namespace Go.Av
open Go Go.Proofs
set_option maxRecDepth 10000
def rowA (k sz:Nat):List DV→AV
 |[]=>.d .nilsl
 |a :: l=>.sr k sz (a :: l)
def rowO (sz:Nat):List DV→List Ob
 |[]=>[]
 |_ :: l=>[.room (l.length+1) sz]
end Go.Av
end
noncomputable section
namespace Go.Av
open Go Go.Proofs
set_option maxRecDepth 10000
end Go.Av
end
noncomputable section
namespace Go.Av
open Go Go.Proofs
set_option maxRecDepth 10000
def symName (g:Gram) (s:Int):Option (List Nat):=if 16≤s then g.names[(s-16).toNat]? else if 0≤s then g.tokens[s.toNat]? else none
end Go.Av
end
noncomputable section
namespace Go.Av
open Go Go.Proofs
set_option maxRecDepth 10000
def nameS (g:Gram) (s:Int):List Nat:=(symName g s).getD []
end Go.Av
end
noncomputable section
namespace Go.Av
open Go Go.Proofs
set_option maxRecDepth 10000
end Go.Av
end
noncomputable section
namespace Go.Av
open Go Go.Proofs
set_option maxRecDepth 10000
def kvs (l:List (List Nat)):List (DV × DV):=l.map fun s=>(.str s,.bool true)
theorem nodup_take {l:List (List Nat)} {i:Nat} {s:List Nat} (h:l[i]?=some s) (hn:(l.take i).Nodup) (hs:s ∉ l.take i):(l.take (i+1)).Nodup:=by
 rw [List.take_add_one,h,List.nodup_append]
 refine⟨hn,by simp,fun a ha b hb=>?_⟩
 simp at hb
 subst hb
 exact fun e=>hs (e ▸ ha)
theorem nodup_not {l:List (List Nat)} {i:Nat} {s:List Nat} (h:l[i]?=some s) (hs:s ∈ l.take i):¬ l.Nodup:=fun hn=>by
 obtain⟨j,hj,e⟩:=List.getElem_of_mem hs
 have hji:j<i:=by simp at hj;omega
 have hi:=(List.getElem?_eq_some_iff.1 h).1
 refine List.pairwise_iff_getElem.1 hn j i (by omega) hi hji ?_
 rw [(List.getElem?_eq_some_iff.1 h).2]
 simpa using e
end Go.Av
end
noncomputable section
namespace Go.Av
open Go Go.Proofs
set_option maxRecDepth 10000
def idxP {α:Type} (l:List α) (p:α→Bool):Int:=if l.any p then(l.findIdx p:Nat) else -1
theorem idxP_at {α:Type} {l:List α} {p:α→Bool} {i:Nat} {x:α} (h:l[i]?=some x) (hx:p x=true) (hb:∀ j,j<i→∀ y,l[j]?=some y→p y=false):idxP l p=i:=by
 have hm:=List.mem_of_getElem? h
 have ha:l.any p=true:=List.any_eq_true.2 ⟨x,hm,hx⟩
 rw [idxP,if_pos ha]
 have h1:l.findIdx p<l.length:=List.findIdx_lt_length_of_exists ⟨x,hm,hx⟩
 have h2:=List.findIdx_getElem (w:=h1)
 have h3:¬ l.findIdx p<i:=fun hlt=>by
  have:=hb _ hlt _ (List.getElem?_eq_getElem h1)
  rw [this] at h2;cases h2
 have h4:¬ i<l.findIdx p:=fun hlt=>by
  have h5:=List.not_of_lt_findIdx hlt
  rw [(List.getElem?_eq_some_iff.1 h).2] at h5
  simp [hx] at h5
 omega
theorem idxP_none {α:Type} {l:List α} {p:α→Bool} (hb:∀ j,j<l.length→∀ y,l[j]?=some y→p y=false):idxP l p=-1:=by
 rw [idxP,if_neg]
 intro ha
 obtain⟨x,hx,hp⟩:=List.any_eq_true.1 ha
 obtain⟨j,hj,e⟩:=List.getElem_of_mem hx
 have:=hb j hj x (by rw [List.getElem?_eq_getElem hj,e])
 rw [this] at hp;cases hp
theorem idxP_any {α:Type} (l:List α) (p:α→Bool):decide (0≤idxP l p)=l.any p:=by
 unfold idxP
 cases h:l.any p<;>simp
end Go.Av
end
noncomputable section
namespace Go.Av
open Go Go.Proofs
set_option maxRecDepth 10000
end Go.Av
end
noncomputable section
namespace Go.Av
open Go Go.Proofs
set_option maxRecDepth 10000
end Go.Av
end
noncomputable section
namespace Go.Av
open Go Go.Proofs
set_option maxRecDepth 10000
end Go.Av
end
noncomputable section
namespace Go.Av
open Go Go.Proofs
set_option maxRecDepth 10000
end Go.Av
end
noncomputable section
namespace Go.Av
open Go Go.Proofs
set_option maxRecDepth 10000
end Go.Av
end
noncomputable section
namespace Go.Av
open Go Go.Proofs
set_option maxRecDepth 10000
end Go.Av
end
noncomputable section
namespace Go.Av
open Go Go.Proofs
set_option maxRecDepth 10000
end Go.Av
end
noncomputable section
namespace Go.Av
open Go Go.Proofs
set_option maxRecDepth 10000
end Go.Av
end
noncomputable section
namespace Go.Av
open Go Go.Proofs
set_option maxRecDepth 10000
end Go.Av
end
noncomputable section
namespace Go.Av
open Go Go.Proofs
set_option maxRecDepth 10000
structure SRule where
 name:List Nat
 alts:List (List (List Nat))
structure Src where
 k:Int
 tokens:List (List Nat)
 sep:List Nat
 start:List Nat
 rules:List SRule
abbrev alts (l:List (List (List Nat))):DV:=.sl 1 (l.map strs)
def encR (r:SRule):DV:=.agg [.str r.name,alts r.alts]
abbrev encX (x:Src):DV:=.agg [.int .i64 x.k,strs x.tokens,.str x.sep,.str x.start,.sl 2 (x.rules.map encR)]
abbrev cellX (x:Src):AV:=.d (.ep [.int .i64 x.k,strs x.tokens,.str x.sep,.str x.start,.sl 2 (x.rules.map encR)])
structure FitsX (x:Src):Prop where
 tokens:x.tokens.length≤1048576
 rules:x.rules.length≤1048576
 alts:∀ r ∈ x.rules,r.alts.length≤1048576
 names:∀ r ∈ x.rules,∀ a ∈ r.alts,a.length≤1048576
 sep:x.sep.length≤1048576
 start:x.start.length≤1048576
 tokenS:∀ s ∈ x.tokens,s.length≤1048576
 ruleS:∀ r ∈ x.rules,r.name.length≤1048576
 nameS:∀ r ∈ x.rules,∀ a ∈ r.alts,∀ s ∈ a,s.length≤1048576
section
variable {α:Type} {l:List α} {p:α→Bool} {i:Nat} {x:α}
theorem any_next (h:l[i]?=some x) (hb:(l.take i).any p=false) (hx:p x=false):(l.take (i+1)).any p=false:=by
 rw [List.take_add_one,h,List.any_append,hb];simp [hx]
theorem any_hit (h:l[i]?=some x) (hx:p x=true):l.any p=true:=List.any_eq_true.2 ⟨x,List.mem_of_getElem? h,hx⟩
theorem any_end (hb:(l.take l.length).any p=false):l.any p=false:=by rw [List.take_length] at hb;exact hb
end
theorem has08 (l:List (List Nat)) (s:List Nat) (hl:l.length≤1099511627776):KnownCall Tryz.prog 196 [strs l,.str s] (.d (.bool (l.any fun y=>decide (y=s)))):=by
 refine knownE Yo (fnAt Tryz.func196 (by kernel_rfl) (by kernel_rfl):FnAt _ _ (mkFn Tryz.f196 [])) ?_
 repeat' (first|refine zW [] ?_|((refine zB [] (fun h=>?_) (fun h=>?_))<;>(first|exact zk h|skip))|refine zX [] ?_|(refine zE ?_;(skip))|fail)
 refine Run.loop (fun i:Nat=>⟨PT.ofList [(0,.d (strs l)),(1,.d (.str s)),(5,.d (.int .i64 i))],[],[]⟩) (fun i=>i≤l.length∧(l.take i).any (fun y=>decide (y=s))=false) (fun i=>l.length-i) 0 ⟨Nat.zero_le _,rfl⟩ (weak_of (by repeat' (first|exact trivial|refine⟨rfl,?_⟩))) (fun i hi=>?_)
 rcases Nat.lt_or_ge i l.length with hlt|hge
 ·obtain⟨y,hy⟩:=get_ok hlt
  by_cases hys:y=s
  ·rw [any_hit hy (p:=fun y=>decide (y=s)) (by simp [hys])]
   repeat' (first|refine zW [] ?_|((refine zB [] (fun h=>?_) (fun h=>?_))<;>(first|exact zk h|skip))|refine zX [] ?_|refine oX (frz:=[]) (v:=.d (.ep [.str y])) Yo ?_ (hf:=(by first|(simp [inB]<;>fail)|(simp [inB];omega))) (he:=(by first|(simp [List.getD_eq_getElem?_getD,cellsD,hy]<;>fail)|fail))|refine eX (v:=.d (.ep [.str y])) ?_ (hf:=(by first|(simp [inB]<;>fail)|(simp [inB];omega))) (he:=(by first|(simp [List.getD_eq_getElem?_getD,cellsD,hy]<;>fail)|fail))|(refine zE ?_;(rfl))|((exfalso;(simp at h<;>fail)))|((exfalso;simp [hys] at h<;>fail))|fail)
  ·repeat' (first|refine zW [] ?_|((refine zB [] (fun h=>?_) (fun h=>?_))<;>(first|exact zk h|skip))|refine zX [] ?_|refine oX (frz:=[]) (v:=.d (.ep [.str y])) Yo ?_ (hf:=(by first|(simp [inB]<;>fail)|(simp [inB];omega))) (he:=(by first|(simp [List.getD_eq_getElem?_getD,cellsD,hy]<;>fail)|fail))|refine eX (v:=.d (.ep [.str y])) ?_ (hf:=(by first|(simp [inB]<;>fail)|(simp [inB];omega))) (he:=(by first|(simp [List.getD_eq_getElem?_getD,cellsD,hy]<;>fail)|fail))|(refine zE ?_;((exfalso;simp [hys] at h<;>fail)))|(exact⟨i+1,⟨hlt,any_next hy hi.2 (by simp [hys])⟩,by omega,weak_of (by repeat' (first|exact trivial|refine⟨rfl,?_⟩|refine⟨(inc_get (k:=i) (by kernel_rfl) (by omega)),?_⟩))⟩)|fail)
 ·have hie:i=l.length:=by omega
  subst hie
  rw [any_end hi.2]
  repeat' (first|refine zW [] ?_|((refine zB [] (fun h=>?_) (fun h=>?_))<;>(first|exact zk h|skip))|refine zX [] ?_|(refine zE ?_;(rfl))|fail)
theorem rules08 (x:Src) (hf:FitsX x):KnownCall Tryz.prog 131 [encX x] (.d (strs (x.rules.map (·.name)))):=by
 have hr:=hf.rules
 refine knownE2 Yo (fnAt Tryz.func131 (by kernel_rfl) (by kernel_rfl):FnAt _ _ (mkFn Tryz.f131 [1,19])) ?_
 repeat' (first|refine zW [1,19] ?_|((refine zB [1,19] (fun h=>?_) (fun h=>?_))<;>(first|exact zk h|skip))|refine zX [1,19] ?_|(refine Yt ?_;refine r2 ?_;first|done|(skip))|fail)
 refine Run.loop (fun y:Nat × List DV=>⟨PT.ofList [(1,cellX x),(3,rowA 0 1 y.2),(4,.d (.int .i64 y.1))],rowO 1 y.2,[]⟩) (fun y=>y.1≤x.rules.length∧y.2=(x.rules.take y.1).map (fun r=>.str r.name)) (fun y=>x.rules.length-y.1) (0,[]) ⟨Nat.zero_le _,rfl⟩ (weak_of (by repeat' (first|exact trivial|refine⟨rfl,?_⟩))) (fun y hy=>?_)
 obtain⟨i,acc⟩:=y
 obtain⟨hi1,hi2⟩:=hy
 simp only at hi1 hi2 ⊢
 have hal:acc.length≤i:=by rw [hi2];simp;omega
 rcases Nat.lt_or_ge i x.rules.length with hlt|hge
 ·obtain⟨r,hr⟩:=get_ok hlt
  have hnext:acc++[.str r.name]=(x.rules.take (i+1)).map (fun r=>.str r.name):=by rw [List.take_add_one,hr,hi2];simp
  rcases acc with _|⟨a,l⟩
  ·repeat' (first|refine zW [1,19] ?_|((refine zB [1,19] (fun h=>?_) (fun h=>?_))<;>(first|exact zk h|skip))|refine zX [1,19] ?_|refine oX (frz:=[1,19]) (v:=.d (.ep [.str r.name,alts r.alts])) Yo ?_ (hf:=(by first|(simp [inB]<;>fail)|(simp [inB];omega))) (he:=(by first|(simp [List.getD_eq_getElem?_getD,cellsD,hr,encR]<;>fail)|fail))|refine eX (v:=.d (.ep [.str r.name,alts r.alts])) ?_ (hf:=(by first|(simp [inB]<;>fail)|(simp [inB];omega))) (he:=(by first|(simp [List.getD_eq_getElem?_getD,cellsD,hr,encR]<;>fail)|fail))|refine oX (frz:=[1,19]) Yo ?_ (hv:=app1) (hf:=rfl) (he:=rfl)|refine eX ?_ (hv:=app1) (hf:=rfl) (he:=rfl)|refine oX (frz:=[1,19]) Yo ?_ (hv:=app0) (hf:=rfl) (he:=rfl)|refine eX ?_ (hv:=app0) (hf:=rfl) (he:=rfl)|(refine Yt ?_;refine r2 ?_;first|done|(skip))|(exact⟨(i+1,[.str r.name]),⟨hlt,hnext⟩,by simp only;omega,weak_of' (by rfl) rfl (by repeat' (first|exact trivial|refine⟨rfl,?_⟩|refine⟨(inc_get (k:=i) (by kernel_rfl) (by omega)),?_⟩))⟩)|fail)
  ·have hal':l.length+1≤i:=hal
   repeat' (first|refine zW [1,19] ?_|((refine zB [1,19] (fun h=>?_) (fun h=>?_))<;>(first|exact zk h|skip))|refine zX [1,19] ?_|refine oX (frz:=[1,19]) (v:=.d (.ep [.str r.name,alts r.alts])) Yo ?_ (hf:=(by first|(simp [inB]<;>fail)|(simp [inB];omega))) (he:=(by first|(simp [List.getD_eq_getElem?_getD,cellsD,hr,encR]<;>fail)|fail))|refine eX (v:=.d (.ep [.str r.name,alts r.alts])) ?_ (hf:=(by first|(simp [inB]<;>fail)|(simp [inB];omega))) (he:=(by first|(simp [List.getD_eq_getElem?_getD,cellsD,hr,encR]<;>fail)|fail))|refine oX (frz:=[1,19]) Yo ?_ (hv:=app1) (hf:=rfl) (he:=rfl)|refine eX ?_ (hv:=app1) (hf:=rfl) (he:=rfl)|refine oX (frz:=[1,19]) Yo ?_ (hv:=app0) (hf:=rfl) (he:=rfl)|refine eX ?_ (hv:=app0) (hf:=rfl) (he:=rfl)|(refine Yt ?_;refine r2 ?_;first|done|(skip))|(exact⟨(i+1,a :: (l++[DV.str r.name])),⟨hlt,hnext⟩,by simp only;omega,weak_of' (by show [Ob.room ((l++[_]).length+1) 1]=[Ob.room (l.length+1+1) 1];rw [List.length_append];rfl) rfl (by repeat' (first|exact trivial|refine⟨rfl,?_⟩|refine⟨(inc_get (k:=i) (by kernel_rfl) (by omega)),?_⟩))⟩)|fail)
 ·have hge:i=x.rules.length:=by omega
  have he:(x.rules.map (·.name)).map DV.str=acc:=by rw [hi2,hge,List.take_length,List.map_map];rfl
  rw [show strs (x.rules.map (·.name))=.sl 1 ((x.rules.map (·.name)).map DV.str) from rfl,he]
  rcases acc with _|⟨a,l⟩
  ·repeat' (first|refine zW [1,19] ?_|((refine zB [1,19] (fun h=>?_) (fun h=>?_))<;>(first|exact zk h|skip))|refine zX [1,19] ?_|(refine Yt ?_;refine r2 ?_;first|done|(exact .d .nil))|fail)
  ·repeat' (first|refine zW [1,19] ?_|((refine zB [1,19] (fun h=>?_) (fun h=>?_))<;>(first|exact zk h|skip))|refine zX [1,19] ?_|(refine Yt ?_;refine r2 ?_;first|done|(exact .refl))|fail)
def shortX (x:Src):Bool:=x.rules.any (fun r=>r.alts.isEmpty) || x.tokens.isEmpty || x.rules.isEmpty
end Go.Av
end
noncomputable section
namespace Go.Av
open Go Go.Proofs
set_option maxRecDepth 10000
def W64 (n:Int):Prop:=-9223372036854775808≤n∧n≤9223372036854775807
end Go.Av
end
noncomputable section
namespace Go.Av
open Go Go.Proofs
set_option maxRecDepth 10000
theorem vN8 {x:Int} {n:Nat} (h:x=(n:Int)) (hn:n≤1099511627776):AV.d (.int .i64 (IntKind.i64.wrap x))=.d (.int .i64 (n:Int)):=by
 subst h;exact congrArg (fun n=>AV.d (.int .i64 n)) (wrap_nat hn)
def longA (a:List (List Nat)):Bool:=decide (6<a.length)
def sumTo (x:Src) (i:Nat):Nat:=((x.rules.take i).map (·.alts.length)).sum
theorem sumTo_succ {x:Src} {i:Nat} {r:SRule} (h:x.rules[i]?=some r):sumTo x (i+1)=sumTo x i+r.alts.length:=by
 simp [sumTo,List.take_add_one,h]
theorem sumTo_le {x:Src} (hf:FitsX x):∀ {i:Nat},i≤x.rules.length→sumTo x i≤i*1048576
 |0,_=>by simp [sumTo]
 |i+1,hi=>by
  obtain⟨r,hr⟩:=get_ok (show i<x.rules.length by omega)
  have h1:=sumTo_le hf (i:=i) (by omega)
  have h2:=hf.alts r (List.mem_of_getElem? hr)
  rw [sumTo_succ hr,Nat.succ_mul];omega
def fullX (x:Src):Bool:=x.rules.any (fun r=>r.alts.any longA) || decide (8<x.tokens.length) || decide (8<x.rules.length) || decide (24<sumTo x x.rules.length)
end Go.Av
end
noncomputable section
namespace Go.Av
open Go Go.Proofs
set_option maxRecDepth 10000
def noName (s:List Nat):Bool:=!smallF s && !capitalF s
def misR (r:SRule):Bool:=!capitalF r.name || r.alts.any (fun a=>a.any noName)
def misX (x:Src):Bool:=x.tokens.any (fun s=>!smallF s) || x.rules.any misR || !smallF x.sep || !capitalF x.start
end Go.Av
end
noncomputable section
namespace Go.Av
open Go Go.Proofs
set_option maxRecDepth 10000
def hasF (l:List (List Nat)) (s:List Nat):Bool:=l.any fun y=>decide (y=s)
def usesR (s:List Nat) (r:SRule):Bool:=r.alts.any (fun a=>hasF a s)
def usesX (x:Src) (s:List Nat):Bool:=x.rules.any (usesR s)
abbrev ruleNames (x:Src):List (List Nat):=x.rules.map (·.name)
def unkS (x:Src) (s:List Nat):Bool:=!hasF (ruleNames x) s && !hasF x.tokens s
def unkR (x:Src) (r:SRule):Bool:=r.alts.any (fun a=>a.any (unkS x))
def unkX (x:Src):Bool:=x.rules.any (unkR x) || !hasF (ruleNames x) x.start
def smallsX (x:Src):List (List Nat):=x.tokens++[x.sep]
def twoX (x:Src):Bool:=decide (¬ (smallsX x).Nodup) || decide (¬ (ruleNames x).Nodup)
def checkX (x:Src):Int:=if x.k<1∨4<x.k then 2 else if shortX x=true then 5 else if fullX x=true then 6 else if misX x=true then 12 else if twoX x=true then 8 else if usesX x x.sep=true then 14 else if unkX x=true then 7 else 0
theorem strs_smallsX (x:Src):DV.sl 1 ([]++x.tokens.map DV.str++[DV.str x.sep])=strs (smallsX x):=by simp [smallsX]
theorem checkX_k {x:Src} (h:x.k<1∨4<x.k):checkX x=2:=if_pos h
end Go.Av
end
noncomputable section
namespace Go.Av
open Go Go.Proofs
set_option maxRecDepth 10000
theorem indexFuncStrs (l:List (List Nat)) (hl:l.length≤1099511627776) (F:FuncId) (caps:List DV) (p:(List Nat)→Bool) (hp:∀ x ∈ l,KnownCall Tryz.prog F ((.str x) :: caps) (.d (.bool (p x)))) :
  KnownCall Tryz.prog 237 [(.sl 1 (l.map .str)),.fn (.func F) [] caps] (.d (.int .i64 (idxP l p))):=by
 refine knownE Yo (fnAt Tryz.func237 (by kernel_rfl) (by kernel_rfl):FnAt _ _ (mkFn Tryz.f237 [])) ?_
 repeat' (first|refine zW [] ?_|((refine zB [] (fun h=>?_) (fun h=>?_))<;>(first|exact zk h|skip))|refine zX [] ?_|(refine zE ?_;(skip))|fail)
 refine Run.loop (fun i:Nat=>⟨PT.ofList [(0,.d (.sl 1 (l.map .str))),(1,.d (.fn (.func F) [] caps)),(7,.d (.int .i64 l.length)),(8,.d (.int .i64 i))],[],[]⟩) (fun i=>i≤l.length∧∀ j,j<i→∀ y,l[j]?=some y→p y=false) (fun i=>l.length-i) 0 ⟨Nat.zero_le _,fun j hj=>by omega⟩ (weak_of (by repeat' (first|exact trivial|refine⟨rfl,?_⟩|refine⟨Eq.trans (b:=some (.d (.int .i64 (l.map _).length))) rfl (by rw [List.length_map]),?_⟩|fail))) (fun i hi=>?_)
 obtain⟨hi1,hi2⟩:=hi
 rcases Nat.lt_or_ge i l.length with hlt|hge
 ·obtain⟨x,hx⟩:=get_ok hlt
  have hc:=hp x (List.mem_of_getElem? hx)
  repeat' (first|refine zW [] ?_|((refine zB [] (fun h=>?_) (fun h=>?_))<;>(first|exact zk h|skip))|refine zX [] ?_|refine oX (frz:=[]) (v:=.d (.ep [.str x])) Yo ?_ (hf:=(by first|(simp [inB]<;>fail)|(simp [inB];omega))) (he:=(by first|(simp [List.getD_eq_getElem?_getD,cellsD,hx]<;>fail)|fail))|refine eX (v:=.d (.ep [.str x])) ?_ (hf:=(by first|(simp [inB]<;>fail)|(simp [inB];omega))) (he:=(by first|(simp [List.getD_eq_getElem?_getD,cellsD,hx]<;>fail)|fail))|((refine zK (hc) (fun h=>?_) (fun h=>?_))<;>(first|exact zk h|skip))|refine zC (hc) ?_|(refine zE ?_;(rw [idxP_at hx (by simp_all) hi2]))|(exact⟨i+1,⟨by omega,all_succ hi2 (fun q hq=>by rw [hx] at hq;cases hq;simp_all)⟩,by omega,weak_of (by repeat' (first|exact trivial|refine⟨rfl,?_⟩|refine⟨(inc_get (k:=i) (by kernel_rfl) (by omega)),?_⟩))⟩)|fail)
 ·have hge:i=l.length:=by omega
  repeat' (first|refine zW [] ?_|((refine zB [] (fun h=>?_) (fun h=>?_))<;>(first|exact zk h|skip))|refine zX [] ?_|(refine zE ?_;(rw [idxP_none (fun j hj=>hi2 j (by omega))]))|fail)
theorem containsFuncStrs (l:List (List Nat)) (hl:l.length≤1099511627776) (F:FuncId) (caps:List DV) (p:(List Nat)→Bool) (hp:∀ x ∈ l,KnownCall Tryz.prog F ((.str x) :: caps) (.d (.bool (p x)))) :
  KnownCall Tryz.prog 202 [(.sl 1 (l.map .str)),.fn (.func F) [] caps] (.d (.bool (l.any p))):=by
 refine knownE Yo (fnAt Tryz.func202 (by kernel_rfl) (by kernel_rfl):FnAt _ _ (mkFn Tryz.f202 [])) ?_
 have e:=idxP_any l p
 repeat' (first|refine zW [] ?_|((refine zB [] (fun h=>?_) (fun h=>?_))<;>(first|exact zk h|skip))|refine zX [] ?_|((refine zK (indexFuncStrs _ hl _ _ _ hp) (fun h=>?_) (fun h=>?_))<;>(first|exact zk h|skip))|refine zC (indexFuncStrs _ hl _ _ _ hp) ?_|(refine zE ?_;(first|(rw [← e]<;>simp_all<;>fail)|fail))|fail)
theorem indexFuncRules (l:List SRule) (hl:l.length≤1099511627776) (F:FuncId) (caps:List DV) (p:SRule→Bool) (hp:∀ x ∈ l,KnownCall Tryz.prog F ((encR x) :: caps) (.d (.bool (p x)))) :
  KnownCall Tryz.prog 201 [(.sl 2 (l.map encR)),.fn (.func F) [] caps] (.d (.int .i64 (idxP l p))):=by
 refine knownE Yo (fnAt Tryz.func201 (by kernel_rfl) (by kernel_rfl):FnAt _ _ (mkFn Tryz.f201 [])) ?_
 repeat' (first|refine zW [] ?_|((refine zB [] (fun h=>?_) (fun h=>?_))<;>(first|exact zk h|skip))|refine zX [] ?_|(refine zE ?_;(skip))|fail)
 refine Run.loop (fun i:Nat=>⟨PT.ofList [(0,.d (.sl 2 (l.map encR))),(1,.d (.fn (.func F) [] caps)),(7,.d (.int .i64 l.length)),(8,.d (.int .i64 i))],[],[]⟩) (fun i=>i≤l.length∧∀ j,j<i→∀ y,l[j]?=some y→p y=false) (fun i=>l.length-i) 0 ⟨Nat.zero_le _,fun j hj=>by omega⟩ (weak_of (by repeat' (first|exact trivial|refine⟨rfl,?_⟩|refine⟨Eq.trans (b:=some (.d (.int .i64 (l.map _).length))) rfl (by rw [List.length_map]),?_⟩|fail))) (fun i hi=>?_)
 obtain⟨hi1,hi2⟩:=hi
 rcases Nat.lt_or_ge i l.length with hlt|hge
 ·obtain⟨x,hx⟩:=get_ok hlt
  have hc:=hp x (List.mem_of_getElem? hx)
  repeat' (first|refine zW [] ?_|((refine zB [] (fun h=>?_) (fun h=>?_))<;>(first|exact zk h|skip))|refine zX [] ?_|refine oX (frz:=[]) (v:=.d (.ep [.str x.name,alts x.alts])) Yo ?_ (hf:=(by first|(simp [inB]<;>fail)|(simp [inB];omega))) (he:=(by first|(simp [List.getD_eq_getElem?_getD,cellsD,hx,encR]<;>fail)|fail))|refine eX (v:=.d (.ep [.str x.name,alts x.alts])) ?_ (hf:=(by first|(simp [inB]<;>fail)|(simp [inB];omega))) (he:=(by first|(simp [List.getD_eq_getElem?_getD,cellsD,hx,encR]<;>fail)|fail))|((refine zK (hc) (fun h=>?_) (fun h=>?_))<;>(first|exact zk h|skip))|refine zC (hc) ?_|(refine zE ?_;(rw [idxP_at hx (by simp_all) hi2]))|(exact⟨i+1,⟨by omega,all_succ hi2 (fun q hq=>by rw [hx] at hq;cases hq;simp_all)⟩,by omega,weak_of (by repeat' (first|exact trivial|refine⟨rfl,?_⟩|refine⟨(inc_get (k:=i) (by kernel_rfl) (by omega)),?_⟩))⟩)|fail)
 ·have hge:i=l.length:=by omega
  repeat' (first|refine zW [] ?_|((refine zB [] (fun h=>?_) (fun h=>?_))<;>(first|exact zk h|skip))|refine zX [] ?_|(refine zE ?_;(rw [idxP_none (fun j hj=>hi2 j (by omega))]))|fail)
theorem containsFuncRules (l:List SRule) (hl:l.length≤1099511627776) (F:FuncId) (caps:List DV) (p:SRule→Bool) (hp:∀ x ∈ l,KnownCall Tryz.prog F ((encR x) :: caps) (.d (.bool (p x)))) :
  KnownCall Tryz.prog 117 [(.sl 2 (l.map encR)),.fn (.func F) [] caps] (.d (.bool (l.any p))):=by
 refine knownE Yo (fnAt Tryz.func117 (by kernel_rfl) (by kernel_rfl):FnAt _ _ (mkFn Tryz.f117 [])) ?_
 have e:=idxP_any l p
 repeat' (first|refine zW [] ?_|((refine zB [] (fun h=>?_) (fun h=>?_))<;>(first|exact zk h|skip))|refine zX [] ?_|((refine zK (indexFuncRules _ hl _ _ _ hp) (fun h=>?_) (fun h=>?_))<;>(first|exact zk h|skip))|refine zC (indexFuncRules _ hl _ _ _ hp) ?_|(refine zE ?_;(first|(rw [← e]<;>simp_all<;>fail)|fail))|fail)
def headsO (r0:SRule):List DV→List Ob
 |[]=>[]
 |_ :: l=>[.box [.d (.str r0.name),.d (alts r0.alts)],.room (l.length+1) 1]
theorem heads (x:Src) (hf:FitsX x):KnownCall Tryz.prog 115 [encX x] (.d (strs (x.rules.map (·.name)))):=by
 have hrl:=hf.rules
 obtain⟨r0,hr0⟩:∃ r0:SRule,∀ r,x.rules[0]?=some r→r=r0:=⟨(x.rules[0]?).getD ⟨[],[]⟩,fun r h=>by rw [h];rfl⟩
 refine knownE2 Yo (fnAt Tryz.func115 (by kernel_rfl) (by kernel_rfl):FnAt _ _ (mkFn Tryz.f115 [1,16])) ?_
 repeat' (first|refine zW [1,16] ?_|((refine zB [1,16] (fun h=>?_) (fun h=>?_))<;>(first|exact zk h|skip))|refine zX [1,16] ?_|(refine Yt ?_;refine r2 ?_;first|done|(skip))|fail)
 refine Run.loopT (fun y:Nat × List DV=>⟨PT.ofList [(3,rowA 1 1 y.2),(7,.d (.sl 2 (x.rules.map encR))),(8,.d (.int .i64 (x.rules.map encR).length)),(9,.d (.int .i64 y.1))],headsO r0 y.2,[]⟩) (fun y=>y.1≤x.rules.length∧y.2=(x.rules.take y.1).map (fun r=>.str r.name)) (fun y=>x.rules.length-y.1) (0,[]) ⟨Nat.zero_le _,rfl⟩ (tidy_of (objs:=_) _ 0 (by rfl) rfl (by repeat' (first|exact trivial|refine⟨(Or.inl rfl),?_⟩|refine⟨(Or.inr rfl),?_⟩|fail)) (by repeat' (first|exact trivial|refine⟨rfl,?_⟩|fail)) rfl rfl) (fun y hy=>?_)
 obtain⟨i,acc⟩:=y
 obtain⟨hi1,hi2⟩:=hy
 simp only at hi1 hi2 ⊢
 have hal:acc.length≤i:=by rw [hi2];simp;omega
 rcases Nat.lt_or_ge i x.rules.length with hlt|hge
 ·obtain⟨r,hr⟩:=get_ok hlt
  have hnext:acc++[DV.str r.name]=(x.rules.take (i+1)).map (fun r=>.str r.name):=by rw [List.take_add_one,hr,hi2];simp
  rcases acc with _|⟨a,l⟩
  ·have hi0:i=0:=by
    have:=congrArg List.length hi2
    simp at this;omega
   have hrr:=hr0 r (by rw [← hi0];exact hr)
   subst hrr
   repeat' (first|refine zW [1,16] ?_|((refine zB [1,16] (fun h=>?_) (fun h=>?_))<;>(first|exact zk h|skip))|refine zX [1,16] ?_|refine oX (frz:=[1,16]) (v:=.d (.ep [.str r.name,alts r.alts])) Yo ?_ (hf:=(by first|(simp [inB]<;>fail)|(simp [inB];omega))) (he:=(by first|(simp [List.getD_eq_getElem?_getD,cellsD,hr,encR]<;>fail)|fail))|refine eX (v:=.d (.ep [.str r.name,alts r.alts])) ?_ (hf:=(by first|(simp [inB]<;>fail)|(simp [inB];omega))) (he:=(by first|(simp [List.getD_eq_getElem?_getD,cellsD,hr,encR]<;>fail)|fail))|refine oX (frz:=[1,16]) Yo ?_ (hv:=app1) (hf:=rfl) (he:=rfl)|refine eX ?_ (hv:=app1) (hf:=rfl) (he:=rfl)|refine oX (frz:=[1,16]) Yo ?_ (hv:=app0) (hf:=rfl) (he:=rfl)|refine eX ?_ (hv:=app0) (hf:=rfl) (he:=rfl)|(refine Yt ?_;refine r2 ?_;first|done|(skip))|(exact⟨(i+1,[DV.str r.name]),⟨hlt,hnext⟩,by simp only;omega,(tidy_of (objs:=_) _ 2 (Eq.trans (b:=[.box [.d (.str r.name),.d (alts r.alts)],.room 1 1]) rfl (by first|rfl|(simp [rowA,rowO,headsO]<;>fail))) rfl (by repeat' (first|exact trivial|refine⟨(Or.inl rfl),?_⟩|refine⟨(Or.inl (inc_get (k:=i) (by kernel_rfl) (by omega))),?_⟩|refine⟨(Or.inr rfl),?_⟩|fail)) (by repeat' (first|exact trivial|refine⟨rfl,?_⟩|fail)) rfl rfl)⟩)|fail)
  ·have hal':l.length+1≤i:=hal
   repeat' (first|refine zW [1,16] ?_|((refine zB [1,16] (fun h=>?_) (fun h=>?_))<;>(first|exact zk h|skip))|refine zX [1,16] ?_|refine oX (frz:=[1,16]) (v:=.d (.ep [.str r.name,alts r.alts])) Yo ?_ (hf:=(by first|(simp [inB]<;>fail)|(simp [inB];omega))) (he:=(by first|(simp [List.getD_eq_getElem?_getD,cellsD,hr,encR]<;>fail)|fail))|refine eX (v:=.d (.ep [.str r.name,alts r.alts])) ?_ (hf:=(by first|(simp [inB]<;>fail)|(simp [inB];omega))) (he:=(by first|(simp [List.getD_eq_getElem?_getD,cellsD,hr,encR]<;>fail)|fail))|refine oX (frz:=[1,16]) Yo ?_ (hv:=app1) (hf:=rfl) (he:=rfl)|refine eX ?_ (hv:=app1) (hf:=rfl) (he:=rfl)|refine oX (frz:=[1,16]) Yo ?_ (hv:=app0) (hf:=rfl) (he:=rfl)|refine eX ?_ (hv:=app0) (hf:=rfl) (he:=rfl)|(refine Yt ?_;refine r2 ?_;first|done|(skip))|(exact⟨(i+1,a :: (l++[DV.str r.name])),⟨hlt,hnext⟩,by simp only;omega,(tidy_of (objs:=_) _ 2 (Eq.trans (b:=[.box [.d (.str r0.name),.d (alts r0.alts)],.room (l.length+1+1) 1]) rfl (by first|rfl|(simp [rowA,rowO,headsO]<;>fail))) rfl (by repeat' (first|exact trivial|refine⟨(Or.inl rfl),?_⟩|refine⟨(Or.inl (inc_get (k:=i) (by kernel_rfl) (by omega))),?_⟩|refine⟨(Or.inr rfl),?_⟩|fail)) (by repeat' (first|exact trivial|refine⟨rfl,?_⟩|fail)) rfl rfl)⟩)|fail)
 ·have hge:i=x.rules.length:=by omega
  have he:(x.rules.map (·.name)).map DV.str=acc:=by rw [hi2,hge,List.take_length,List.map_map];rfl
  rw [show strs (x.rules.map (·.name))=.sl 1 ((x.rules.map (·.name)).map DV.str) from rfl,he]
  rcases acc with _|⟨a,l⟩
  ·repeat' (first|refine zW [1,16] ?_|((refine zB [1,16] (fun h=>?_) (fun h=>?_))<;>(first|exact zk h|skip))|refine zX [1,16] ?_|(refine Yt ?_;refine r2 ?_;first|done|(exact .d .nil))|fail)
  ·repeat' (first|refine zW [1,16] ?_|((refine zB [1,16] (fun h=>?_) (fun h=>?_))<;>(first|exact zk h|skip))|refine zX [1,16] ?_|(refine Yt ?_;refine r2 ?_;first|done|(exact .refl))|fail)
theorem twiceS (l:List (List Nat)) (hl:l.length≤1099511627776):KnownCall Tryz.prog 124 [strs l] (.d (.bool (decide (¬ l.Nodup)))):=by
 refine knownE Yo (fnAt Tryz.func124 (by kernel_rfl) (by kernel_rfl):FnAt _ _ (mkFn Tryz.f124 [])) ?_
 repeat' (first|refine zW [] ?_|((refine zB [] (fun h=>?_) (fun h=>?_))<;>(first|exact zk h|skip))|refine zX [] ?_|(refine zE ?_;(skip))|fail)
 refine Run.loop (fun i:Nat=>⟨PT.ofList [(0,.d (strs l)),(5,.d (strs l)),(6,.d (.int .i64 (l.map DV.str).length)),(7,.d (.int .i64 i))],[],[]⟩) (fun i=>i≤l.length∧(l.take i).Nodup) (fun i=>l.length-i) 0 ⟨Nat.zero_le _,by simp⟩ (weak_of (by repeat' (first|exact trivial|refine⟨rfl,?_⟩))) (fun i hi=>?_)
 rcases Nat.lt_or_ge i l.length with hlt|hge
 ·obtain⟨x,hx⟩:=get_ok hlt
  have hh:=contains (l.take i) x (by simp;omega)
  have hc:AV.d (DV.sl 1 (cutL none (some (i:Int)) (l.map DV.str)))=.d (strs (l.take i)):=by simp [cutL,List.map_take]
  by_cases hm:x ∈ l.take i
  ·rw [decide_eq_true hm] at hh
   rw [decide_eq_true (nodup_not hx hm)]
   repeat' (first|refine zW [] ?_|((refine zB [] (fun h=>?_) (fun h=>?_))<;>(first|exact zk h|skip))|refine zX [] ?_|refine zC (hh) ?_|refine oX (frz:=[]) (v:=.d (.ep [.str x])) Yo ?_ (hf:=(by first|(simp [inB]<;>fail)|(simp [inB];omega))) (he:=(by first|(simp [List.getD_eq_getElem?_getD,cellsD,hx]<;>fail)|fail))|refine eX (v:=.d (.ep [.str x])) ?_ (hf:=(by first|(simp [inB]<;>fail)|(simp [inB];omega))) (he:=(by first|(simp [List.getD_eq_getElem?_getD,cellsD,hx]<;>fail)|fail))|refine oX (frz:=[]) (v:=.d (strs (l.take i))) Yo ?_ (hf:=by first|(simp [cutC,maxC]<;>fail)|(simp [cutC,maxC];omega)) (he:=hc)|(refine zE ?_;(rfl))|((exfalso;(simp at h<;>omega)))|fail)
  ·rw [decide_eq_false hm] at hh
   have hn:=nodup_take hx hi.2 hm
   repeat' (first|refine zW [] ?_|((refine zB [] (fun h=>?_) (fun h=>?_))<;>(first|exact zk h|skip))|refine zX [] ?_|refine zC (hh) ?_|refine oX (frz:=[]) (v:=.d (.ep [.str x])) Yo ?_ (hf:=(by first|(simp [inB]<;>fail)|(simp [inB];omega))) (he:=(by first|(simp [List.getD_eq_getElem?_getD,cellsD,hx]<;>fail)|fail))|refine eX (v:=.d (.ep [.str x])) ?_ (hf:=(by first|(simp [inB]<;>fail)|(simp [inB];omega))) (he:=(by first|(simp [List.getD_eq_getElem?_getD,cellsD,hx]<;>fail)|fail))|refine oX (frz:=[]) (v:=.d (strs (l.take i))) Yo ?_ (hf:=by first|(simp [cutC,maxC]<;>fail)|(simp [cutC,maxC];omega)) (he:=hc)|(refine zE ?_;((exfalso;(simp at h<;>omega))))|(exact⟨i+1,⟨hlt,hn⟩,by omega,weak_of (by repeat' (first|exact trivial|refine⟨rfl,?_⟩|refine⟨(inc_get (k:=i) (by kernel_rfl) (by omega)),?_⟩))⟩)|fail)
 ·have hie:i=l.length:=by omega
  subst hie
  have hn:=hi.2
  rw [List.take_length] at hn
  rw [decide_eq_false (by simpa using hn)]
  repeat' (first|refine zW [] ?_|((refine zB [] (fun h=>?_) (fun h=>?_))<;>(first|exact zk h|skip))|refine zX [] ?_|(refine zE ?_;(rfl))|((exfalso;(simp at h<;>omega)))|fail)
theorem fullX_all {x:Src} (h:(x.rules.take x.rules.length).any (fun r=>r.alts.any longA)=false):fullX x=(decide (8<x.tokens.length) || decide (8<x.rules.length) || decide (24<sumTo x x.rules.length)):=by
 unfold fullX
 rw [any_end h];simp
theorem fullS (x:Src) (hf:FitsX x):KnownCall Tryz.prog 119 [encX x] (.d (.bool (fullX x))):=by
 have hrl:=hf.rules
 refine knownE Yo (fnAt Tryz.func119 (by kernel_rfl) (by kernel_rfl):FnAt _ _ (mkFn Tryz.f119 [1])) ?_
 repeat' (first|refine zW [1] ?_|((refine zB [1] (fun h=>?_) (fun h=>?_))<;>(first|exact zk h|skip))|refine zX [1] ?_|(refine zE ?_;(skip))|fail)
 refine Run.loopT (fun i:Nat=>⟨PT.ofList [(1,cellX x),(3,.d (.int .i64 (sumTo x i:Nat))),(9,.d (.sl 2 (x.rules.map encR))),(10,.d (.int .i64 (x.rules.map encR).length)),(11,.d (.int .i64 i))],[],[]⟩) (fun i=>i≤x.rules.length∧(x.rules.take i).any (fun r=>r.alts.any longA)=false) (fun i=>x.rules.length-i) 0 ⟨Nat.zero_le _,rfl⟩ (tidy_of (objs:=_) _ 0 (by rfl) rfl (by repeat' (first|exact trivial|refine⟨(Or.inl rfl),?_⟩|refine⟨(Or.inr rfl),?_⟩|fail)) (by repeat' (first|exact trivial|refine⟨rfl,?_⟩|fail)) rfl rfl) (fun i hi=>?_)
 obtain⟨hi1,hi3⟩:=hi
 rcases Nat.lt_or_ge i x.rules.length with hlt|hge
 ·obtain⟨r,hr⟩:=get_ok hlt
  have hra:=hf.alts r (List.mem_of_getElem? hr)
  have hsl:=sumTo_le hf (i:=i) hi1
  have hsum:AV.d (.int .i64 (IntKind.i64.wrap ((sumTo x i:Nat)+((r.alts.map strs).length:Int))))=.d (.int .i64 (sumTo x (i+1):Nat)):=vN8 (by rw [sumTo_succ hr];simp) (by rw [sumTo_succ hr];omega)
  repeat' (first|refine oX (frz:=[1]) (v:=.d (.int .i64 (sumTo x (i+1):Nat))) Yo ?_ (he:=(hsum))|refine eX (v:=.d (.int .i64 (sumTo x (i+1):Nat))) ?_ (he:=(hsum))|refine zW [1] ?_|((refine zB [1] (fun h=>?_) (fun h=>?_))<;>(first|exact zk h|skip))|refine zX [1] ?_|refine oX (frz:=[1]) (v:=.d (.ep [.str r.name,alts r.alts])) Yo ?_ (hf:=(by first|(simp [inB]<;>fail)|(simp [inB];omega))) (he:=(by first|(simp [List.getD_eq_getElem?_getD,cellsD,hr,encR]<;>fail)|fail))|refine eX (v:=.d (.ep [.str r.name,alts r.alts])) ?_ (hf:=(by first|(simp [inB]<;>fail)|(simp [inB];omega))) (he:=(by first|(simp [List.getD_eq_getElem?_getD,cellsD,hr,encR]<;>fail)|fail))|(refine zE ?_;(skip))|((exfalso;(simp at h<;>omega)))|fail)
  refine Run.loopT (fun k:Nat=>⟨PT.ofList [(1,cellX x),(3,.d (.int .i64 (sumTo x (i+1):Nat))),(9,.d (.sl 2 (x.rules.map encR))),(10,.d (.int .i64 (x.rules.map encR).length)),(11,.d (.int .i64 i)),(21,.d (alts r.alts)),(22,.d (.int .i64 (r.alts.map strs).length)),(23,.d (.int .i64 k))],[],[]⟩) (fun k=>k≤r.alts.length∧(r.alts.take k).any longA=false) (fun k=>r.alts.length-k) 0 ⟨Nat.zero_le _,rfl⟩ (tidy_of (objs:=_) _ 0 (by rfl) rfl (by repeat' (first|exact trivial|refine⟨(Or.inl rfl),?_⟩|refine⟨(Or.inr rfl),?_⟩|fail)) (by repeat' (first|exact trivial|refine⟨rfl,?_⟩|fail)) rfl rfl) (fun k hk=>?_)
  obtain⟨hk1,hk3⟩:=hk
  rcases Nat.lt_or_ge k r.alts.length with hkl|hkg
  ·obtain⟨a,ha⟩:=get_ok hkl
   cases hla:longA a with
   |true =>
    have hfx:fullX x=true:=by unfold fullX;rw [any_hit hr (p:=fun r=>r.alts.any longA) (any_hit ha hla)];rfl
    have hla':6<a.length:=by simpa [longA] using hla
    rw [hfx]
    repeat' (first|refine zW [1] ?_|((refine zB [1] (fun h=>?_) (fun h=>?_))<;>(first|exact zk h|skip))|refine zX [1] ?_|refine oX (frz:=[1]) (v:=.d (.ep [strs a])) Yo ?_ (hf:=(by first|(simp [inB]<;>fail)|(simp [inB];omega))) (he:=(by first|(simp [List.getD_eq_getElem?_getD,cellsD,ha]<;>fail)|fail))|refine eX (v:=.d (.ep [strs a])) ?_ (hf:=(by first|(simp [inB]<;>fail)|(simp [inB];omega))) (he:=(by first|(simp [List.getD_eq_getElem?_getD,cellsD,ha]<;>fail)|fail))|(refine zE ?_;(rfl))|((exfalso;(simp at h<;>omega)))|fail)
   |false =>
    have hla':¬ 6<a.length:=by simpa [longA] using hla
    repeat' (first|refine zW [1] ?_|((refine zB [1] (fun h=>?_) (fun h=>?_))<;>(first|exact zk h|skip))|refine zX [1] ?_|refine oX (frz:=[1]) (v:=.d (.ep [strs a])) Yo ?_ (hf:=(by first|(simp [inB]<;>fail)|(simp [inB];omega))) (he:=(by first|(simp [List.getD_eq_getElem?_getD,cellsD,ha]<;>fail)|fail))|refine eX (v:=.d (.ep [strs a])) ?_ (hf:=(by first|(simp [inB]<;>fail)|(simp [inB];omega))) (he:=(by first|(simp [List.getD_eq_getElem?_getD,cellsD,ha]<;>fail)|fail))|(refine zE ?_;((exfalso;(simp at h<;>omega))))|(exact⟨k+1,⟨by omega,any_next ha hk3 hla⟩,by omega,(tidy_of (objs:=_) _ 0 (by rfl) rfl (by repeat' (first|exact trivial|refine⟨(Or.inl rfl),?_⟩|refine⟨(Or.inl (inc_get (k:=k) (by kernel_rfl) (by omega))),?_⟩|refine⟨(Or.inr rfl),?_⟩|fail)) (by repeat' (first|exact trivial|refine⟨rfl,?_⟩|fail)) rfl rfl)⟩)|((exfalso;(simp at h<;>omega)))|fail)
  ·have hke:k=r.alts.length:=by omega
   subst hke
   have hall:=any_end hk3
   repeat' (first|refine zW [1] ?_|((refine zB [1] (fun h=>?_) (fun h=>?_))<;>(first|exact zk h|skip))|refine zX [1] ?_|(refine zE ?_;(skip))|(exact⟨i+1,⟨by omega,any_next hr hi3 hall⟩,by omega,(tidy_of (objs:=_) _ 0 (by rfl) rfl (by repeat' (first|exact trivial|refine⟨(Or.inl rfl),?_⟩|refine⟨(Or.inl (inc_get (k:=i) (by kernel_rfl) (by omega))),?_⟩|refine⟨(Or.inr rfl),?_⟩|fail)) (by repeat' (first|exact trivial|refine⟨rfl,?_⟩|fail)) rfl rfl)⟩)|((exfalso;(simp at h<;>omega)))|fail)
 ·have hie:i=x.rules.length:=by omega
  subst hie
  rw [fullX_all hi3]
  by_cases ht:8<x.tokens.length
  ·rw [decide_eq_true ht]
   repeat' (first|refine zW [1] ?_|((refine zB [1] (fun h=>?_) (fun h=>?_))<;>(first|exact zk h|skip))|refine zX [1] ?_|(refine zE ?_;(rfl))|((exfalso;(simp at h<;>omega)))|fail)
  ·rw [decide_eq_false ht]
   by_cases h8:8<x.rules.length
   ·rw [decide_eq_true h8]
    repeat' (first|refine zW [1] ?_|((refine zB [1] (fun h=>?_) (fun h=>?_))<;>(first|exact zk h|skip))|refine zX [1] ?_|(refine zE ?_;(rfl))|((exfalso;(simp at h<;>omega)))|fail)
   ·rw [decide_eq_false h8]
    by_cases hs:24<sumTo x x.rules.length
    ·rw [decide_eq_true hs]
     repeat' (first|refine zW [1] ?_|((refine zB [1] (fun h=>?_) (fun h=>?_))<;>(first|exact zk h|skip))|refine zX [1] ?_|(refine zE ?_;(rfl))|((exfalso;(simp at h<;>omega)))|fail)
    ·rw [decide_eq_false hs]
     repeat' (first|refine zW [1] ?_|((refine zB [1] (fun h=>?_) (fun h=>?_))<;>(first|exact zk h|skip))|refine zX [1] ?_|(refine zE ?_;(rfl))|((exfalso;(simp at h<;>omega)))|fail)
end Go.Av
end
noncomputable section
namespace Go.Av
open Go Go.Proofs
set_option maxRecDepth 10000
theorem vT8 {p:Prop} [Decidable p] (h:p):AV.d (.bool (decide p))=.d (.bool true):=by rw [decide_eq_true h]
theorem vF8 {p:Prop} [Decidable p] (h:¬ p):AV.d (.bool (decide p))=.d (.bool false):=by rw [decide_eq_false h]
section
variable {E:PT Ty} {H:Hd} {frz:List Nat} {rd:Operand→AV} {objs:List Ob} {o:Oper} {args:Array Operand} {tys:Array TypeId} {a b:Operand} {ts tx e:TypeId} {yts z:Ty} {szx k:Nat} {ys:List DV}
theorem appV (hlen:ys.length≤16777216) (hop:o.op=.call ⟨.builtin .append,args,tys⟩:=by rfl) (ha:args.toList=[a,b]:=by rfl) (ht:tys.toList=[ts,tx]:=by rfl)
  (hv:hintV o.dst frz=true:=by rfl) (h1:E.get? ts=some yts:=by rfl) (h2:yts.desc=.slice e:=by rfl) (h3:E.get? e=some z:=by rfl) (h4:appSrc E z tx (rd b) objs=some (szx,ys):=by rfl) (h5:(Nat.ble 1 z.size && Nat.ble 1 z.bytes)=true:=by rfl) (hk:z.size=k:=by rfl)
  (h6:szx=k∨ys=[]:=by first|rfl|(exact Or.inl rfl)|(exact Or.inr rfl))
  (h7:rd a=.d .nilsl:=by rfl) (h11:Nat.ble z.bytes 65536=true:=by rfl) :
  evAny E H frz rd objs o=some (.vs objs.length k 0 ys.length,some (objs++[.vec e (isAggT z.desc) k ys.length ((flatD ys).map .d)]),true):=by
 obtain⟨dst,op,ty,pos,after,guard⟩:=o
 obtain⟨desc,size,bytes,zero⟩:=yts
 simp only at hop h2 hv
 subst hop h2 hk
 have hb:∀ q:Nat,Nat.beq q q=true:=fun q=>Nat.beq_refl q
 have hs:srcSz szx z.size ys=z.size:=by
  rcases h6 with rfl|rfl
  ·cases ys<;>rfl
  ·rfl
 have hm:Nat.ble (ys.length*z.bytes) 1099511627776=true:=Nat.ble_eq_true_of_le (Nat.le_trans (Nat.mul_le_mul hlen (Nat.le_of_ble_eq_true h11)) (by decide))
 simp only [evAny,ha,ht,hv,appendR,h1,appSrc0,h3,h4,h5,hs,hb,h7,hm,Bool.and_self,if_true,Option.map_some]
end
theorem appSrc_make {n:Nat} (hn:n≤1048576) {objs:List Ob}:appSrc Et ty9 3 (.d (.int .i64 (n:Nat))) objs=some (1,List.replicate n (.str [])):=by
 have h1:Nat.ble n 1048576=true:=Nat.ble_eq_true_of_le hn
 have h2:Nat.ble (n*ty9.bytes) 1099511627776=true:=Nat.ble_eq_true_of_le (Nat.le_trans (Nat.mul_le_mul hn (show ty9.bytes≤16 from Nat.le_refl _)) (by decide))
 have h3:(decide (0≤((n:Nat):Int)) && Nat.ble ((n:Nat):Int).toNat 1048576 && Nat.ble (((n:Nat):Int).toNat*ty9.bytes) 1099511627776 && (isAggT ty9.desc || Nat.beq ty9.size 1))=true:=by
  rw [Int.toNat_natCast,h1,h2];simp;exact .inr rfl
 show(match decide (0≤((n:Nat):Int)) && Nat.ble ((n:Nat):Int).toNat 1048576 && Nat.ble (((n:Nat):Int).toNat*ty9.bytes) 1099511627776 && (isAggT ty9.desc || Nat.beq ty9.size 1) with
  |true=>some (ty9.size,List.replicate ((n:Nat):Int).toNat (zeroE ty9))
  |false=>none)=_
 rw [h3];rfl
theorem cloneA (l:List (List Nat)) (hl:l.length≤1048576):ACall Tryz.prog 72 [.d (strs l)] [] (.sr 0 1 ([]++l.map DV.str)) [.room (([]:List DV).length+(l.map DV.str).length) 1]:=by
 refine acall_of_run Yo (fnAt Tryz.func72 (by kernel_rfl) (by kernel_rfl):FnAt _ _ (mkFn Tryz.f72 [])) rfl rfl ?_
 repeat refine zG [] ?_
 iterate 1 refine zX [] ?_
 repeat refine zG [] ?_
 iterate 1 refine zX [] ?_
 refine oNil Yo (fun hnil=>?_) ?_
 ·have hl0:l=[]:=by simpa using hnil
  subst hl0
  repeat refine zG [] ?_
  iterate 1 refine zX [] ?_
  repeat refine zG [] ?_
  refine Run.mkRoom 2 1 [(2,.sr 0 1 [])] rfl (ofList_cases (by intro p hp;simp at hp;subst hp;exact .inl ⟨rfl,rfl⟩)) ?_
  refine Yt ?_
  exact⟨trivial,rfl,rfl⟩
 ·repeat refine zG [] ?_
  iterate 2 refine zX [] ?_
  refine oX (frz:=[]) Yo ?_ (hv:=app1) (hf:=rfl) (he:=rfl)
  iterate 1 refine zX [] ?_
  repeat refine zG [] ?_
  refine Yt ?_
  exact⟨trivial,rfl,rfl⟩
theorem grow0:ACall Tryz.prog 236 [.d .nilsl,.d (.int .i64 (0:Nat))] [] (.sr 0 1 []) [.room 0 1]:=by
 refine nil_room ?_
 refine acall_of_run Yo (fnAt Tryz.func236 (by kernel_rfl) (by kernel_rfl):FnAt _ _ (mkFn Tryz.f236 [])) rfl rfl ?_
 repeat refine zG [] ?_
 iterate 1 refine zX [] ?_
 repeat refine zG [] ?_
 iterate 1 refine zX [] ?_
 first|refine oX (frz:=[]) (v:=.d (.bool false)) Yo ?_ (he:=(vF8 (by decide)))|refine eX (v:=.d (.bool false)) ?_ (he:=(vF8 (by decide)))
 repeat refine zG [] ?_
 iterate 5 refine zX [] ?_
 first|refine oX (frz:=[]) (v:=.d (.int .i64 0)) Yo ?_ (he:=(rfl))|refine eX (v:=.d (.int .i64 0)) ?_ (he:=(rfl))
 first|refine oX (frz:=[]) (v:=.d (.int .i64 (0:Nat))) Yo ?_ (he:=(rfl))|refine eX (v:=.d (.int .i64 (0:Nat))) ?_ (he:=(rfl))
 iterate 1 refine zX [] ?_
 repeat refine zG [] ?_
 iterate 1 refine zX [] ?_
 first|refine oX (frz:=[]) (v:=.d (.bool false)) Yo ?_ (he:=(vF8 (by decide)))|refine eX (v:=.d (.bool false)) ?_ (he:=(vF8 (by decide)))
 repeat refine zG [] ?_
 iterate 2 refine zX [] ?_
 repeat refine zG [] ?_
 refine Yt ?_
 exact⟨trivial,rfl,rfl⟩
theorem growN (n:Nat) (h0:0<n) (hn:n≤1048576):∃ m cs,ACall Tryz.prog 236 [.d .nilsl,.d (.int .i64 (n:Nat))] [] (.vs 0 1 0 0) [.vec 9 false 1 m cs]:=by
 refine⟨(List.replicate n (DV.str [])).length,(flatD (List.replicate n (.str []))).map .d,?_⟩
 refine acall_of_run Yo (fnAt Tryz.func236 (by kernel_rfl) (by kernel_rfl):FnAt _ _ (mkFn Tryz.f236 [65558,200000])) rfl rfl ?_
 repeat refine zG [65558,200000] ?_
 iterate 1 refine zX [65558,200000] ?_
 repeat refine zG [65558,200000] ?_
 iterate 1 refine zX [65558,200000] ?_
 first|refine oX (frz:=[65558,200000]) (v:=.d (.bool false)) Yo ?_ (he:=(vF8 (by omega)))|refine eX (v:=.d (.bool false)) ?_ (he:=(vF8 (by omega)))
 repeat refine zG [65558,200000] ?_
 iterate 5 refine zX [65558,200000] ?_
 first|refine oX (frz:=[65558,200000]) (v:=.d (.int .i64 0)) Yo ?_ (he:=(rfl))|refine eX (v:=.d (.int .i64 0)) ?_ (he:=(rfl))
 first|refine oX (frz:=[65558,200000]) (v:=.d (.int .i64 (n:Nat))) Yo ?_ (he:=(vN8 (by omega) (by omega)))|refine eX (v:=.d (.int .i64 (n:Nat))) ?_ (he:=(vN8 (by omega) (by omega)))
 iterate 1 refine zX [65558,200000] ?_
 repeat refine zG [65558,200000] ?_
 iterate 1 refine zX [65558,200000] ?_
 first|refine oX (frz:=[65558,200000]) (v:=.d (.bool true)) Yo ?_ (he:=(vT8 (by omega)))|refine eX (v:=.d (.bool true)) ?_ (he:=(vT8 (by omega)))
 repeat refine zG [65558,200000] ?_
 iterate 5 refine zX [65558,200000] ?_
 refine oX (frz:=[65558,200000]) Yo ?_ (hv:=appV (ys:=List.replicate n (.str [])) (by rw [List.length_replicate]<;>omega) (h4:=by exact appSrc_make hn)) (hf:=rfl) (he:=rfl)
 iterate 2 refine zX [65558,200000] ?_
 refine oX (frz:=[65558,200000]) Yo ?_ (hf:=by simp [cutC])
 iterate 1 refine zX [65558,200000] ?_
 repeat refine zG [65558,200000] ?_
 iterate 2 refine zX [65558,200000] ?_
 repeat refine zG [65558,200000] ?_
 refine Yt ?_
 exact⟨trivial,rfl,rfl⟩
theorem growR (n:Nat) (hn:n≤1048576):ACall Tryz.prog 236 [.d .nilsl,.d (.int .i64 (n:Nat))] [] (.sr 0 1 []) [.room 0 1]:=by
 rcases Nat.eq_zero_or_pos n with h0|h0
 ·subst h0;exact grow0
 ·obtain⟨m,cs,h⟩:=growN n h0 hn
  exact vec_room h
def lensTo (l:List (List (List Nat))) (i:Nat):Nat:=(l.take i).flatten.length
theorem lensTo_succ {l:List (List (List Nat))} {i:Nat} {a:List (List Nat)} (h:l[i]?=some a):lensTo l (i+1)=lensTo l i+a.length:=by
 simp [lensTo,List.take_add_one,h]
theorem lensTo_le (l:List (List (List Nat))) (i:Nat):lensTo l i≤l.flatten.length:=by
 unfold lensTo
 conv=>rhs;rw [← List.take_append_drop i l,List.flatten_append,List.length_append]
 omega
theorem concat (l:List (List (List Nat))) (hl:l.length≤1099511627776) (ht:l.flatten.length≤1048576):KnownCall Tryz.prog 200 [alts l] (.d (strs l.flatten)):=by
 refine knownE Yo (fnAt Tryz.func200 (by kernel_rfl) (by kernel_rfl):FnAt _ _ (mkFn Tryz.f200 [])) ?_
 repeat' (first|refine zW [] ?_|((refine zB [] (fun h=>?_) (fun h=>?_))<;>(first|exact zk h|skip))|refine zX [] ?_|(refine zE ?_;(skip))|fail)
 refine Run.loop (fun i:Nat=>⟨PT.ofList [(0,.d (alts l)),(3,.d (.int .i64 (lensTo l i:Nat))),(9,.d (alts l)),(10,.d (.int .i64 (l.map strs).length)),(11,.d (.int .i64 i))],[],[]⟩) (fun i=>i≤l.length) (fun i=>l.length-i) 0 (Nat.zero_le _) (weak_of (by repeat' (first|exact trivial|refine⟨rfl,?_⟩))) (fun i hi=>?_)
 rcases Nat.lt_or_ge i l.length with hlt|hge
 ·obtain⟨a,ha⟩:=get_ok hlt
  have h1:=lensTo_le l (i+1)
  have h2:=lensTo_succ ha
  repeat refine zG [] ?_
  first|refine oX (frz:=[]) (v:=.d (.bool true)) Yo ?_ (he:=(vT8 (by simp<;>omega)))|refine eX (v:=.d (.bool true)) ?_ (he:=(vT8 (by simp<;>omega)))
  repeat refine zG [] ?_
  refine oX (frz:=[]) (v:=.d (.ep [strs a])) Yo ?_ (hf:=by simp [inB]<;>omega) (he:=by simp [List.getD_eq_getElem?_getD,cellsD,ha])
  iterate 2 refine zX [] ?_
  repeat refine zG [] ?_
  iterate 3 refine zX [] ?_
  first|refine oX (frz:=[]) (v:=.d (.int .i64 (lensTo l (i+1):Nat))) Yo ?_ (he:=(vN8 (by rw [h2];simp) (by omega)))|refine eX (v:=.d (.int .i64 (lensTo l (i+1):Nat))) ?_ (he:=(vN8 (by rw [h2];simp) (by omega)))
  iterate 1 refine zX [] ?_
  repeat refine zG [] ?_
  iterate 1 refine zX [] ?_
  first|refine oX (frz:=[]) (v:=.d (.bool false)) Yo ?_ (he:=(vF8 (by omega)))|refine eX (v:=.d (.bool false)) ?_ (he:=(vF8 (by omega)))
  repeat refine zG [] ?_
  first|refine oX (frz:=[]) (v:=.d (.int .i64 (i+1:Nat))) Yo ?_ (he:=(vN8 (by omega) (by omega)))|refine eX (v:=.d (.int .i64 (i+1:Nat))) ?_ (he:=(vN8 (by omega) (by omega)))
  iterate 1 refine zX [] ?_
  repeat refine zG [] ?_
  exact⟨i+1,hlt,by omega,weak_of (by repeat' (first|exact trivial|refine⟨rfl,?_⟩))⟩
 ·have hie:i=l.length:=by omega
  have hsum:lensTo l i=l.flatten.length:=by unfold lensTo;rw [hie,List.take_length]
  rw [hsum]
  subst hie
  repeat refine zG [] ?_
  first|refine oX (frz:=[]) (v:=.d (.bool false)) Yo ?_ (he:=(vF8 (by simp)))|refine eX (v:=.d (.bool false)) ?_ (he:=(vF8 (by simp)))
  repeat refine zG [] ?_
  iterate 1 refine zX [] ?_
  refine oA (growR _ ht) ?_
  iterate 1 refine zX [] ?_
  repeat refine zG [] ?_
  iterate 3 refine zX [] ?_
  repeat refine zG [] ?_
  refine Run.loop (fun y:Nat × List DV=>⟨PT.ofList [(6,.sr 0 1 y.2),(25,.d (alts l)),(26,.d (.int .i64 (l.map strs).length)),(27,.d (.int .i64 y.1))],[.room y.2.length 1],[]⟩) (fun y=>y.1≤l.length∧y.2=(l.take y.1).flatten.map DV.str) (fun y=>l.length-y.1) (0,[]) ⟨Nat.zero_le _,rfl⟩ (weak_of (by repeat' (first|exact trivial|refine⟨rfl,?_⟩))) (fun y hy=>?_)
  obtain⟨i,acc⟩:=y
  obtain⟨hi1,hi2⟩:=hy
  simp only at hi1 hi2 ⊢
  rcases Nat.lt_or_ge i l.length with hlt|hge
  ·obtain⟨a,ha⟩:=get_ok hlt
   have h1:=lensTo_le l (i+1)
   have h2:=lensTo_succ ha
   have hal:acc.length=lensTo l i:=by rw [hi2,List.length_map];rfl
   have hnext:acc++a.map DV.str=(l.take (i+1)).flatten.map DV.str:=by rw [List.take_add_one,ha,hi2];simp
   repeat refine zG [] ?_
   first|refine oX (frz:=[]) (v:=.d (.bool true)) Yo ?_ (he:=(vT8 (by simp<;>omega)))|refine eX (v:=.d (.bool true)) ?_ (he:=(vT8 (by simp<;>omega)))
   repeat refine zG [] ?_
   refine oX (frz:=[]) (v:=.d (.ep [strs a])) Yo ?_ (hf:=by simp [inB]<;>omega) (he:=by simp [List.getD_eq_getElem?_getD,cellsD,ha])
   iterate 2 refine zX [] ?_
   repeat refine zG [] ?_
   iterate 2 refine zX [] ?_
   refine oX (frz:=[]) Yo ?_ (hv:=app1 (hlen:=by simp<;>omega)) (hf:=rfl) (he:=rfl)
   iterate 1 refine zX [] ?_
   repeat refine zG [] ?_
   first|refine oX (frz:=[]) (v:=.d (.int .i64 (i+1:Nat))) Yo ?_ (he:=(vN8 (by omega) (by omega)))|refine eX (v:=.d (.int .i64 (i+1:Nat))) ?_ (he:=(vN8 (by omega) (by omega)))
   iterate 1 refine zX [] ?_
   repeat refine zG [] ?_
   exact⟨(i+1,acc++a.map DV.str),⟨hlt,hnext⟩,by simp only<;>omega,weak_of' (by show [Ob.room (acc++a.map DV.str).length 1]=[Ob.room (acc.length+(a.map DV.str).length) 1]<;>rw [List.length_append]) rfl (by repeat' (first|exact trivial|refine⟨rfl,?_⟩))⟩
  ·have hie:i=l.length:=by omega
   have he:l.flatten.map DV.str=acc:=by rw [hi2,hie,List.take_length]
   rw [show strs l.flatten=.sl 1 (l.flatten.map DV.str) from rfl,he]
   subst hie
   repeat refine zG [] ?_
   first|refine oX (frz:=[]) (v:=.d (.bool false)) Yo ?_ (he:=(vF8 (by simp)))|refine eX (v:=.d (.bool false)) ?_ (he:=(vF8 (by simp)))
   repeat' (first|refine zW [] ?_|((refine zB [] (fun h=>?_) (fun h=>?_))<;>(first|exact zk h|skip))|refine zX [] ?_|(refine zE ?_;(rfl))|fail)
end Go.Av
end
noncomputable section
namespace Go.Av
open Go Go.Proofs
set_option maxRecDepth 10000
def innerX (x:Src):List (List Nat):=x.rules.flatMap (fun r=>r.alts.flatten)
def innerTo (x:Src) (i:Nat):List (List Nat):=(x.rules.take i).flatMap (fun r=>r.alts.flatten)
theorem innerTo_succ {x:Src} {i:Nat} {r:SRule} (h:x.rules[i]?=some r):innerTo x (i+1)=innerTo x i++r.alts.flatten:=by
 simp [innerTo,List.take_add_one,h]
theorem innerTo_le (x:Src) (i:Nat):(innerTo x i).length≤(innerX x).length:=by
 unfold innerTo innerX
 conv=>rhs;rw [← List.take_append_drop i x.rules,List.flatMap_append,List.length_append]
 omega
theorem inner (x:Src) (hf:FitsX x) (ht:(innerX x).length≤1048576):KnownCall Tryz.prog 116 [encX x] (.d (strs (innerX x))):=by
 have hrl:=hf.rules
 refine knownE Yo (fnAt Tryz.func116 (by kernel_rfl) (by kernel_rfl):FnAt _ _ (mkFn Tryz.f116 [1])) ?_
 repeat refine zG [1] ?_
 iterate 2 refine zX [1] ?_
 repeat refine zG [1] ?_
 iterate 1 refine zX [1] ?_
 refine RunOps.nilRow 3 1 [(1,cellX x),(3,.d (.sl 1 []))] (by rfl) (by refine ofList_cases ?_;intro p hp;rcases List.mem_cons.1 hp with rfl|hp;right;dsimp only;rfl;rcases List.mem_cons.1 hp with rfl|hp;exact .inl ⟨rfl,rfl⟩;cases hp) ?_
 repeat refine zG [1] ?_
 iterate 4 refine zX [1] ?_
 repeat refine zG [1] ?_
 refine Run.loopT (fun i:Nat=>⟨PT.ofList [(3,.d (strs (innerTo x i))),(7,.d (.sl 2 (x.rules.map encR))),(8,.d (.int .i64 (x.rules.map encR).length)),(9,.d (.int .i64 i))],[],[]⟩) (fun i=>i≤x.rules.length) (fun i=>x.rules.length-i) 0 (Nat.zero_le _) (tidy_of (objs:=_) _ 0 (by rfl) rfl (by repeat' (first|exact trivial|refine⟨(Or.inl rfl),?_⟩|refine⟨(Or.inr rfl),?_⟩|fail)) (by repeat' (first|exact trivial|refine⟨rfl,?_⟩|fail)) rfl rfl) (fun i hi=>?_)
 rcases Nat.lt_or_ge i x.rules.length with hlt|hge
 ·obtain⟨r,hr⟩:=get_ok hlt
  have hra:=hf.alts r (List.mem_of_getElem? hr)
  have h1:=innerTo_le x (i+1)
  have h2:=innerTo_succ hr
  have hfl:(innerTo x i :: r.alts).flatten=innerTo x (i+1):=by rw [h2];rfl
  have hc:=concat (innerTo x i :: r.alts) (by simp;omega) (by rw [hfl];omega)
  rw [hfl] at hc
  repeat' (first|refine zW [1] ?_|((refine zB [1] (fun h=>?_) (fun h=>?_))<;>(first|exact zk h|skip))|refine zX [1] ?_|refine oX (frz:=[1]) (v:=.d (.ep [.str r.name,alts r.alts])) Yo ?_ (hf:=(by first|(simp [inB]<;>fail)|(simp [inB];omega))) (he:=(by first|(simp [List.getD_eq_getElem?_getD,cellsD,hr,encR]<;>fail)|fail))|refine eX (v:=.d (.ep [.str r.name,alts r.alts])) ?_ (hf:=(by first|(simp [inB]<;>fail)|(simp [inB];omega))) (he:=(by first|(simp [List.getD_eq_getElem?_getD,cellsD,hr,encR]<;>fail)|fail))|refine zM (hc) ?_|refine oX (frz:=[1]) Yo ?_ (hv:=app1) (hf:=rfl) (he:=rfl)|refine eX ?_ (hv:=app1) (hf:=rfl) (he:=rfl)|refine oX (frz:=[1]) Yo ?_ (hv:=app0) (hf:=rfl) (he:=rfl)|refine eX ?_ (hv:=app0) (hf:=rfl) (he:=rfl)|(refine zE ?_;(skip))|(exact⟨i+1,hlt,by omega,(tidy_of (objs:=_) _ 0 (by rfl) rfl (by repeat' (first|exact trivial|refine⟨(Or.inl rfl),?_⟩|refine⟨(Or.inl (inc_get (k:=i) (by kernel_rfl) (by omega))),?_⟩|refine⟨(Or.inr rfl),?_⟩|fail)) (by repeat' (first|exact trivial|refine⟨rfl,?_⟩|fail)) rfl rfl)⟩)|((exfalso;(simp at h<;>omega)))|fail)
 ·have hie:i=x.rules.length:=by omega
  have he:innerTo x i=innerX x:=by rw [hie];simp [innerTo,innerX]
  rw [he]
  subst hie
  repeat' (first|refine zW [1] ?_|((refine zB [1] (fun h=>?_) (fun h=>?_))<;>(first|exact zk h|skip))|refine zX [1] ?_|(refine zE ?_;(rfl))|((exfalso;(simp at h<;>omega)))|fail)
theorem chk1 (r:SRule):KnownCall Tryz.prog 118 [encR r] (.d (.bool r.alts.isEmpty)):=by
 refine knownE Yo (fnAt Tryz.func118 (by kernel_rfl) (by kernel_rfl):FnAt _ _ (mkFn Tryz.f118 [1])) ?_
 cases ha:r.alts with
 |nil =>
  rw [show encR r=.agg [.str r.name,alts []] from by rw [encR,ha]]
  repeat' (first|refine zW [1] ?_|((refine zB [1] (fun h=>?_) (fun h=>?_))<;>(first|exact zk h|skip))|refine zX [1] ?_|(refine zE ?_;(rfl))|((exfalso;(simp at h<;>omega)))|fail)
 |cons a l =>
  rw [show encR r=.agg [.str r.name,alts (a :: l)] from by rw [encR,ha]]
  repeat' (first|refine zW [1] ?_|((refine zB [1] (fun h=>?_) (fun h=>?_))<;>(first|exact zk h|skip))|refine zX [1] ?_|(refine zE ?_;(rfl))|((exfalso;(simp at h<;>omega)))|fail)
def mayF (s:List Nat):Bool:=smallF s || capitalF s
theorem chk2 (s:List Nat) (hl:s.length≤1099511627776):KnownCall Tryz.prog 123 [.str s] (.d (.bool (mayF s))):=by
 have c1:=small s hl
 have c2:=capital s hl
 unfold mayF
 generalize smallF s=b1 at c1 ⊢
 generalize capitalF s=b2 at c2 ⊢
 cases b1 with
 |true =>
  refine knownE Yo (fnAt Tryz.func123 (by kernel_rfl) (by kernel_rfl):FnAt _ _ (mkFn Tryz.f123 [])) ?_
  repeat' (first|refine zW [] ?_|((refine zB [] (fun h=>?_) (fun h=>?_))<;>(first|exact zk h|skip))|refine zX [] ?_|refine zC (c1) ?_|refine zC (c2) ?_|(refine zE ?_;(rfl))|((exfalso;(simp at h<;>omega)))|fail)
 |false =>
  refine knownE Yo (fnAt Tryz.func123 (by kernel_rfl) (by kernel_rfl):FnAt _ _ (mkFn Tryz.f123 [])) ?_
  repeat' (first|refine zW [] ?_|((refine zB [] (fun h=>?_) (fun h=>?_))<;>(first|exact zk h|skip))|refine zX [] ?_|refine zC (c1) ?_|refine zC (c2) ?_|(refine zE ?_;(rfl))|((exfalso;(simp at h<;>omega)))|fail)
theorem all1 (s:List Nat) (F:FuncId) (caps:List DV) (b:Bool) (hp:KnownCall Tryz.prog F (.str s :: caps) (.d (.bool b))):KnownCall Tryz.prog 203 [.str s,.ep [.fn (.func F) [] caps]] (.d (.bool (!b))):=by
 cases b with
 |true =>
  refine knownE Yo (fnAt Tryz.func203 (by kernel_rfl) (by kernel_rfl):FnAt _ _ (mkFn Tryz.f203 [])) ?_
  repeat' (first|refine zW [] ?_|((refine zB [] (fun h=>?_) (fun h=>?_))<;>(first|exact zk h|skip))|refine zX [] ?_|refine zC (hp) ?_|(refine zE ?_;(rfl))|((exfalso;(simp at h<;>omega)))|fail)
 |false =>
  refine knownE Yo (fnAt Tryz.func203 (by kernel_rfl) (by kernel_rfl):FnAt _ _ (mkFn Tryz.f203 [])) ?_
  repeat' (first|refine zW [] ?_|((refine zB [] (fun h=>?_) (fun h=>?_))<;>(first|exact zk h|skip))|refine zX [] ?_|refine zC (hp) ?_|(refine zE ?_;(rfl))|((exfalso;(simp at h<;>omega)))|fail)
theorem allS (l:List (List Nat)) (hl:l.length≤1099511627776) (F:FuncId) (caps:List DV) (p:List Nat→Bool) (hp:∀ s ∈ l,KnownCall Tryz.prog F (.str s :: caps) (.d (.bool (p s)))) :
  KnownCall Tryz.prog 120 [strs l,.fn (.func F) [] caps] (.d (.bool (l.all p))):=by
 have hc:=containsFuncStrs l hl 203 [.ep [.fn (.func F) [] caps]] (fun s=>!p s) (fun s hs=>all1 s F caps (p s) (hp s hs))
 have e:l.all p=!(l.any fun s=>!p s):=by rw [List.all_eq_not_any_not]
 rw [e]
 generalize (l.any fun s=>!p s)=b at hc ⊢
 cases b with
 |true =>
  refine knownE Yo (fnAt Tryz.func120 (by kernel_rfl) (by kernel_rfl):FnAt _ _ (mkFn Tryz.f120 [3])) ?_
  repeat' (first|refine zW [3] ?_|((refine zB [3] (fun h=>?_) (fun h=>?_))<;>(first|exact zk h|skip))|refine zX [3] ?_|refine zC (hc) ?_|(refine zE ?_;(rfl))|((exfalso;(simp at h<;>omega)))|fail)
 |false =>
  refine knownE Yo (fnAt Tryz.func120 (by kernel_rfl) (by kernel_rfl):FnAt _ _ (mkFn Tryz.f120 [3])) ?_
  repeat' (first|refine zW [3] ?_|((refine zB [3] (fun h=>?_) (fun h=>?_))<;>(first|exact zk h|skip))|refine zX [3] ?_|refine zC (hc) ?_|(refine zE ?_;(rfl))|((exfalso;(simp at h<;>omega)))|fail)
theorem indexFuncSA (l:List (List Nat)) (hl:l.length≤1099511627776) (F:FuncId) (caps:List AV) (objs:List Ob) (p:List Nat→Bool) (hp:∀ x ∈ l,ACall Tryz.prog F (.d (.str x) :: caps) objs (.d (.bool (p x))) objs) :
  ACall Tryz.prog 237 [.d (strs l),.fn (.func F) [] caps] objs (.d (.int .i64 (idxP l p))) objs:=by
 refine acall_of_run Yo (fnAt Tryz.func237 (by kernel_rfl) (by kernel_rfl):FnAt _ _ (mkFn Tryz.f237 [])) rfl rfl ?_
 repeat' (first|refine zW [] ?_|((refine zB [] (fun h=>?_) (fun h=>?_))<;>(first|exact zk h|skip))|refine zX [] ?_|(refine zE ?_;(skip))|fail)
 refine Run.loop (fun i:Nat=>⟨PT.ofList [(0,.d (strs l)),(1,.fn (.func F) [] caps),(7,.d (.int .i64 l.length)),(8,.d (.int .i64 i))],objs,[]⟩) (fun i=>i≤l.length∧∀ j,j<i→∀ y,l[j]?=some y→p y=false) (fun i=>l.length-i) 0 ⟨Nat.zero_le _,fun j hj=>by omega⟩ (weak_of (by repeat' (first|exact trivial|refine⟨rfl,?_⟩|refine⟨Eq.trans (b:=some (.d (.int .i64 (l.map _).length))) rfl (by rw [List.length_map]),?_⟩|fail))) (fun i hi=>?_)
 obtain⟨hi1,hi2⟩:=hi
 rcases Nat.lt_or_ge i l.length with hlt|hge
 ·obtain⟨x,hx⟩:=get_ok hlt
  have hc:=hp x (List.mem_of_getElem? hx)
  cases hpx:p x with
  |true =>
   rw [hpx] at hc
   repeat' (first|refine zW [] ?_|((refine zB [] (fun h=>?_) (fun h=>?_))<;>(first|exact zk h|skip))|refine zX [] ?_|refine oX (frz:=[]) (v:=.d (.ep [.str x])) Yo ?_ (hf:=(by first|(simp [inB]<;>fail)|(simp [inB];omega))) (he:=(by first|(simp [List.getD_eq_getElem?_getD,cellsD,hx]<;>fail)|fail))|refine eX (v:=.d (.ep [.str x])) ?_ (hf:=(by first|(simp [inB]<;>fail)|(simp [inB];omega))) (he:=(by first|(simp [List.getD_eq_getElem?_getD,cellsD,hx]<;>fail)|fail))|refine RunOps.call (by rfl) (by rfl) hc (by rfl) (by rfl) ?_|(refine zE ?_;(skip))|fail)
   refine Yt ?_
   refine⟨trivial,rfl,?_⟩
   rw [idxP_at hx hpx hi2];rfl
  |false =>
   rw [hpx] at hc
   repeat' (first|refine zW [] ?_|((refine zB [] (fun h=>?_) (fun h=>?_))<;>(first|exact zk h|skip))|refine zX [] ?_|refine oX (frz:=[]) (v:=.d (.ep [.str x])) Yo ?_ (hf:=(by first|(simp [inB]<;>fail)|(simp [inB];omega))) (he:=(by first|(simp [List.getD_eq_getElem?_getD,cellsD,hx]<;>fail)|fail))|refine eX (v:=.d (.ep [.str x])) ?_ (hf:=(by first|(simp [inB]<;>fail)|(simp [inB];omega))) (he:=(by first|(simp [List.getD_eq_getElem?_getD,cellsD,hx]<;>fail)|fail))|refine RunOps.call (by rfl) (by rfl) hc (by rfl) (by rfl) ?_|(refine zE ?_;(skip))|(exact⟨i+1,⟨by omega,all_succ hi2 (fun q hq=>by rw [hx] at hq;cases hq;exact hpx)⟩,by omega,weak_of (by repeat' (first|exact trivial|refine⟨rfl,?_⟩|refine⟨(inc_get (k:=i) (by kernel_rfl) (by omega)),?_⟩))⟩)|fail)
 ·have hge:i=l.length:=by omega
  repeat' (first|refine zW [] ?_|((refine zB [] (fun h=>?_) (fun h=>?_))<;>(first|exact zk h|skip))|refine zX [] ?_|(refine zE ?_;(skip))|fail)
  refine Yt ?_
  refine⟨trivial,rfl,?_⟩
  rw [idxP_none (fun j hj=>hi2 j (by omega))];rfl
theorem containsFuncSA (l:List (List Nat)) (hl:l.length≤1099511627776) (F:FuncId) (caps:List AV) (objs:List Ob) (p:List Nat→Bool) (hp:∀ x ∈ l,ACall Tryz.prog F (.d (.str x) :: caps) objs (.d (.bool (p x))) objs) :
  ACall Tryz.prog 202 [.d (strs l),.fn (.func F) [] caps] objs (.d (.bool (l.any p))) objs:=by
 refine acall_of_run Yo (fnAt Tryz.func202 (by kernel_rfl) (by kernel_rfl):FnAt _ _ (mkFn Tryz.f202 [])) rfl rfl ?_
 repeat refine zA [] ?_
 refine RunOps.call (by rfl) (by rfl) (indexFuncSA l hl F caps objs p hp) (by rfl) (by rfl) ?_
 repeat refine zA [] ?_
 refine Yt ?_
 refine⟨trivial,rfl,Eq.trans (b:=some (.d (.bool (decide (idxP l p ≥ 0))))) (by kernel_rfl) ?_⟩
 rw [show decide (idxP l p ≥ 0)=l.any p from idxP_any l p]
def knowF (x:Src) (rn:List (List Nat)) (s:List Nat):Bool:=decide (s ∈ x.tokens) || decide (s ∈ rn)
theorem chk3 (x:Src) (rn:List (List Nat)) (O:Ob) (B:List Ob) (s:List Nat) (hf:FitsX x) (hrn:rn.length≤1099511627776) :
  ACall Tryz.prog 126 [.d (.str s),cellX x,.bp 1 0] (O :: .box [.d (strs rn)] :: B) (.d (.bool (knowF x rn s))) (O :: .box [.d (strs rn)] :: B):=by
 have c1:=contains x.tokens s (Nat.le_trans hf.tokens (by decide))
 have c2:=contains rn s hrn
 unfold knowF
 generalize decide (s ∈ x.tokens)=b1 at c1 ⊢
 generalize decide (s ∈ rn)=b2 at c2 ⊢
 cases b1 with
 |true =>
  refine acall_of_run Yo (fnAt Tryz.func126 (by kernel_rfl) (by kernel_rfl):FnAt _ _ (mkFn Tryz.f126 [])) rfl rfl ?_
  repeat' (first|refine zW [] ?_|((refine zB [] (fun h=>?_) (fun h=>?_))<;>(first|exact zk h|skip))|refine zX [] ?_|refine zC (c1) ?_|refine zC (c2) ?_|(refine zE ?_;(skip))|fail)
  refine Yt ?_
  exact⟨trivial,rfl,rfl⟩
 |false =>
  refine acall_of_run Yo (fnAt Tryz.func126 (by kernel_rfl) (by kernel_rfl):FnAt _ _ (mkFn Tryz.f126 [])) rfl rfl ?_
  repeat' (first|refine zW [] ?_|((refine zB [] (fun h=>?_) (fun h=>?_))<;>(first|exact zk h|skip))|refine zX [] ?_|refine zC (c1) ?_|refine zC (c2) ?_|(refine zE ?_;(skip))|fail)
  refine Yt ?_
  exact⟨trivial,rfl,rfl⟩
theorem all1A (F:FuncId) (caps:List AV) (O P:Ob) (s:List Nat) (b:Bool) (hp:ACall Tryz.prog F (.d (.str s) :: caps) [O,P,.box [.fn (.func F) [] caps]] (.d (.bool b)) [O,P,.box [.fn (.func F) [] caps]]) :
  ACall Tryz.prog 203 [.d (.str s),.bp 2 0] [O,P,.box [.fn (.func F) [] caps]] (.d (.bool (!b))) [O,P,.box [.fn (.func F) [] caps]]:=by
 cases b with
 |true =>
  refine acall_of_run Yo (fnAt Tryz.func203 (by kernel_rfl) (by kernel_rfl):FnAt _ _ (mkFn Tryz.f203 [])) rfl rfl ?_
  repeat' (first|refine zW [] ?_|((refine zB [] (fun h=>?_) (fun h=>?_))<;>(first|exact zk h|skip))|refine zX [] ?_|refine RunOps.call (by rfl) (by rfl) hp (by rfl) (by rfl) ?_|(refine zE ?_;(skip))|fail)
  refine Yt ?_
  exact⟨trivial,rfl,rfl⟩
 |false =>
  refine acall_of_run Yo (fnAt Tryz.func203 (by kernel_rfl) (by kernel_rfl):FnAt _ _ (mkFn Tryz.f203 [])) rfl rfl ?_
  repeat' (first|refine zW [] ?_|((refine zB [] (fun h=>?_) (fun h=>?_))<;>(first|exact zk h|skip))|refine zX [] ?_|refine RunOps.call (by rfl) (by rfl) hp (by rfl) (by rfl) ?_|(refine zE ?_;(skip))|fail)
  refine Yt ?_
  exact⟨trivial,rfl,rfl⟩
theorem allA (l:List (List Nat)) (hl:l.length≤1099511627776) (F:FuncId) (caps:List AV) (O P:Ob) (p:List Nat→Bool) (hp:∀ x ∈ l,ACall Tryz.prog F (.d (.str x) :: caps) [O,P,.box [.fn (.func F) [] caps]] (.d (.bool (p x))) [O,P,.box [.fn (.func F) [] caps]]) :
  ACall Tryz.prog 120 [.d (strs l),.fn (.func F) [] caps] [O,P] (.d (.bool (l.all p))) [O,P,.box [.fn (.func F) [] caps]]:=by
 have hc:=containsFuncSA l hl 203 [.bp 2 0] [O,P,.box [.fn (.func F) [] caps]] (fun s=>!p s) (fun s hs=>all1A F caps O P s (p s) (hp s hs))
 have e:l.all p=!(l.any fun s=>!p s):=by rw [List.all_eq_not_any_not]
 rw [e]
 generalize (l.any fun s=>!p s)=b at hc ⊢
 cases b with
 |true =>
  refine acall_of_run Yo (fnAt Tryz.func120 (by kernel_rfl) (by kernel_rfl):FnAt _ _ (mkFn Tryz.f120 [])) rfl rfl ?_
  repeat' (first|refine zW [] ?_|((refine zB [] (fun h=>?_) (fun h=>?_))<;>(first|exact zk h|skip))|refine zX [] ?_|refine RunOps.call (by rfl) (by rfl) hc (by rfl) (by rfl) ?_|(refine zE ?_;(skip))|fail)
  refine Yt ?_
  exact⟨trivial,rfl,rfl⟩
 |false =>
  refine acall_of_run Yo (fnAt Tryz.func120 (by kernel_rfl) (by kernel_rfl):FnAt _ _ (mkFn Tryz.f120 [])) rfl rfl ?_
  repeat' (first|refine zW [] ?_|((refine zB [] (fun h=>?_) (fun h=>?_))<;>(first|exact zk h|skip))|refine zX [] ?_|refine RunOps.call (by rfl) (by rfl) hc (by rfl) (by rfl) ?_|(refine zE ?_;(skip))|fail)
  refine Yt ?_
  exact⟨trivial,rfl,rfl⟩
end Go.Av
end
noncomputable section
namespace Go.Av
open Go Go.Proofs
structure Lx where
 k:Nat
 t:List Nat
 a:Nat
abbrev Fa:=Nat × Nat
abbrev sSemi:List Nat:=[59]
abbrev sComma:List Nat:=[44]
abbrev sEq:List Nat:=[61]
abbrev sBar:List Nat:=[124]
abbrev lx0:Lx:=⟨0,[],0⟩
abbrev src0:Src:=⟨0,[],[],[],[]⟩
def decF (t:List Nat):Nat:=t.foldl (fun n c=>10*n+(c-48)) 0
def numOk (t:List Nat):Bool:=decide (1≤decF t∧decF t≤4)
def isL (t:List Nat):List Lx→Bool
 |x :: _=>decide (x.k=3∧x.t=t)
 |[]=>false
structure RS where
 pos:Nat
 f:Fa
 alts:Nat
 x:Src
def failR (e a:Nat) (r:RS):RS:=if r.f.1=0 then { r with f:=(e,a) } else r
section
variable (s:List Nat) (ls:List Lx)
def peekR (r:RS):Lx × RS:=match ls[r.pos]? with
 |some x=>(x,r)
 |none=>(lx0,failR 5 s.length r)
def takeR (r:RS):Lx × RS:=((peekR s ls r).1,{ (peekR s ls r).2 with pos:=(peekR s ls r).2.pos+1 })
def mustX (k:Nat) (t:List Nat) (p:Lx × RS):RS:=if p.2.f.1=0∧¬ (p.1.k=k∧p.1.t=t) then failR 3 p.1.a p.2 else p.2
def mustR (k:Nat) (t:List Nat) (r:RS):RS:=mustX k t (takeR s ls r)
def nextQ (t:List Nat) (r:RS):Bool × RS:=if r.f.1=0∧isL t (ls.drop r.pos)=true then(true,{ r with pos:=r.pos+1 }) else(false,r)
def nameX (cap:Bool) (p:Lx × RS):List Nat × RS:=(p.1.t,if p.2.f.1≠0 then p.2 else if p.1.k≠1 then failR 3 p.1.a p.2 else if(if cap then capitalF p.1.t else smallF p.1.t)=true then p.2 else failR 12 p.1.a p.2)
def nameR (cap:Bool) (r:RS):List Nat × RS:=nameX cap (takeR s ls r)
def newR (l:List (List Nat)) (t:List Nat) (a:Nat) (r:RS):RS:=if hasF l t=true then failR 8 a r else r
def roomR (n w a:Nat) (r:RS):RS:=if n=w then failR 6 a r else r
def tokenR (r:RS):RS :=
 let p:=peekR s ls r
 let q:=nameR s ls false p.2
 let r2:=roomR q.2.x.tokens.length 8 p.1.a (newR q.2.x.tokens q.1 p.1.a q.2)
 { r2 with x:={ r2.x with tokens:=r2.x.tokens++[q.1] } }
def tokensR:Nat→RS→RS
 |0,r=>r
 |n+1,r=>if r.f.1=0 then(let q:=nextQ ls sComma (tokenR s ls r);if q.1=true then tokensR n q.2 else q.2) else r
def lookR (r:RS):RS :=
 let p:=takeR s ls (mustR s ls 1 wLook r)
 let r1:=if p.2.f.1=0∧p.1.k≠2 then failR 3 p.1.a p.2 else p.2
 let r2:=if r1.f.1=0 then(if numOk p.1.t=true then { r1 with x:={ r1.x with k:=(decF p.1.t:Nat) } } else { failR 2 p.1.a r1 with x:={ r1.x with k:=0 } }) else r1
 mustR s ls 3 sSemi r2
def sepR (r:RS):RS :=
 let p:=peekR s ls (mustR s ls 1 wSep r)
 let q:=nameR s ls false p.2
 let r1:={ q.2 with x:={ q.2.x with sep:=q.1 } }
 mustR s ls 3 sSemi (newR r1.x.tokens q.1 p.1.a r1)
def startR (r:RS):Lx × RS :=
 let p:=peekR s ls (mustR s ls 1 wStart r)
 let q:=nameR s ls true p.2
 (p.1,mustR s ls 3 sSemi { q.2 with x:={ q.2.x with start:=q.1 } })
def headR (r:RS):Lx × RS:=startR s ls (sepR s ls (mustR s ls 3 sSemi (tokensR s ls (ls.length+1) (mustR s ls 1 wToken (lookR s ls r)))))
def wordR (n:Nat) (p:Lx × RS):RS:=roomR n 6 p.1.a (if mayF p.1.t=true then p.2 else failR 12 p.1.a p.2)
def altR:Nat→List (List Nat)→RS→List (List Nat) × RS
 |0,acc,r=>(acc,r)
 |n+1,acc,r=>if r.f.1=0 then(let p:=peekR s ls r;if p.1.k=1 then(let q:=takeR s ls p.2;altR n (acc++[q.1.t]) (wordR acc.length q)) else(acc,p.2)) else(acc,r)
def countR (r:RS):RS:={ roomR r.alts 24 (ls.getD (r.pos-1) lx0).a r with alts:=r.alts+1 }
def oneAltR (r:RS):List (List Nat) × RS:=altR s ls (ls.length+1) [] (countR ls r)
def altsR:Nat→List (List (List Nat))→RS→List (List (List Nat)) × RS
 |0,acc,r=>(acc,r)
 |n+1,acc,r =>
  let p:=oneAltR s ls r
  let q:=nextQ ls sBar p.2
  if q.1=true then altsR n (acc++[p.1]) q.2 else(acc++[p.1],q.2)
def ruleR (r:RS):RS :=
 let p:=peekR s ls r
 let q:=nameR s ls true p.2
 let r1:=if q.2.f.1=0 then newR (ruleNames q.2.x) q.1 p.1.a q.2 else q.2
 let r2:=mustR s ls 3 sEq (roomR r1.x.rules.length 8 p.1.a r1)
 let v:=if r2.f.1=0 then altsR s ls (ls.length+1) [] r2 else([],r2)
 let r3:=mustR s ls 3 sSemi v.2
 { r3 with x:={ r3.x with rules:=r3.x.rules++[⟨q.1,v.1⟩] } }
def rulesR:Nat→Bool→RS→RS
 |0,_,r=>r
 |n+1,first,r=>if r.f.1=0∧(first=true∨r.pos<ls.length) then rulesR n false (ruleR s ls r) else r
def chkU (x:Src) (t:List Nat):Nat:=if t=x.sep then 14 else if hasF (ruleNames x) t=false∧hasF x.tokens t=false then 7 else 0
def knownOneR (x:Lx) (r:RS):RS:=if x.k=1∧chkU r.x x.t≠0 then failR (chkU r.x x.t) x.a r else r
def knownL:List Lx→RS→RS
 |[],r=>r
 |x :: l,r=>knownL l (knownOneR x r)
def knownR (st:Lx) (l:List Lx) (r:RS):RS:=knownL l (if hasF (ruleNames r.x) st.t=false then failR 7 st.a r else r)
def readR:RS :=
 let p:=headR s ls ⟨0,(0,0),0,src0⟩
 let r:=rulesR s ls (ls.length+2) true p.2
 if r.f.1=0 then knownR p.1 (ls.drop p.2.pos) r else r
def resR (r:RS):Src × Fa:=if r.f.1=0 then(r.x,(0,0)) else(src0,r.f)
end
structure PS where
 l:List Lx
 x:Src
 names:List (List Nat × Bool × Bool × Bool)
 uses:List (List Nat × Nat)
 total:Nat
def knowP (l:List (List Nat × Bool × Bool × Bool)) (t:List Nat):Bool × Bool × Bool:=((l.findIdx? (fun p=>p.1 == t)).bind fun i=>(l[i]?).map fun p=>p.2).getD (false,false,false)
def setP (l:List (List Nat × Bool × Bool × Bool)) (t:List Nat) (v:Bool × Bool × Bool):List (List Nat × Bool × Bool × Bool):=match l.findIdx? (fun p=>p.1 == t) with
 |some i=>l.set i (t,v)
 |none=>l++[(t,v)]
section
variable (s:List Nat)
def nextP (p:PS):Except Fa (Lx × PS):=match p.l with
 |[]=>.error (5,s.length)
 |x :: l=>.ok (x,{ p with l:=l })
def wantP (k:Nat) (t:List Nat) (p:PS):Except Fa PS:=(nextP s p).bind fun q=>if q.1.k=k∧q.1.t=t then .ok q.2 else .error (3,q.1.a)
def wordP (may:List Nat→Bool) (p:PS):Except Fa (Lx × PS):=(nextP s p).bind fun q=>if q.1.k≠1 then .error (3,q.1.a) else if may q.1.t=true then .ok q else .error (12,q.1.a)
def terminalP (sep:Bool) (p:PS):Except Fa (List Nat × PS):=(wordP s smallF p).bind fun q =>
 if(knowP q.2.names q.1.t).1=true∨(knowP q.2.names q.1.t).2.1=true then .error (8,q.1.a) else if sep=false∧q.2.x.tokens.length=8 then .error (6,q.1.a)
 else .ok (q.1.t,{ q.2 with names:=setP q.2.names q.1.t (!sep,sep,false) })
def lookP (p:PS):Except Fa PS:=(wantP s 1 wLook p).bind fun p=>(nextP s p).bind fun q=>if q.1.k≠2 then .error (3,q.1.a) else if numOk q.1.t=true then wantP s 3 sSemi { q.2 with x:={ q.2.x with k:=(decF q.1.t:Nat) } } else .error (2,q.1.a)
def tokenP (p:PS):Except Fa PS:=(terminalP s false p).bind fun q=>.ok { q.2 with x:={ q.2.x with tokens:=q.2.x.tokens++[q.1] } }
def tokensLP:Nat→PS→Except Fa PS
 |0,p=>.ok p
 |n+1,p=>if isL sComma p.l=true then(nextP s p).bind fun q=>(tokenP s q.2).bind fun p=>tokensLP n p else .ok p
def tokensP (p:PS):Except Fa PS:=(wantP s 1 wToken p).bind fun p=>(tokenP s p).bind fun p=>(tokensLP s (p.l.length+1) p).bind fun p=>wantP s 3 sSemi p
def sepQ (p:PS):Except Fa PS:=(wantP s 1 wSep p).bind fun p=>(terminalP s true p).bind fun q=>wantP s 3 sSemi { q.2 with x:={ q.2.x with sep:=q.1 } }
def startP (p:PS):Except Fa PS:=(wantP s 1 wStart p).bind fun p=>(wordP s capitalF p).bind fun q=>wantP s 3 sSemi { q.2 with x:={ q.2.x with start:=q.1.t },uses:=q.2.uses++[(q.1.t,q.1.a)] }
def altQ:Nat→List (List Nat)→PS→Except Fa (List (List Nat) × PS)
 |0,acc,p=>.ok (acc,p)
 |n+1,acc,p=>match p.l with
  |[]=>.ok (acc,p)
  |x :: _=>if x.k=1 then(wordP s mayF p).bind fun q=>if acc.length=6 then .error (6,q.1.a) else altQ n (acc++[q.1.t]) { q.2 with uses:=q.2.uses++[(q.1.t,q.1.a)] } else .ok (acc,p)
def oneAltP (p:PS):Except Fa (List (List Nat) × PS):=altQ s (p.l.length+1) [] p
def altsP:Nat→Bool→List (List (List Nat))→PS→Except Fa (List (List (List Nat)) × PS)
 |0,_,acc,p=>.ok (acc,p)
 |n+1,first,acc,p=>if first=false∧isL sBar p.l=false then .ok (acc,p) else(nextP s p).bind fun q =>
  if q.1.k=3∧q.1.t=(if first then sEq else sBar) then(if q.2.total=24 then .error (6,q.1.a) else(oneAltP s { q.2 with total:=q.2.total+1 }).bind fun v=>altsP n false (acc++[v.1]) v.2) else .error (3,q.1.a)
def ruleQ (p:PS):Except Fa PS:=(wordP s capitalF p).bind fun q =>
 if(knowP q.2.names q.1.t).2.2=true then .error (8,q.1.a) else if q.2.x.rules.length=8 then .error (6,q.1.a)
 else(altsP s (q.2.l.length+1) true [] { q.2 with names:=setP q.2.names q.1.t (false,false,true) }).bind fun v=>(wantP s 3 sSemi v.2).bind fun p=>.ok { p with x:={ p.x with rules:=p.x.rules++[⟨q.1.t,v.1⟩] } }
def rulesP:Nat→Bool→PS→Except Fa PS
 |0,_,p=>.ok p
 |n+1,first,p=>if first=true∨0<p.l.length then(ruleQ s p).bind fun p=>rulesP n false p else .ok p
def chkP (names:List (List Nat × Bool × Bool × Bool)) (first:Bool) (t:List Nat):Nat:=if(knowP names t).2.1=true then 14 else if(knowP names t).2.2=false∧(first=true∨(knowP names t).1=false) then 7 else 0
def usedL (names:List (List Nat × Bool × Bool × Bool)):Bool→List (List Nat × Nat)→Except Fa Unit
 |_,[]=>.ok ()
 |first,u :: l=>if chkP names first u.1≠0 then .error (chkP names first u.1,u.2) else usedL names false l
def usedP (p:PS):Except Fa PS:=(usedL p.names true p.uses).bind fun _=>.ok p
def readP (ls:List Lx):Except Fa PS :=
 (lookP s ⟨ls,src0,[],[],0⟩).bind fun p=>(tokensP s p).bind fun p=>(sepQ s p).bind fun p=>(startP s p).bind fun p=>(rulesP s (p.l.length+1) true p).bind fun p=>usedP p
def resP:Except Fa PS→Src × Fa
 |.ok p=>(p.x,(0,0))
 |.error e=>(src0,e)
end
end Go.Av
end
noncomputable section
namespace Go.Av
open Go Go.Proofs
def rulesT:List (Nat × Nat × List Nat):=[(1,1,[83,32,61,32,97,32,83,32,124,32,59]),(1,2,[83,32,61,32,97,32,84,32,124,32,59,32,84,32,61,32,98,32,83,32,59]),(2,2,[83,32,61,32,97,32,84,32,124,32,59,32,84,32,61,32,98,32,83,32,59]),(2,2,[83,32,61,32,97,32,124,32,97,32,98,32,59]),(1,3,[83,32,61,32,97,32,83,32,98,32,124,32,99,32,59]),(1,3,[83,32,61,32,84,32,85,32,59,32,84,32,61,32,97,32,84,32,124,32,59,32,85,32,61,32,98,32,85,32,124,32,99,32,59]),(2,3,[83,32,61,32,97,32,97,32,83,32,124,32,97,32,98,32,124,32,99,32,59]),(1,3,[83,32,61,32,97,32,84,32,99,32,59,32,84,32,61,32,98,32,84,32,124,32,85,32,59,32,85,32,61,32,59]),(2,3,[83,32,61,32,84,32,99,32,124,32,98,32,83,32,59,32,84,32,61,32,98,32,97,32,124,32,59]),(1,2,[83,32,61,32,97,32,83,32,83,32,124,32,98,32,59]),(3,2,[83,32,61,32,97,32,97,32,97,32,124,32,97,32,97,32,98,32,83,32,124,32,98,32,59]),(1,4,[83,32,61,32,97,32,76,32,98,32,59,32,76,32,61,32,69,32,77,32,59,32,77,32,61,32,99,32,69,32,77,32,124,32,59,32,69,32,61,32,100,32,124,32,83,32,59]),(2,2,[83,32,61,32,84,32,84,32,59,32,84,32,61,32,97,32,98,32,124,32,98,32,97,32,59]),(1,1,[83,32,61,32,97,32,59]),(2,3,[83,32,61,32,97,32,84,32,124,32,97,32,98,32,99,32,59,32,84,32,61,32,97,32,124,32,99,32,83,32,59]),(1,2,[83,32,61,32,84,32,85,32,84,32,59,32,84,32,61,32,59,32,85,32,61,32,97,32,85,32,98,32,124,32,59])]
def ruleE (i:Nat):Nat × Nat × List Nat:=rulesT.getD i (0,0,[])
def toksT:Nat→List Nat
 |0=>[]
 |1=>[]
 |j+2=>toksT (j+1)++[44,32]++[97+(j+1)]
def textT (k t:Nat) (s:List Nat):List Nat:=[108,111,111,107,97,104,101,97,100,32]++[48+k]++[59,32,116,111,107,101,110,32,97]++toksT t++[59,32,115,101,112,97,114,97,116,111,114,32,122,59,32,115,116,97,114,116,32,83,59,32]++s
def kTx (m k:Nat):Nat:=if m % 3=2∧k<2 then k+1 else k
def tTx (m t:Nat):Nat:=if m / 3 % 4=3∧t<4 then t+1 else t
def rulesX:List (List SRule):=[[⟨[83],[[[97],[83]],[]]⟩],[⟨[83],[[[97],[84]],[]]⟩,⟨[84],[[[98],[83]]]⟩],[⟨[83],[[[97],[84]],[]]⟩,⟨[84],[[[98],[83]]]⟩],[⟨[83],[[[97]],[[97],[98]]]⟩],[⟨[83],[[[97],[83],[98]],[[99]]]⟩],[⟨[83],[[[84],[85]]]⟩,⟨[84],[[[97],[84]],[]]⟩,⟨[85],[[[98],[85]],[[99]]]⟩],[⟨[83],[[[97],[97],[83]],[[97],[98]],[[99]]]⟩],[⟨[83],[[[97],[84],[99]]]⟩,⟨[84],[[[98],[84]],[[85]]]⟩,⟨[85],[[]]⟩],[⟨[83],[[[84],[99]],[[98],[83]]]⟩,⟨[84],[[[98],[97]],[]]⟩],[⟨[83],[[[97],[83],[83]],[[98]]]⟩],[⟨[83],[[[97],[97],[97]],[[97],[97],[98],[83]],[[98]]]⟩],[⟨[83],[[[97],[76],[98]]]⟩,⟨[76],[[[69],[77]]]⟩,⟨[77],[[[99],[69],[77]],[]]⟩,⟨[69],[[[100]],[[83]]]⟩],[⟨[83],[[[84],[84]]]⟩,⟨[84],[[[97],[98]],[[98],[97]]]⟩],[⟨[83],[[[97]]]⟩],[⟨[83],[[[97],[84]],[[97],[98],[99]]]⟩,⟨[84],[[[97]],[[99],[83]]]⟩],[⟨[83],[[[84],[85],[84]]]⟩,⟨[84],[[]]⟩,⟨[85],[[[97],[85],[98]],[]]⟩]]
def toksN (t:Nat):List (List Nat):=(List.range t).map fun j=>[97+j]
def srcT (k t i:Nat):Src:=⟨(k:Nat),toksN t,[122],[83],rulesX.getD i []⟩
end Go.Av
end
noncomputable section
namespace Go.Av
open Go Go.Proofs
set_option maxRecDepth 10000
theorem vU8 {n:Nat} (h:n<256):AV.d (.int .u8 (IntKind.u8.wrap (n:Int)))=.d (.int .u8 (n:Int)):=by
 have:IntKind.u8.wrap (n:Int)=n:=by unfold IntKind.wrap;simp [IntKind.bits,IntKind.signed];omega
 rw [this]
def rgtD (l:List Int):List DV:=l.map (.int .i64)
def rowN:List Int→DV
 |[]=>.nilsl
 |a :: l=>ints (a :: l)
def encN (p:GProd):DV:=.agg [.int .i64 p.left,rowN p.right]
def psI (p:GProd):Nat:=match p.right with|[]=>4|_ :: _=>5
def psA:List GProd→AV
 |[]=>.d .nilsl
 |p :: l=>.sr (psI p) 2 (encN p :: l.map encN)
def psO:List GProd→List Ob
 |[]=>[]
 |p :: l=>.box [.d (.int .i64 p.left),rowA 4 1 (rgtD p.right)] :: (rowO 1 (rgtD p.right)++[.room (l.length+1) 2])
end Go.Av
end
noncomputable section
namespace Go.Av
open Go Go.Proofs
set_option maxRecDepth 10000
def blankI (c:Int):Bool:=(c == 32) || (c == 9) || (c == 10) || (c == 13)
def signI (c:Int):Bool:=(c == 61) || (c == 124) || (c == 59) || (c == 44)
def letterI (c:Int):Bool:=(decide (97≤c) && decide (c≤122)) || (decide (65≤c) && decide (c≤90))
def digitI (c:Int):Bool:=decide (48≤c) && decide (c≤57)
theorem blank4 (c:Int):KnownCall Tryz.prog 254 [.int .u8 c] (.d (.bool (blankI c))):=by
 refine knownE Yo (fnAt Tryz.func254 (by kernel_rfl) (by kernel_rfl):FnAt _ _ (mkFn Tryz.f254 [])) ?_
 repeat' (first|refine zW [] ?_|((refine zB [] (fun h=>?_) (fun h=>?_))<;>(first|exact zk h|skip))|refine zX [] ?_|(refine zE ?_;((refine congrArg (fun b=>AV.d (.bool b)) ?_;simp_all [blankI])))|fail)
theorem sign4 (c:Int):KnownCall Tryz.prog 255 [.int .u8 c] (.d (.bool (signI c))):=by
 refine knownE Yo (fnAt Tryz.func255 (by kernel_rfl) (by kernel_rfl):FnAt _ _ (mkFn Tryz.f255 [])) ?_
 repeat' (first|refine zW [] ?_|((refine zB [] (fun h=>?_) (fun h=>?_))<;>(first|exact zk h|skip))|refine zX [] ?_|(refine zE ?_;((refine congrArg (fun b=>AV.d (.bool b)) ?_;simp_all [signI])))|fail)
theorem letter4 (c:Int):KnownCall Tryz.prog 256 [.int .u8 c] (.d (.bool (letterI c))):=by
 refine knownE Yo (fnAt Tryz.func256 (by kernel_rfl) (by kernel_rfl):FnAt _ _ (mkFn Tryz.f256 [])) ?_
 repeat' (first|refine zW [] ?_|((refine zB [] (fun h=>?_) (fun h=>?_))<;>(first|exact zk h|skip))|refine zX [] ?_|(refine zE ?_;((refine congrArg (fun b=>AV.d (.bool b)) ?_;simp_all [letterI]<;>omega)))|fail)
theorem digit4 (c:Int):KnownCall Tryz.prog 257 [.int .u8 c] (.d (.bool (digitI c))):=by
 refine knownE Yo (fnAt Tryz.func257 (by kernel_rfl) (by kernel_rfl):FnAt _ _ (mkFn Tryz.f257 [])) ?_
 repeat' (first|refine zW [] ?_|((refine zB [] (fun h=>?_) (fun h=>?_))<;>(first|exact zk h|skip))|refine zX [] ?_|(refine zE ?_;((refine congrArg (fun b=>AV.d (.bool b)) ?_;simp_all [digitI]<;>omega)))|fail)
def passM:Bool→List Nat→Nat
 |_,[]=>0
 |true,c :: l=>1+passM (decide (c≠10)) l
 |false,c :: l=>if blankI c then 1+passM false l else if c=35 then 1+passM true l else 0
theorem passM_le:∀ (b:Bool) (l:List Nat),passM b l≤l.length
 |true,[]=>Nat.le_refl _
 |false,[]=>Nat.le_refl _
 |true,c :: l=>by have:=passM_le (decide (c≠10)) l;simp only [passM,List.length_cons];omega
 |false,c :: l=>by
  have h1:=passM_le false l
  have h2:=passM_le true l
  simp only [passM,List.length_cons]
  split
  ·omega
  ·split<;>omega
theorem drop_cons {s:List Nat} {i c:Nat} (h:s[i]?=some c):s.drop i=c :: s.drop (i+1):=by
 obtain⟨h1,h2⟩:=List.getElem?_eq_some_iff.1 h
 rw [List.drop_eq_getElem_cons h1,h2]
theorem pass4 (s:List Nat) (at0:Nat) (hl:s.length≤1048576) (ha:at0≤s.length):KnownCall Tryz.prog 230 [.str s,.int .i64 (at0:Nat)] (.d (.int .i64 ((at0+passM false (s.drop at0):Nat):Int))):=by
 refine knownE Yo (fnAt Tryz.func230 (by kernel_rfl) (by kernel_rfl):FnAt _ _ (mkFn Tryz.f230 [])) ?_
 repeat' (first|refine zW [] ?_|((refine zB [] (fun h=>?_) (fun h=>?_))<;>(first|exact zk h|skip))|refine zX [] ?_|(refine zE ?_;(skip))|fail)
 refine Run.loop (fun i:Nat=>⟨PT.ofList [(0,.d (.str s)),(1,.d (.int .i64 (i:Nat)))],[],[]⟩) (fun i=>i≤s.length∧i+passM false (s.drop i)=at0+passM false (s.drop at0)) (fun i=>s.length-i) at0 ⟨ha,rfl⟩ (weak_of (by repeat' (first|exact trivial|refine⟨rfl,?_⟩))) (fun i hi=>?_)
 obtain⟨hi1,hi2⟩:=hi
 rcases Nat.lt_or_ge i s.length with hlt|hge
 ·obtain⟨c,hc⟩:=get_ok hlt
  have hd:=drop_cons hc
  have cb:=blank4 (c:Nat)
  cases hb:blankI (c:Nat) with
  |true =>
   rw [hb] at cb
   have hn:i+1+passM false (s.drop (i+1))=at0+passM false (s.drop at0):=by rw [← hi2,hd,passM,if_pos hb];omega
   repeat' (first|refine zW [] ?_|((refine zB [] (fun h=>?_) (fun h=>?_))<;>(first|exact zk h|skip))|refine zX [] ?_|refine oX (frz:=[]) (v:=.d (.int .u8 (c:Nat))) Yo ?_ (hf:=by simp [inB];omega) (he:=by simp [List.getD_eq_getElem?_getD,hc])|refine zC (cb) ?_|(refine zE ?_;(skip))|(exact⟨i+1,⟨hlt,hn⟩,by omega,weak_of (by repeat' (first|exact trivial|refine⟨rfl,?_⟩|refine⟨(inc_get (k:=i) (by kernel_rfl) (by omega)),?_⟩))⟩)|((exfalso;(simp at h<;>omega)))|fail)
  |false =>
   rw [hb] at cb
   by_cases h35:c=35
   ·subst h35
    have hX:i+passM true (s.drop i)=at0+passM false (s.drop at0):=by rw [← hi2,hd];simp [passM,blankI]
    clear hi2
    generalize at0+passM false (s.drop at0)=X at hX ⊢
    repeat' (first|refine zW [] ?_|((refine zB [] (fun h=>?_) (fun h=>?_))<;>(first|exact zk h|skip))|refine zX [] ?_|refine oX (frz:=[]) (v:=.d (.int .u8 ((35:Nat):Int))) Yo ?_ (hf:=by simp [inB];omega) (he:=by simp [List.getD_eq_getElem?_getD,hc])|refine zC (cb) ?_|(refine zE ?_;(skip))|((exfalso;(simp at h<;>omega)))|fail)
    refine Run.loop (fun j:Nat=>⟨PT.ofList [(0,.d (.str s)),(1,.d (.int .i64 (j:Nat)))],[],[]⟩) (fun j=>i≤j∧j≤s.length∧j+passM true (s.drop j)=X) (fun j=>s.length-j) i ⟨Nat.le_refl _,hi1,hX⟩ (weak_of (by repeat' (first|exact trivial|refine⟨rfl,?_⟩))) (fun j hj=>?_)
    obtain⟨hj1,hj2,hj3⟩:=hj
    rcases Nat.lt_or_ge j s.length with hjl|hjg
    ·obtain⟨e,he⟩:=get_ok hjl
     have hde:=drop_cons he
     by_cases h10:e=10
     ·subst h10
      have hij:i≠j:=fun h=>by subst h;rw [hc] at he;cases he
      have hX2:j+passM false (s.drop j)=X:=by rw [← hj3,hde];simp [passM,blankI]
      repeat' (first|refine zW [] ?_|((refine zB [] (fun h=>?_) (fun h=>?_))<;>(first|exact zk h|skip))|refine zX [] ?_|refine oX (frz:=[]) (v:=.d (.int .u8 ((10:Nat):Int))) Yo ?_ (hf:=by simp [inB];omega) (he:=by simp [List.getD_eq_getElem?_getD,he])|(refine zE ?_;(skip))|(exact⟨j,⟨hj2,hX2⟩,by omega,weak_of (by repeat' (first|exact trivial|refine⟨rfl,?_⟩))⟩)|((exfalso;(simp at h<;>omega)))|fail)
     ·have hX2:j+1+passM true (s.drop (j+1))=X:=by rw [← hj3,hde];simp [passM,h10];omega
      repeat' (first|refine zW [] ?_|((refine zB [] (fun h=>?_) (fun h=>?_))<;>(first|exact zk h|skip))|refine zX [] ?_|refine oX (frz:=[]) (v:=.d (.int .u8 (e:Nat))) Yo ?_ (hf:=by simp [inB];omega) (he:=by simp [List.getD_eq_getElem?_getD,he])|(refine zE ?_;(skip))|(exact⟨j+1,⟨by omega,hjl,hX2⟩,by omega,weak_of (by repeat' (first|exact trivial|refine⟨rfl,?_⟩|refine⟨(inc_get (k:=j) (by kernel_rfl) (by omega)),?_⟩))⟩)|((exfalso;(simp at h<;>omega)))|fail)
    ·have hje:j=s.length:=by omega
     subst hje
     have hX2:s.length+passM false (s.drop s.length)=X:=by rw [← hj3,List.drop_length];rfl
     repeat' (first|refine zW [] ?_|((refine zB [] (fun h=>?_) (fun h=>?_))<;>(first|exact zk h|skip))|refine zX [] ?_|(refine zE ?_;(skip))|(exact⟨s.length,⟨Nat.le_refl _,hX2⟩,by omega,weak_of (by repeat' (first|exact trivial|refine⟨rfl,?_⟩))⟩)|((exfalso;(simp at h<;>omega)))|fail)
   ·rw [show at0+passM false (s.drop at0)=i by rw [← hi2,hd,passM,if_neg (by rw [hb];simp),if_neg h35,Nat.add_zero]]
    repeat' (first|refine zW [] ?_|((refine zB [] (fun h=>?_) (fun h=>?_))<;>(first|exact zk h|skip))|refine zX [] ?_|refine oX (frz:=[]) (v:=.d (.int .u8 (c:Nat))) Yo ?_ (hf:=by simp [inB];omega) (he:=by simp [List.getD_eq_getElem?_getD,hc])|refine zC (cb) ?_|(refine zE ?_;(rfl))|((exfalso;(simp at h<;>omega)))|fail)
 ·have hie:i=s.length:=by omega
  subst hie
  have hz:passM false (s.drop s.length)=0:=by rw [List.drop_length];rfl
  rw [← hi2,hz,Nat.add_zero]
  repeat' (first|refine zW [] ?_|((refine zB [] (fun h=>?_) (fun h=>?_))<;>(first|exact zk h|skip))|refine zX [] ?_|(refine zE ?_;(rfl))|((exfalso;(simp at h<;>omega)))|fail)
end Go.Av
end
noncomputable section
namespace Go.Av
open Go Go.Proofs
set_option maxRecDepth 10000
def wordI (c:Int):Bool:=letterI c || digitI c || (c == 95)
def runL (p:Int→Bool):List Nat→Nat
 |[]=>0
 |c :: l=>if p c then 1+runL p l else 0
theorem runL_le (p:Int→Bool):∀ l,runL p l≤l.length
 |[]=>Nat.le_refl _
 |c :: l=>by have:=runL_le p l;simp only [runL,List.length_cons];split<;>omega
abbrev lexD (k:Nat) (t:List Nat) (a:Nat):DV:=.agg [.int .i64 (k:Nat),.str t,.int .i64 (a:Nat)]
def endI (c:Int):Bool:=letterI c || (c == 95)
def beginsF:List Nat→Nat × List Nat
 |[]=>(0,[])
 |c :: l=>if signI c then(3,[c]) else if letterI c then(1,(c :: l).take (1+runL wordI l)) else if digitI c then
   (if(c=48∧1<1+runL digitI l)∨(∃ e,(c :: l)[1+runL digitI l]?=some e∧endI e=true) then(0,[]) else(2,(c :: l).take (1+runL digitI l))) else(0,[])
set_option maxHeartbeats 2000000 in
theorem begins4 (c:Nat) (l:List Nat) (hl:(c :: l).length≤1048576):KnownCall Tryz.prog 231 [.str (c :: l)] (.d (lexD (beginsF (c :: l)).1 (beginsF (c :: l)).2 0)):=by
 have c1:=sign4 (c:Nat)
 have c2:=letter4 (c:Nat)
 have c3:=digit4 (c:Nat)
 have hx0:(c :: l)[0]?=some c:=rfl
 cases h1:signI (c:Nat) with
 |true =>
  rw [h1] at c1
  rw [show beginsF (c :: l)=(3,[c]) by simp [beginsF,h1]]
  refine knownE Yo (fnAt Tryz.func231 (by kernel_rfl) (by kernel_rfl):FnAt _ _ (mkFn Tryz.f231 [])) ?_
  repeat' (first|refine zW [] ?_|((refine zB [] (fun h=>?_) (fun h=>?_))<;>(first|exact zk h|skip))|refine zX [] ?_|refine oX (frz:=[]) (v:=.d (.int .u8 (c:Nat))) Yo ?_ (hf:=by first|(simp [inB]<;>fail)|(simp [inB];omega)) (he:=by first|(simp [List.getD_eq_getElem?_getD,hx0]<;>fail)|fail)|refine zC (c1) ?_|refine oX (frz:=[]) Yo ?_ (hf:=(by first|(simp [cutC]<;>fail)|(simp [cutC];omega)))|refine eX ?_ (hf:=(by first|(simp [cutC]<;>fail)|(simp [cutC];omega)))|(refine zE ?_;(rfl))|((exfalso;first|(simp at h<;>fail)|(simp at h;omega)|(simp_all [wordI]<;>fail)))|fail)
 |false =>
  rw [h1] at c1
  cases h2:letterI (c:Nat) with
  |true =>
   rw [h2] at c2
   rw [show beginsF (c :: l)=(1,(c :: l).take (1+runL wordI l)) by simp [beginsF,h1,h2]]
   obtain⟨X,hX⟩:∃ X,X=1+runL wordI l:=⟨_,rfl⟩
   rw [← hX]
   generalize hs:c :: l=s at *
   have hX0:1+runL wordI (s.drop 1)=X:=by rw [hX,← hs];rfl
   have hl1:1≤s.length:=by rw [← hs];simp
   refine knownE Yo (fnAt Tryz.func231 (by kernel_rfl) (by kernel_rfl):FnAt _ _ (mkFn Tryz.f231 [])) ?_
   repeat' (first|refine zW [] ?_|((refine zB [] (fun h=>?_) (fun h=>?_))<;>(first|exact zk h|skip))|refine zX [] ?_|refine oX (frz:=[]) (v:=.d (.int .u8 (c:Nat))) Yo ?_ (hf:=by first|(simp [inB]<;>fail)|(simp [inB];omega)) (he:=by first|(simp [List.getD_eq_getElem?_getD,hx0]<;>fail)|fail)|refine zC (c1) ?_|refine zC (c2) ?_|(refine zE ?_;(skip))|((exfalso;first|(simp at h<;>fail)|(simp at h;omega)|(simp_all [wordI]<;>fail)))|fail)
   refine Run.loop (fun j:Nat=>⟨PT.ofList [(0,.d (.str s)),(2,.bp 0 0),(3,.d (.int .i64 (j:Nat)))],[.box [.d (.int .i64 0),.d (.str []),.d (.int .i64 0)]],[]⟩) (fun j=>1≤j∧j≤s.length∧j+runL wordI (s.drop j)=X) (fun j=>s.length-j) 1 ⟨Nat.le_refl _,hl1,hX0⟩ (weak_of (by repeat' (first|exact trivial|refine⟨rfl,?_⟩))) (fun j hj=>?_)
   obtain⟨hj1,hj2,hj3⟩:=hj
   rcases Nat.lt_or_ge j s.length with hjl|hjg
   ·obtain⟨e,he⟩:=get_ok hjl
    have hde:=drop_cons he
    have d2:=letter4 (e:Nat)
    have d3:=digit4 (e:Nat)
    rw [hde,runL] at hj3
    cases hw:wordI (e:Nat) with
    |true =>
     rw [if_pos hw] at hj3
     repeat' (first|refine zW [] ?_|((refine zB [] (fun h=>?_) (fun h=>?_))<;>(first|exact zk h|skip))|refine zX [] ?_|refine oX (frz:=[]) (v:=.d (.int .u8 (e:Nat))) Yo ?_ (hf:=by first|(simp [inB]<;>fail)|(simp [inB];omega)) (he:=by first|(simp [List.getD_eq_getElem?_getD,he]<;>fail)|fail)|((refine zK (d2) (fun h=>?_) (fun h=>?_))<;>(first|exact zk h|skip))|refine zC (d2) ?_|((refine zK (d3) (fun h=>?_) (fun h=>?_))<;>(first|exact zk h|skip))|refine zC (d3) ?_|(refine zE ?_;(skip))|(exact⟨j+1,⟨by omega,hjl,by omega⟩,by omega,weak_of (by repeat' (first|exact trivial|refine⟨rfl,?_⟩|refine⟨(inc_get (k:=j) (by kernel_rfl) (by omega)),?_⟩))⟩)|((exfalso;first|(simp at h<;>fail)|(simp at h;omega)|(simp_all [wordI]<;>fail)))|fail)
    |false =>
     rw [hw] at hj3
     have hjX:j=X:=by simpa using hj3
     subst hjX
     repeat' (first|refine zW [] ?_|((refine zB [] (fun h=>?_) (fun h=>?_))<;>(first|exact zk h|skip))|refine zX [] ?_|refine oX (frz:=[]) (v:=.d (.int .u8 (e:Nat))) Yo ?_ (hf:=by first|(simp [inB]<;>fail)|(simp [inB];omega)) (he:=by first|(simp [List.getD_eq_getElem?_getD,he]<;>fail)|fail)|((refine zK (d2) (fun h=>?_) (fun h=>?_))<;>(first|exact zk h|skip))|refine zC (d2) ?_|((refine zK (d3) (fun h=>?_) (fun h=>?_))<;>(first|exact zk h|skip))|refine zC (d3) ?_|refine oX (frz:=[]) Yo ?_ (hf:=(by first|(simp [cutC]<;>fail)|(simp [cutC];omega)))|refine eX ?_ (hf:=(by first|(simp [cutC]<;>fail)|(simp [cutC];omega)))|(refine zE ?_;(rfl))|((exfalso;first|(simp at h<;>fail)|(simp at h;omega)|(simp_all [wordI]<;>fail)))|fail)
   ·have hje:j=X:=by rw [List.drop_eq_nil_of_le hjg] at hj3;simpa [runL] using hj3
    subst hje
    repeat' (first|refine zW [] ?_|((refine zB [] (fun h=>?_) (fun h=>?_))<;>(first|exact zk h|skip))|refine zX [] ?_|refine oX (frz:=[]) Yo ?_ (hf:=(by first|(simp [cutC]<;>fail)|(simp [cutC];omega)))|refine eX ?_ (hf:=(by first|(simp [cutC]<;>fail)|(simp [cutC];omega)))|(refine zE ?_;(rfl))|((exfalso;first|(simp at h<;>fail)|(simp at h;omega)|(simp_all [wordI]<;>fail)))|fail)
  |false =>
   rw [h2] at c2
   cases h3:digitI (c:Nat) with
   |false =>
    rw [h3] at c3
    rw [show beginsF (c :: l)=(0,[]) by simp [beginsF,h1,h2,h3]]
    refine knownE Yo (fnAt Tryz.func231 (by kernel_rfl) (by kernel_rfl):FnAt _ _ (mkFn Tryz.f231 [])) ?_
    repeat' (first|refine zW [] ?_|((refine zB [] (fun h=>?_) (fun h=>?_))<;>(first|exact zk h|skip))|refine zX [] ?_|refine oX (frz:=[]) (v:=.d (.int .u8 (c:Nat))) Yo ?_ (hf:=by first|(simp [inB]<;>fail)|(simp [inB];omega)) (he:=by first|(simp [List.getD_eq_getElem?_getD,hx0]<;>fail)|fail)|refine zC (c1) ?_|refine zC (c2) ?_|refine zC (c3) ?_|(refine zE ?_;(rfl))|((exfalso;first|(simp at h<;>fail)|(simp at h;omega)|(simp_all [endI]<;>fail)|(simp_all [endI];omega)))|fail)
   |true =>
    rw [h3] at c3
    obtain⟨R,hR⟩:∃ R:Nat × List Nat,R=if(c=48∧1<1+runL digitI l)∨(∃ e,(c :: l)[1+runL digitI l]?=some e∧endI e=true) then(0,[]) else(2,(c :: l).take (1+runL digitI l)):=⟨_,rfl⟩
    rw [show beginsF (c :: l)=R by rw [hR];simp only [beginsF,h1,h2,h3];rfl]
    obtain⟨X,hX⟩:∃ X,X=1+runL digitI l:=⟨_,rfl⟩
    rw [← hX] at hR
    generalize hs:c :: l=s at *
    have hX0:1+runL digitI (s.drop 1)=X:=by rw [hX,← hs];rfl
    have hl1:1≤s.length:=by rw [← hs];simp
    clear hX
    refine knownE Yo (fnAt Tryz.func231 (by kernel_rfl) (by kernel_rfl):FnAt _ _ (mkFn Tryz.f231 [])) ?_
    repeat' (first|refine zW [] ?_|((refine zB [] (fun h=>?_) (fun h=>?_))<;>(first|exact zk h|skip))|refine zX [] ?_|refine oX (frz:=[]) (v:=.d (.int .u8 (c:Nat))) Yo ?_ (hf:=by first|(simp [inB]<;>fail)|(simp [inB];omega)) (he:=by first|(simp [List.getD_eq_getElem?_getD,hx0]<;>fail)|fail)|refine zC (c1) ?_|refine zC (c2) ?_|refine zC (c3) ?_|(refine zE ?_;(skip))|((exfalso;first|(simp at h<;>fail)|(simp at h;omega)|(simp_all [endI]<;>fail)|(simp_all [endI];omega)))|fail)
    refine Run.loop (fun j:Nat=>⟨PT.ofList [(0,.d (.str s)),(2,.bp 0 0),(3,.d (.int .i64 (j:Nat)))],[.box [.d (.int .i64 0),.d (.str []),.d (.int .i64 0)]],[]⟩) (fun j=>1≤j∧j≤s.length∧j+runL digitI (s.drop j)=X) (fun j=>s.length-j) 1 ⟨Nat.le_refl _,hl1,hX0⟩ (weak_of (by repeat' (first|exact trivial|refine⟨rfl,?_⟩))) (fun j hj=>?_)
    obtain⟨hj1,hj2,hj3⟩:=hj
    rcases Nat.lt_or_ge j s.length with hjl|hjg
    ·obtain⟨e,he⟩:=get_ok hjl
     have hde:=drop_cons he
     have d2:=letter4 (e:Nat)
     have d3:=digit4 (e:Nat)
     rw [hde,runL] at hj3
     cases hw:digitI (e:Nat) with
     |true =>
      rw [if_pos hw] at hj3
      rw [hw] at d3
      repeat' (first|refine zW [] ?_|((refine zB [] (fun h=>?_) (fun h=>?_))<;>(first|exact zk h|skip))|refine zX [] ?_|refine oX (frz:=[]) (v:=.d (.int .u8 (e:Nat))) Yo ?_ (hf:=by first|(simp [inB]<;>fail)|(simp [inB];omega)) (he:=by first|(simp [List.getD_eq_getElem?_getD,he]<;>fail)|fail)|refine zC (d3) ?_|(refine zE ?_;(skip))|(exact⟨j+1,⟨by omega,hjl,by omega⟩,by omega,weak_of (by repeat' (first|exact trivial|refine⟨rfl,?_⟩|refine⟨(inc_get (k:=j) (by kernel_rfl) (by omega)),?_⟩))⟩)|((exfalso;first|(simp at h<;>fail)|(simp at h;omega)|(simp_all [endI]<;>fail)|(simp_all [endI];omega)))|fail)
     |false =>
      rw [hw] at hj3 d3
      have hjX:j=X:=by simpa using hj3
      subst hjX
      by_cases hz:c=48∧1<j
      ·rw [if_pos (.inl hz)] at hR
       subst hR
       obtain⟨hz1,hz2⟩:=hz
       subst hz1
       repeat' (first|refine zW [] ?_|((refine zB [] (fun h=>?_) (fun h=>?_))<;>(first|exact zk h|skip))|refine zX [] ?_|refine oX (frz:=[]) (v:=.d (.int .u8 (e:Nat))) Yo ?_ (hf:=by first|(simp [inB]<;>fail)|(simp [inB];omega)) (he:=by first|(simp [List.getD_eq_getElem?_getD,he]<;>fail)|fail)|refine oX (frz:=[]) (v:=.d (.int .u8 ((48:Nat):Int))) Yo ?_ (hf:=by first|(simp [inB]<;>fail)|(simp [inB];omega)) (he:=by first|(simp [List.getD_eq_getElem?_getD,hx0]<;>fail)|fail)|refine zC (d3) ?_|(refine zE ?_;(rfl))|((exfalso;first|(simp at h<;>fail)|(simp at h;omega)|(simp_all [endI]<;>fail)|(simp_all [endI];omega)))|fail)
      ·cases hE:endI (e:Nat) with
       |true =>
        rw [if_pos (.inr ⟨e,he,hE⟩)] at hR
        subst hR
        repeat' (first|refine zW [] ?_|((refine zB [] (fun h=>?_) (fun h=>?_))<;>(first|exact zk h|skip))|refine zX [] ?_|refine oX (frz:=[]) (v:=.d (.int .u8 (e:Nat))) Yo ?_ (hf:=by first|(simp [inB]<;>fail)|(simp [inB];omega)) (he:=by first|(simp [List.getD_eq_getElem?_getD,he]<;>fail)|fail)|refine oX (frz:=[]) (v:=.d (.int .u8 (c:Nat))) Yo ?_ (hf:=by first|(simp [inB]<;>fail)|(simp [inB];omega)) (he:=by first|(simp [List.getD_eq_getElem?_getD,hx0]<;>fail)|fail)|refine zC (d3) ?_|((refine zK (d2) (fun h=>?_) (fun h=>?_))<;>(first|exact zk h|skip))|refine zC (d2) ?_|(refine zE ?_;(rfl))|((exfalso;first|(simp at h<;>fail)|(simp at h;omega)|(simp_all [endI]<;>fail)|(simp_all [endI];omega)))|fail)
       |false =>
        rw [if_neg (fun h=>h.elim hz (fun⟨e',h1,h2⟩=>by rw [he] at h1;cases h1;rw [hE] at h2;cases h2))] at hR
        subst hR
        repeat' (first|refine zW [] ?_|((refine zB [] (fun h=>?_) (fun h=>?_))<;>(first|exact zk h|skip))|refine zX [] ?_|refine oX (frz:=[]) (v:=.d (.int .u8 (e:Nat))) Yo ?_ (hf:=by first|(simp [inB]<;>fail)|(simp [inB];omega)) (he:=by first|(simp [List.getD_eq_getElem?_getD,he]<;>fail)|fail)|refine oX (frz:=[]) (v:=.d (.int .u8 (c:Nat))) Yo ?_ (hf:=by first|(simp [inB]<;>fail)|(simp [inB];omega)) (he:=by first|(simp [List.getD_eq_getElem?_getD,hx0]<;>fail)|fail)|refine zC (d3) ?_|((refine zK (d2) (fun h=>?_) (fun h=>?_))<;>(first|exact zk h|skip))|refine zC (d2) ?_|refine oX (frz:=[]) Yo ?_ (hf:=(by first|(simp [cutC]<;>fail)|(simp [cutC];omega)))|refine eX ?_ (hf:=(by first|(simp [cutC]<;>fail)|(simp [cutC];omega)))|(refine zE ?_;(rfl))|((exfalso;first|(simp at h<;>fail)|(simp at h;omega)|(simp_all [endI]<;>fail)|(simp_all [endI];omega)))|fail)
    ·have hje:j=X:=by rw [List.drop_eq_nil_of_le hjg] at hj3;simpa [runL] using hj3
     subst hje
     have hjn:s[j]?=none:=List.getElem?_eq_none hjg
     by_cases hz:c=48∧1<j
     ·rw [if_pos (.inl hz)] at hR
      subst hR
      obtain⟨hz1,hz2⟩:=hz
      subst hz1
      repeat' (first|refine zW [] ?_|((refine zB [] (fun h=>?_) (fun h=>?_))<;>(first|exact zk h|skip))|refine zX [] ?_|refine oX (frz:=[]) (v:=.d (.int .u8 ((48:Nat):Int))) Yo ?_ (hf:=by first|(simp [inB]<;>fail)|(simp [inB];omega)) (he:=by first|(simp [List.getD_eq_getElem?_getD,hx0]<;>fail)|fail)|(refine zE ?_;(rfl))|((exfalso;first|(simp at h<;>fail)|(simp at h;omega)|(simp_all [endI]<;>fail)|(simp_all [endI];omega)))|fail)
     ·rw [if_neg (fun h=>h.elim hz (fun⟨e',h1,_⟩=>by rw [hjn] at h1;cases h1))] at hR
      subst hR
      repeat' (first|refine zW [] ?_|((refine zB [] (fun h=>?_) (fun h=>?_))<;>(first|exact zk h|skip))|refine zX [] ?_|refine oX (frz:=[]) (v:=.d (.int .u8 (c:Nat))) Yo ?_ (hf:=by first|(simp [inB]<;>fail)|(simp [inB];omega)) (he:=by first|(simp [List.getD_eq_getElem?_getD,hx0]<;>fail)|fail)|refine oX (frz:=[]) Yo ?_ (hf:=(by first|(simp [cutC]<;>fail)|(simp [cutC];omega)))|refine eX ?_ (hf:=(by first|(simp [cutC]<;>fail)|(simp [cutC];omega)))|(refine zE ?_;(rfl))|((exfalso;first|(simp at h<;>fail)|(simp at h;omega)|(simp_all [endI]<;>fail)|(simp_all [endI];omega)))|fail)
end Go.Av
end
noncomputable section
namespace Go.Av
open Go Go.Proofs
set_option maxRecDepth 10000
theorem beginsF_cases (c:Nat) (l:List Nat):beginsF (c :: l)=(0,[])∨∃ k n,k≠0∧beginsF (c :: l)=(k,(c :: l).take (n+1)):=by
 have e:beginsF (c :: l)=if signI c then(3,[c]) else if letterI c then(1,(c :: l).take (1+runL wordI l)) else if digitI c then
   (if(c=48∧1<1+runL digitI l)∨(∃ e,(c :: l)[1+runL digitI l]?=some e∧endI e=true) then(0,[]) else(2,(c :: l).take (1+runL digitI l))) else(0,[]):=rfl
 rw [e]
 by_cases h1:signI c=true
 ·rw [if_pos h1];exact .inr ⟨3,0,by omega,rfl⟩
 ·rw [if_neg h1]
  by_cases h2:letterI c=true
  ·rw [if_pos h2];exact .inr ⟨1,runL wordI l,by omega,by rw [Nat.add_comm]⟩
  ·rw [if_neg h2]
   by_cases h3:digitI c=true
   ·rw [if_pos h3]
    by_cases h4:(c=48∧1<1+runL digitI l)∨(∃ e,(c :: l)[1+runL digitI l]?=some e∧endI e=true)
    ·rw [if_pos h4];exact .inl rfl
    ·rw [if_neg h4];exact .inr ⟨2,runL digitI l,by omega,by rw [Nat.add_comm]⟩
   ·rw [if_neg h3];exact .inl rfl
theorem beginsF_len:∀ s:List Nat,(beginsF s).2.length≤s.length
 |[]=>Nat.le_refl _
 |c :: l=>by
  rcases beginsF_cases c l with h|⟨k,n,_,h⟩<;>rw [h]
  ·simp
  ·simp only [List.length_take];omega
theorem beginsF_pos {c:Nat} {l:List Nat} (h:(beginsF (c :: l)).1≠0):1≤(beginsF (c :: l)).2.length:=by
 rcases beginsF_cases c l with h'|⟨k,n,_,h'⟩<;>rw [h'] at h ⊢
 ·simp at h
 ·simp only [List.length_take,List.length_cons];omega
abbrev faultD (c a:Nat):DV:=.agg [.int .i64 (c:Nat),.int .i64 (a:Nat)]
def atF4 (s:List Nat) (a:Nat):Nat:=a+passM false (s.drop a)
theorem atF4_le {s:List Nat} {a:Nat} (h:a≤s.length):atF4 s a≤s.length:=by
 have:=passM_le false (s.drop a)
 unfold atF4
 rw [List.length_drop] at this
 omega
def nextT (s:List Nat) (a:Nat):List AV :=
 if atF4 s a=s.length then [.d (lexD 0 [] 0),.d (.int .i64 (0:Nat)),.d (faultD 5 (atF4 s a))]
 else if(beginsF (s.drop (atF4 s a))).1=0 then [.d (lexD 0 [] 0),.d (.int .i64 (0:Nat)),.d (faultD 3 (atF4 s a))]
 else [.d (lexD (beginsF (s.drop (atF4 s a))).1 (beginsF (s.drop (atF4 s a))).2 (atF4 s a)),.d (.int .i64 ((atF4 s a+(beginsF (s.drop (atF4 s a))).2.length:Nat):Int)),.d (faultD 0 0)]
theorem next4 (s:List Nat) (a:Nat) (hl:s.length≤1048576) (ha:a≤s.length):KnownCall Tryz.prog 188 [.str s,.int .i64 (a:Nat)] (.tup (nextT s a)):=by
 have cp:=pass4 s a hl ha
 have hle:=atF4_le ha
 unfold nextT
 rw [show a+passM false (s.drop a)=atF4 s a from rfl] at cp
 generalize atF4 s a=p at cp hle ⊢
 by_cases hp:p=s.length
 ·rw [if_pos hp]
  subst hp
  refine knownE Yo (fnAt Tryz.func188 (by kernel_rfl) (by kernel_rfl):FnAt _ _ (mkFn Tryz.f188 [])) ?_
  repeat' (first|refine zW [] ?_|((refine zB [] (fun h=>?_) (fun h=>?_))<;>(first|exact zk h|skip))|refine zX [] ?_|refine zC (cp) ?_|(refine zE ?_;(rfl))|((exfalso;first|(simp at h<;>fail)|(simp at h;omega)))|fail)
 ·rw [if_neg hp]
  obtain⟨c,hc⟩:=get_ok (show p<s.length by omega)
  have hd:=drop_cons hc
  have cb:KnownCall Tryz.prog 231 [.str (s.drop p)] (.d (lexD (beginsF (s.drop p)).1 (beginsF (s.drop p)).2 0)):=by
   have hdl:(s.drop p).length≤1048576:=by rw [List.length_drop];omega
   rw [hd] at hdl ⊢
   exact begins4 c _ hdl
  have hbl:=beginsF_len (s.drop p)
  rw [List.length_drop] at hbl
  generalize beginsF (s.drop p)=b at cb hbl ⊢
  obtain⟨k,t⟩:=b
  simp only at cb hbl ⊢
  have hadd:AV.d (.int .i64 (IntKind.i64.wrap ((p:Int)+(t.length:Int))))=.d (.int .i64 ((p+t.length:Nat):Int)):=vN8 (by omega) (by omega)
  by_cases hk:k=0
  ·rw [if_pos hk]
   subst hk
   refine knownE Yo (fnAt Tryz.func188 (by kernel_rfl) (by kernel_rfl):FnAt _ _ (mkFn Tryz.f188 [])) ?_
   repeat' (first|refine zW [] ?_|((refine zB [] (fun h=>?_) (fun h=>?_))<;>(first|exact zk h|skip))|refine zX [] ?_|refine zC (cp) ?_|refine zC (cb) ?_|refine oX (frz:=[]) Yo ?_ (hf:=(by first|(simp [cutC]<;>fail)|(simp [cutC];omega)))|refine eX ?_ (hf:=(by first|(simp [cutC]<;>fail)|(simp [cutC];omega)))|(refine zE ?_;(rfl))|((exfalso;first|(simp at h<;>fail)|(simp at h;omega)))|fail)
  ·rw [if_neg hk]
   refine knownE Yo (fnAt Tryz.func188 (by kernel_rfl) (by kernel_rfl):FnAt _ _ (mkFn Tryz.f188 [])) ?_
   repeat' (first|refine oX (frz:=[]) (v:=.d (.int .i64 ((p+t.length:Nat):Int))) Yo ?_ (he:=(hadd))|refine eX (v:=.d (.int .i64 ((p+t.length:Nat):Int))) ?_ (he:=(hadd))|refine zW [] ?_|((refine zB [] (fun h=>?_) (fun h=>?_))<;>(first|exact zk h|skip))|refine zX [] ?_|refine zC (cp) ?_|refine zC (cb) ?_|refine oX (frz:=[]) Yo ?_ (hf:=(by first|(simp [cutC]<;>fail)|(simp [cutC];omega)))|refine eX ?_ (hf:=(by first|(simp [cutC]<;>fail)|(simp [cutC];omega)))|(refine zE ?_;(rfl))|((exfalso;first|(simp at h<;>fail)|(simp at h;omega)))|fail)
end Go.Av
end
noncomputable section
namespace Go.Av
open Go Go.Proofs
set_option maxRecDepth 10000
theorem hasF_mem (l:List (List Nat)) (s:List Nat):hasF l s=decide (s ∈ l):=by
 rw [Bool.eq_iff_iff]
 simp only [hasF,List.any_eq_true,decide_eq_true_eq]
 constructor
 ·rintro⟨y,hy,rfl⟩;exact hy
 ·exact fun h=>⟨s,h,rfl⟩
theorem mem_innerX {x:Src} {s:List Nat}:s ∈ innerX x ↔ ∃ r ∈ x.rules,∃ a ∈ r.alts,s ∈ a:=by
 simp [innerX,List.mem_flatMap,List.mem_flatten]
theorem mis_eq (x:Src):misX x=!((smallsX x).all smallF && capitalF x.start && (ruleNames x).all capitalF && (innerX x).all mayF):=by
 rw [Bool.eq_iff_iff,Bool.not_eq_true',← Bool.not_eq_true]
 simp only [misX,misR,noName,mayF,smallsX,ruleNames,Bool.or_eq_true,Bool.and_eq_true,List.any_eq_true,List.all_eq_true,Bool.not_eq_true',List.mem_append,List.mem_singleton,List.mem_map,mem_innerX]
 constructor
 ·rintro(((⟨s,hs,h⟩|⟨r,hr,h|⟨a,ha,s,hs,h1,h2⟩⟩)|h)|h) ⟨⟨⟨g1,g2⟩,g3⟩,g4⟩
  ·rw [g1 s (.inl hs)] at h;cases h
  ·rw [g3 _ ⟨r,hr,rfl⟩] at h;cases h
  ·rcases g4 s ⟨r,hr,a,ha,hs⟩ with g|g
   ·rw [g] at h1;cases h1
   ·rw [g] at h2;cases h2
  ·rw [g1 _ (.inr rfl)] at h;cases h
  ·rw [g2] at h;cases h
 ·intro h
  refine Classical.byContradiction fun hn=>h ⟨⟨⟨?_,?_⟩,?_⟩,?_⟩
  ·intro s hs
   cases hb:smallF s with
   |true=>rfl
   |false =>
    rcases hs with hs|rfl
    ·exact absurd (.inl (.inl (.inl ⟨s,hs,hb⟩))) hn
    ·exact absurd (.inl (.inr hb)) hn
  ·cases hb:capitalF x.start with
   |true=>rfl
   |false=>exact absurd (.inr hb) hn
  ·rintro s ⟨r,hr,rfl⟩
   cases hb:capitalF r.name with
   |true=>rfl
   |false=>exact absurd (.inl (.inl (.inr ⟨r,hr,.inl hb⟩))) hn
  ·rintro s ⟨r,hr,a,ha,hs⟩
   cases hb:smallF s with
   |true=>exact .inl rfl
   |false=>cases hb2:capitalF s with
    |true=>exact .inr rfl
    |false=>exact absurd (.inl (.inl (.inr ⟨r,hr,.inr ⟨a,ha,s,hs,hb,hb2⟩⟩))) hn
theorem uses_eq (x:Src) (s:List Nat):usesX x s=decide (s ∈ innerX x):=by
 rw [Bool.eq_iff_iff]
 simp only [usesX,usesR,List.any_eq_true,hasF_mem,decide_eq_true_eq,mem_innerX]
theorem unk_eq (x:Src):unkX x=(!decide (x.start ∈ ruleNames x) || !(innerX x).all (knowF x (ruleNames x))):=by
 rw [Bool.eq_iff_iff]
 simp only [unkX,unkR,unkS,knowF,hasF_mem,Bool.or_eq_true,Bool.and_eq_true,List.any_eq_true,Bool.not_eq_true',decide_eq_false_iff_not,← Bool.not_eq_true,List.all_eq_true,mem_innerX,decide_eq_true_eq]
 constructor
 ·rintro(⟨r,hr,a,ha,s,hs,h1,h2⟩|h)
  ·exact .inr fun g=>(g s ⟨r,hr,a,ha,hs⟩).elim h2 h1
  ·exact .inl h
 ·rintro(h|h)
  ·exact .inr h
  ·refine .inl (Classical.byContradiction fun hn=>h ?_)
   rintro s ⟨r,hr,a,ha,hs⟩
   refine Classical.byContradiction fun hk=>hn ⟨r,hr,a,ha,s,hs,fun e=>hk (.inr e),fun e=>hk (.inl e)⟩
set_option maxHeartbeats 4000000 in
theorem checkS (x:Src) (hf:FitsX x) (ht:(innerX x).length≤1048576):KnownCall Tryz.prog 35 [encX x] (.d (.int .i64 (checkX x))):=by
 have htl:=hf.tokens
 have hrl:=hf.rules
 have c0:=cloneA x.tokens htl
 have c1:KnownCall Tryz.prog 115 [encX x] (.d (strs (ruleNames x))):=heads x hf
 have c2:=inner x hf ht
 have c3:=containsFuncRules x.rules (by omega) 118 [] (fun r=>r.alts.isEmpty) (fun r _=>chk1 r)
 have c4:=fullS x hf
 have c5:=allS (smallsX x) (by simp [smallsX];omega) 121 [] smallF (fun s hs=>small s (by
  simp only [smallsX,List.mem_append,List.mem_singleton] at hs
  rcases hs with hs|rfl
  ·exact Nat.le_trans (hf.tokenS s hs) (by decide)
  ·exact Nat.le_trans hf.sep (by decide)))
 have c6:=capital x.start (Nat.le_trans hf.start (by decide))
 have c7:=allS (ruleNames x) (by simp;omega) 122 [] capitalF (fun s hs=>capital s (by
  obtain⟨r,hr,rfl⟩:=List.mem_map.1 hs
  exact Nat.le_trans (hf.ruleS r hr) (by decide)))
 have c8:=allS (innerX x) (by omega) 123 [] mayF (fun s hs=>chk2 s (by
  obtain⟨r,hr,a,ha,hs⟩:=mem_innerX.1 hs
  exact Nat.le_trans (hf.nameS r hr a ha s hs) (by decide)))
 have c9:=twiceS (smallsX x) (by simp [smallsX];omega)
 have c10:=twiceS (ruleNames x) (by simp;omega)
 have c11:=contains (innerX x) x.sep (by omega)
 have c12:=contains (ruleNames x) x.start (by simp;omega)
 have c13:=fun(O:Ob)=>allA (innerX x) (by omega) 126 [cellX x,.bp 1 0] O (.box [.d (strs (ruleNames x))]) (knowF x (ruleNames x)) (fun s _=>chk3 x (ruleNames x) O [_] s hf (by simp;omega))
 rw [← strs_smallsX] at c5 c9
 have hrn:(ruleNames x).length=x.rules.length:=by simp
 have hshort:shortX x=(decide (x.tokens.length=0) || decide ((ruleNames x).length=0) || x.rules.any (fun r=>r.alts.isEmpty)):=by
  unfold shortX
  rw [hrn]
  cases x.tokens<;>cases x.rules<;>simp
 have hchk:checkX x=if x.k<1∨4<x.k then 2 else if shortX x=true then 5 else if fullX x=true then 6 else if misX x=true then 12 else if twoX x=true then 8 else if usesX x x.sep=true then 14 else if unkX x=true then 7 else 0:=rfl
 rw [hshort,mis_eq,uses_eq,unk_eq,twoX] at hchk
 rw [hchk]
 generalize x.rules.any (fun r=>r.alts.isEmpty)=b1 at c3 ⊢
 generalize fullX x=b2 at c4 ⊢
 generalize (smallsX x).all smallF=b3 at c5 ⊢
 generalize capitalF x.start=b4 at c6 ⊢
 generalize (ruleNames x).all capitalF=b5 at c7 ⊢
 generalize (innerX x).all mayF=b6 at c8 ⊢
 generalize decide (¬ (smallsX x).Nodup)=b7 at c9 ⊢
 generalize decide (¬ (ruleNames x).Nodup)=b8 at c10 ⊢
 generalize decide (x.sep ∈ innerX x)=b9 at c11 ⊢
 generalize decide (x.start ∈ ruleNames x)=b10 at c12 ⊢
 generalize (innerX x).all (knowF x (ruleNames x))=b11 at c13 ⊢
 clear hchk hshort
 generalize hrn2:ruleNames x=rn at *
 generalize hin2:innerX x=inn at *
 by_cases hk1:x.k<1
 ·rw [if_pos (.inl hk1)]
  refine knownE Yo (fnAt Tryz.func35 (by kernel_rfl) (by kernel_rfl):FnAt _ _ (mkFn Tryz.f35 [1,11])) ?_
  repeat' (first|refine zW [1,11] ?_|((refine zB [1,11] (fun h=>?_) (fun h=>?_))<;>(first|exact zk h|skip))|refine zX [1,11] ?_|refine eA c0 ?_|refine zC (c1) ?_|refine zC (c2) ?_|refine oX (frz:=[1,11]) Yo ?_ (hv:=app1) (hf:=rfl) (he:=rfl)|refine eX ?_ (hv:=app1) (hf:=rfl) (he:=rfl)|refine oX (frz:=[1,11]) Yo ?_ (hv:=app0) (hf:=rfl) (he:=rfl)|refine eX ?_ (hv:=app0) (hf:=rfl) (he:=rfl)|(refine zE ?_;(rfl))|((exfalso;(simp at h<;>omega)))|fail)
 ·by_cases hk4:4<x.k
  ·rw [if_pos (.inr hk4)]
   refine knownE Yo (fnAt Tryz.func35 (by kernel_rfl) (by kernel_rfl):FnAt _ _ (mkFn Tryz.f35 [1,11])) ?_
   repeat' (first|refine zW [1,11] ?_|((refine zB [1,11] (fun h=>?_) (fun h=>?_))<;>(first|exact zk h|skip))|refine zX [1,11] ?_|refine eA c0 ?_|refine zC (c1) ?_|refine zC (c2) ?_|refine oX (frz:=[1,11]) Yo ?_ (hv:=app1) (hf:=rfl) (he:=rfl)|refine eX ?_ (hv:=app1) (hf:=rfl) (he:=rfl)|refine oX (frz:=[1,11]) Yo ?_ (hv:=app0) (hf:=rfl) (he:=rfl)|refine eX ?_ (hv:=app0) (hf:=rfl) (he:=rfl)|(refine zE ?_;(rfl))|((exfalso;(simp at h<;>omega)))|fail)
  ·rw [if_neg (by omega)]
   by_cases ht0:x.tokens.length=0
   ·have hT:AV.d (.bool ((((x.tokens.map DV.str).length:Nat):Int) == 0))=.d (.bool true):=by rw [List.length_map,ht0];rfl
    rw [show(decide (x.tokens.length=0) || decide (rn.length=0) || b1)=true from by simp [ht0],if_pos rfl]
    refine knownE Yo (fnAt Tryz.func35 (by kernel_rfl) (by kernel_rfl):FnAt _ _ (mkFn Tryz.f35 [1,11])) ?_
    repeat' (first|refine oX (frz:=[1,11]) (v:=.d (.bool true)) Yo ?_ (he:=(hT))|refine eX (v:=.d (.bool true)) ?_ (he:=(hT))|refine zW [1,11] ?_|((refine zB [1,11] (fun h=>?_) (fun h=>?_))<;>(first|exact zk h|skip))|refine zX [1,11] ?_|refine eA c0 ?_|refine zC (c1) ?_|refine zC (c2) ?_|refine oX (frz:=[1,11]) Yo ?_ (hv:=app1) (hf:=rfl) (he:=rfl)|refine eX ?_ (hv:=app1) (hf:=rfl) (he:=rfl)|refine oX (frz:=[1,11]) Yo ?_ (hv:=app0) (hf:=rfl) (he:=rfl)|refine eX ?_ (hv:=app0) (hf:=rfl) (he:=rfl)|(refine zE ?_;(rfl))|((exfalso;(simp at h<;>omega)))|fail)
   ·have hT:AV.d (.bool ((((x.tokens.map DV.str).length:Nat):Int) == 0))=.d (.bool false):=by
     rw [List.length_map];exact congrArg (fun b=>AV.d (.bool b)) (by simpa using ht0)
    by_cases hr0:rn.length=0
    ·have hR:AV.d (.bool ((((rn.map DV.str).length:Nat):Int) == 0))=.d (.bool true):=by rw [List.length_map,hr0];rfl
     rw [show(decide (x.tokens.length=0) || decide (rn.length=0) || b1)=true from by simp [hr0],if_pos rfl]
     refine knownE Yo (fnAt Tryz.func35 (by kernel_rfl) (by kernel_rfl):FnAt _ _ (mkFn Tryz.f35 [1,11])) ?_
     repeat' (first|refine oX (frz:=[1,11]) (v:=.d (.bool true)) Yo ?_ (he:=(hR))|refine eX (v:=.d (.bool true)) ?_ (he:=(hR))|refine oX (frz:=[1,11]) (v:=.d (.bool false)) Yo ?_ (he:=(hT))|refine eX (v:=.d (.bool false)) ?_ (he:=(hT))|refine zW [1,11] ?_|((refine zB [1,11] (fun h=>?_) (fun h=>?_))<;>(first|exact zk h|skip))|refine zX [1,11] ?_|refine eA c0 ?_|refine zC (c1) ?_|refine zC (c2) ?_|refine oX (frz:=[1,11]) Yo ?_ (hv:=app1) (hf:=rfl) (he:=rfl)|refine eX ?_ (hv:=app1) (hf:=rfl) (he:=rfl)|refine oX (frz:=[1,11]) Yo ?_ (hv:=app0) (hf:=rfl) (he:=rfl)|refine eX ?_ (hv:=app0) (hf:=rfl) (he:=rfl)|(refine zE ?_;(rfl))|((exfalso;(simp at h<;>omega)))|fail)
    ·have hR:AV.d (.bool ((((rn.map DV.str).length:Nat):Int) == 0))=.d (.bool false):=by
      rw [List.length_map];exact congrArg (fun b=>AV.d (.bool b)) (by simpa using hr0)
     rw [show(decide (x.tokens.length=0) || decide (rn.length=0) || b1)=b1 from by simp [ht0,hr0]]
     cases b1 with
     |true =>
      refine knownE Yo (fnAt Tryz.func35 (by kernel_rfl) (by kernel_rfl):FnAt _ _ (mkFn Tryz.f35 [1,11])) ?_
      repeat' (first|refine oX (frz:=[1,11]) (v:=.d (.bool false)) Yo ?_ (he:=(hR))|refine eX (v:=.d (.bool false)) ?_ (he:=(hR))|refine oX (frz:=[1,11]) (v:=.d (.bool false)) Yo ?_ (he:=(hT))|refine eX (v:=.d (.bool false)) ?_ (he:=(hT))|refine zW [1,11] ?_|((refine zB [1,11] (fun h=>?_) (fun h=>?_))<;>(first|exact zk h|skip))|refine zX [1,11] ?_|refine eA c0 ?_|refine zC (c1) ?_|refine zC (c2) ?_|refine zC (c3) ?_|refine oX (frz:=[1,11]) Yo ?_ (hv:=app1) (hf:=rfl) (he:=rfl)|refine eX ?_ (hv:=app1) (hf:=rfl) (he:=rfl)|refine oX (frz:=[1,11]) Yo ?_ (hv:=app0) (hf:=rfl) (he:=rfl)|refine eX ?_ (hv:=app0) (hf:=rfl) (he:=rfl)|(refine zE ?_;(rfl))|((exfalso;(simp at h<;>omega)))|fail)
     |false =>
      cases b2 with
      |true =>
       refine knownE Yo (fnAt Tryz.func35 (by kernel_rfl) (by kernel_rfl):FnAt _ _ (mkFn Tryz.f35 [1,11])) ?_
       repeat' (first|refine oX (frz:=[1,11]) (v:=.d (.bool false)) Yo ?_ (he:=(hR))|refine eX (v:=.d (.bool false)) ?_ (he:=(hR))|refine oX (frz:=[1,11]) (v:=.d (.bool false)) Yo ?_ (he:=(hT))|refine eX (v:=.d (.bool false)) ?_ (he:=(hT))|refine zW [1,11] ?_|((refine zB [1,11] (fun h=>?_) (fun h=>?_))<;>(first|exact zk h|skip))|refine zX [1,11] ?_|refine eA c0 ?_|refine zC (c1) ?_|refine zC (c2) ?_|refine zC (c3) ?_|refine zC (c4) ?_|refine oX (frz:=[1,11]) Yo ?_ (hv:=app1) (hf:=rfl) (he:=rfl)|refine eX ?_ (hv:=app1) (hf:=rfl) (he:=rfl)|refine oX (frz:=[1,11]) Yo ?_ (hv:=app0) (hf:=rfl) (he:=rfl)|refine eX ?_ (hv:=app0) (hf:=rfl) (he:=rfl)|(refine zE ?_;(rfl))|((exfalso;(simp at h<;>omega)))|fail)
      |false =>
       refine knownE Yo (fnAt Tryz.func35 (by kernel_rfl) (by kernel_rfl):FnAt _ _ (mkFn Tryz.f35 [1,11])) ?_
       repeat' (first|refine oX (frz:=[1,11]) (v:=.d (.bool false)) Yo ?_ (he:=(hR))|refine eX (v:=.d (.bool false)) ?_ (he:=(hR))|refine oX (frz:=[1,11]) (v:=.d (.bool false)) Yo ?_ (he:=(hT))|refine eX (v:=.d (.bool false)) ?_ (he:=(hT))|refine zW [1,11] ?_|((refine zB [1,11] (fun h=>?_) (fun h=>?_))<;>(first|exact zk h|skip))|refine zX [1,11] ?_|refine eA c0 ?_|refine zC (c1) ?_|refine zC (c2) ?_|refine zC (c3) ?_|refine zC (c4) ?_|((refine zLb (c5) (fun h=>?_) (fun h=>?_))<;>(first|exact zk h|skip))|refine zL (c5) ?_|((refine zK (c6) (fun h=>?_) (fun h=>?_))<;>(first|exact zk h|skip))|refine zC (c6) ?_|((refine zK (c7) (fun h=>?_) (fun h=>?_))<;>(first|exact zk h|skip))|refine zC (c7) ?_|((refine zK (c8) (fun h=>?_) (fun h=>?_))<;>(first|exact zk h|skip))|refine zC (c8) ?_|((refine zLb (c9) (fun h=>?_) (fun h=>?_))<;>(first|exact zk h|skip))|refine zL (c9) ?_|((refine zK (c10) (fun h=>?_) (fun h=>?_))<;>(first|exact zk h|skip))|refine zC (c10) ?_|((refine zK (c11) (fun h=>?_) (fun h=>?_))<;>(first|exact zk h|skip))|refine zC (c11) ?_|((refine zK (c12) (fun h=>?_) (fun h=>?_))<;>(first|exact zk h|skip))|refine zC (c12) ?_|refine oA (c13 _) ?_|refine oX (frz:=[1,11]) Yo ?_ (hv:=app1) (hf:=rfl) (he:=rfl)|refine eX ?_ (hv:=app1) (hf:=rfl) (he:=rfl)|refine oX (frz:=[1,11]) Yo ?_ (hv:=app0) (hf:=rfl) (he:=rfl)|refine eX ?_ (hv:=app0) (hf:=rfl) (he:=rfl)|(refine zE ?_;(first|rfl|(simp_all<;>fail)))|((exfalso;(simp at h<;>omega)))|((exfalso;simp_all<;>fail))|fail)
end Go.Av
end
noncomputable section
namespace Go.Av
open Go Go.Proofs
set_option maxRecDepth 10000
end Go.Av
end
noncomputable section
namespace Go.Av
open Go Go.Proofs
set_option maxRecDepth 10000
def g0:Gram:=⟨0,[],[],[],0,[]⟩
end Go.Av
end
noncomputable section
namespace Go.Av
open Go Go.Proofs
set_option maxRecDepth 10000
def lexesF (s:List Nat):Nat→Nat→List DV→List DV × Nat × Nat
 |0,_,_=>([],0,0)
 |n+1,a,acc=>if atF4 s a=s.length then(acc,0,0) else if(beginsF (s.drop (atF4 s a))).1=0 then([],3,atF4 s a)
  else lexesF s n (atF4 s a+(beginsF (s.drop (atF4 s a))).2.length) (acc++[lexD (beginsF (s.drop (atF4 s a))).1 (beginsF (s.drop (atF4 s a))).2 (atF4 s a)])
def lexemesF (s:List Nat):List DV × Nat × Nat:=if 2000<s.length then([],4,2000) else lexesF s (s.length+1) 0 []
abbrev resL (r:List DV × Nat × Nat):AV:=.tup [.d (.sl 3 r.1),.d (faultD r.2.1 r.2.2)]
theorem lexemes4 (s:List Nat) (hl:s.length≤1048576):KnownCall Tryz.prog 104 [.str s] (resL (lexemesF s)):=by
 unfold lexemesF
 by_cases h2:2000<s.length
 ·rw [if_pos h2]
  refine knownE2 Yo (fnAt Tryz.func104 (by kernel_rfl) (by kernel_rfl):FnAt _ _ (mkFn Tryz.f104 [31])) ?_
  repeat' (first|refine zW [31] ?_|((refine zB [31] (fun h=>?_) (fun h=>?_))<;>(first|exact zk h|skip))|refine zX [31] ?_|(refine Yt ?_;refine r2 ?_;first|done|(exact .tup2 .nil .refl))|((exfalso;first|(simp at h<;>fail)|(simp at h;omega)))|fail)
 ·rw [if_neg h2]
  obtain⟨R,hR⟩:∃ R,R=lexesF s (s.length+1) 0 []:=⟨_,rfl⟩
  rw [← hR]
  refine knownE2 Yo (fnAt Tryz.func104 (by kernel_rfl) (by kernel_rfl):FnAt _ _ (mkFn Tryz.f104 [31])) ?_
  repeat' (first|refine zW [31] ?_|((refine zB [31] (fun h=>?_) (fun h=>?_))<;>(first|exact zk h|skip))|refine zX [31] ?_|(refine Yt ?_;refine r2 ?_;first|done|(skip))|((exfalso;first|(simp at h<;>fail)|(simp at h;omega)))|fail)
  refine Run.mkRoom 4 3 [(0,.d (.str s)),(3,.bp 0 0),(4,.sr 1 3 []),(5,.d (.int .i64 (0:Nat)))] (by kernel_rfl) (ofList_cases (by intro p hp;simp only [List.mem_cons,List.not_mem_nil,or_false] at hp;rcases hp with rfl|rfl|rfl|rfl<;>first|exact .inl ⟨rfl,rfl⟩|exact .inr (by kernel_rfl))) ?_
  refine Run.loopT (fun y:Nat × Nat × List DV=>⟨PT.ofList [(0,.d (.str s)),(3,.bp 0 0),(4,.sr 1 3 y.2.2),(5,.d (.int .i64 (y.2.1:Nat)))],[.box [.d (.int .i64 0),.d (.int .i64 0)],.room y.2.2.length 3],[]⟩) (fun y=>y.2.1≤s.length∧y.2.2.length≤y.2.1∧s.length+1≤y.1+y.2.1∧lexesF s y.1 y.2.1 y.2.2=R) (fun y=>s.length-y.2.1) (s.length+1,0,[]) ⟨Nat.zero_le _,Nat.le_refl _,Nat.le_refl _,hR.symm⟩ (tidy_of (objs:=_) _ 2 (by rfl) rfl (by repeat' (first|exact trivial|refine⟨(Or.inl rfl),?_⟩|refine⟨(Or.inr rfl),?_⟩|fail)) (by repeat' (first|exact trivial|refine⟨rfl,?_⟩|fail)) rfl rfl) (fun y hy=>?_)
  obtain⟨n,a,acc⟩:=y
  obtain⟨hy1,hy2,hy3,hy4⟩:=hy
  simp only at hy1 hy2 hy3 hy4 ⊢
  obtain⟨m,rfl⟩:∃ m,n=m+1:=⟨n-1,by omega⟩
  have cn:=next4 s a hl hy1
  have hle:=atF4_le hy1
  have hge:a≤atF4 s a:=Nat.le_add_right _ _
  unfold lexesF at hy4
  unfold nextT at cn
  generalize atF4 s a=p at cn hle hge hy4
  by_cases hp:p=s.length
  ·rw [if_pos hp] at cn hy4
   subst hy4
   repeat' (first|refine zW [31] ?_|((refine zB [31] (fun h=>?_) (fun h=>?_))<;>(first|exact zk h|skip))|refine zX [31] ?_|refine zC (cn) ?_|(refine Yt ?_;refine r2 ?_;first|done|(exact .refl))|((exfalso;first|(simp at h<;>fail)|(simp at h;omega)))|fail)
  ·rw [if_neg hp] at cn hy4
   obtain⟨c,hc⟩:=get_ok (show p<s.length by omega)
   have hd:=drop_cons hc
   have hbl:=beginsF_len (s.drop p)
   have hbp:(beginsF (s.drop p)).1≠0→1≤(beginsF (s.drop p)).2.length:=by rw [hd];exact beginsF_pos
   rw [List.length_drop] at hbl
   generalize beginsF (s.drop p)=b at cn hbl hbp hy4
   obtain⟨k,t⟩:=b
   simp only at cn hbl hbp hy4
   by_cases hk:k=0
   ·rw [if_pos hk] at cn hy4
    subst hy4
    repeat' (first|refine zW [31] ?_|((refine zB [31] (fun h=>?_) (fun h=>?_))<;>(first|exact zk h|skip))|refine zX [31] ?_|refine zC (cn) ?_|(refine Yt ?_;refine r2 ?_;first|done|(exact .tup2 .nil .refl))|((exfalso;first|(simp at h<;>fail)|(simp at h;omega)))|fail)
   ·rw [if_neg hk] at cn hy4
    have ht:=hbp hk
    repeat' (first|refine zW [31] ?_|((refine zB [31] (fun h=>?_) (fun h=>?_))<;>(first|exact zk h|skip))|refine zX [31] ?_|refine zC (cn) ?_|refine oX (frz:=[31]) Yo ?_ (hv:=app1) (hf:=rfl) (he:=rfl)|refine eX ?_ (hv:=app1) (hf:=rfl) (he:=rfl)|refine oX (frz:=[31]) Yo ?_ (hv:=app0) (hf:=rfl) (he:=rfl)|refine eX ?_ (hv:=app0) (hf:=rfl) (he:=rfl)|(refine Yt ?_;refine r2 ?_;first|done|(skip))|((exfalso;first|(simp at h<;>fail)|(simp at h;omega)))|fail)
    exact⟨(m,p+t.length,acc++[lexD k t p]),⟨by simp only<;>omega,by simp only [List.length_append,List.length_cons,List.length_nil]<;>omega,by simp only<;>omega,hy4⟩,by simp only<;>omega,(tidy_of (objs:=_) _ 2 (Eq.trans (b:=[.box [.d (.int .i64 0),.d (.int .i64 0)],.room (acc.length+1) 3]) rfl (by first|rfl|(simp [psA,psO,psI,rowA,rowO,rgtD]<;>fail))) rfl (by repeat' (first|exact trivial|refine⟨(Or.inl rfl),?_⟩|refine⟨(Or.inr rfl),?_⟩|fail)) (by repeat' (first|exact trivial|refine⟨rfl,?_⟩|fail)) rfl rfl)⟩
end Go.Av
end
noncomputable section
namespace Go.Av
open Go Go.Proofs
set_option maxRecDepth 10000
abbrev encL (x:Lx):DV:=lexD x.k x.t x.a
abbrev rBox (s:List Nat) (ls:List Lx) (r:RS):Ob:=.box [.d (.str s),.d (.sl 3 (ls.map encL)),.d (.int .i64 (r.pos:Nat)),.d (.int .i64 (r.f.1:Nat)),.d (.int .i64 (r.f.2:Nat)),.d (.int .i64 (r.alts:Nat)),.d (.int .i64 r.x.k),.sr 1 1 (r.x.tokens.map .str),.d (.str r.x.sep),.d (.str r.x.start),.sr 2 2 (r.x.rules.map encR)]
abbrev rO (s:List Nat) (ls:List Lx) (r:RS):List Ob:=[rBox s ls r,.room r.x.tokens.length 1,.room r.x.rules.length 2]
structure Bd (s:List Nat) (ls:List Lx) (r:RS):Prop where
 s:s.length≤1048576
 l:ls.length≤1048576
 pos:r.pos≤16777216
 alts:r.alts≤16777216
 toks:r.x.tokens.length≤2097152
 rules:r.x.rules.length≤1048576
 len:∀ x ∈ ls,x.t.length≤1048576
theorem okT4 (s:List Nat) (ls:List Lx) (r:RS) (h0:r.f.1=0):ACall Tryz.prog 106 [.bp 0 0] (rO s ls r) (.d (.bool true)) (rO s ls r):=by
 unfold rO rBox
 rw [h0]
 refine acallW_of_run Yo (fnAt Tryz.func106 (by kernel_rfl) (by kernel_rfl):FnAt _ _ (mkFn Tryz.f106 [])) rfl rfl rfl rfl rfl ?_
 repeat' (first|refine zW [] ?_|((refine zB [] (fun h=>?_) (fun h=>?_))<;>(first|exact zk h|skip))|refine zX [] ?_|(refine zE ?_;(skip))|(((first|refine Yt ?_|skip);exact⟨trivial,_,_,rfl,rfl,.refl,(by repeat' (first|exact trivial|refine⟨.refl,?_⟩|refine⟨.gone,?_⟩|refine⟨.box (by repeat' (first|exact trivial|refine⟨.inr rfl,?_⟩|refine⟨.inl rfl,?_⟩)),?_⟩))⟩))|((exfalso;(simp at h<;>omega)))|fail)
theorem okF4 (s:List Nat) (ls:List Lx) (r:RS) (h0:r.f.1≠0):ACall Tryz.prog 106 [.bp 0 0] (rO s ls r) (.d (.bool false)) (rO s ls r):=by
 have hv:AV.d (.bool (decide (((r.f.1:Nat):Int)=0)))=.d (.bool false):=by rw [decide_eq_false (by omega)]
 refine acallW_of_run Yo (fnAt Tryz.func106 (by kernel_rfl) (by kernel_rfl):FnAt _ _ (mkFn Tryz.f106 [])) rfl rfl rfl rfl rfl ?_
 repeat' (first|refine zW [] ?_|((refine zB [] (fun h=>?_) (fun h=>?_))<;>(first|exact zk h|skip))|refine zX [] ?_|(refine zE ?_;(skip))|(((first|refine Yt ?_|skip);exact⟨trivial,_,_,rfl,rfl,.refl,(by repeat' (first|exact trivial|refine⟨.refl,?_⟩|refine⟨.gone,?_⟩|refine⟨.box (by repeat' (first|exact trivial|refine⟨.inr rfl,?_⟩|refine⟨.inl rfl,?_⟩)),?_⟩))⟩))|((exfalso;(simp at h<;>omega)))|fail)
theorem okB4 (s:List Nat) (ls:List Lx) (r:RS):ACall Tryz.prog 106 [.bp 0 0] (rO s ls r) (.d (.bool (decide (r.f.1=0)))) (rO s ls r):=by
 by_cases h0:r.f.1=0
 ·rw [decide_eq_true h0];exact okT4 s ls r h0
 ·rw [decide_eq_false h0];exact okF4 s ls r h0
theorem fail4 (s:List Nat) (ls:List Lx) (r:RS) (e a:Nat):ACall Tryz.prog 191 [.bp 0 0,.d (.int .i64 (e:Nat)),.d (.int .i64 (a:Nat))] (rO s ls r) (.tup []) (rO s ls (failR e a r)):=by
 by_cases h0:r.f.1=0
 ·have c0:=okT4 s ls r h0
  rw [show failR e a r={ r with f:=(e,a) } by simp [failR,h0]]
  refine acallW_of_run Yo (fnAt Tryz.func191 (by kernel_rfl) (by kernel_rfl):FnAt _ _ (mkFn Tryz.f191 [])) rfl rfl rfl rfl rfl ?_
  repeat' (first|refine zW [] ?_|((refine zB [] (fun h=>?_) (fun h=>?_))<;>(first|exact zk h|skip))|refine zX [] ?_|refine oF (c0) ?_|refine eF (c0) ?_|(refine zE ?_;(skip))|(((first|refine Yt ?_|skip);exact⟨trivial,_,_,rfl,rfl,.refl,(by repeat' (first|exact trivial|refine⟨.refl,?_⟩|refine⟨.gone,?_⟩|refine⟨.box (by repeat' (first|exact trivial|refine⟨.inr rfl,?_⟩|refine⟨.inl rfl,?_⟩)),?_⟩))⟩))|((exfalso;(simp at h<;>omega)))|fail)
 ·have c0:=okF4 s ls r h0
  rw [show failR e a r=r by simp [failR,h0]]
  refine acallW_of_run Yo (fnAt Tryz.func191 (by kernel_rfl) (by kernel_rfl):FnAt _ _ (mkFn Tryz.f191 [])) rfl rfl rfl rfl rfl ?_
  repeat' (first|refine zW [] ?_|((refine zB [] (fun h=>?_) (fun h=>?_))<;>(first|exact zk h|skip))|refine zX [] ?_|refine oF (c0) ?_|refine eF (c0) ?_|(refine zE ?_;(skip))|(((first|refine Yt ?_|skip);exact⟨trivial,_,_,rfl,rfl,.refl,(by repeat' (first|exact trivial|refine⟨.refl,?_⟩|refine⟨.gone,?_⟩|refine⟨.box (by repeat' (first|exact trivial|refine⟨.inr rfl,?_⟩|refine⟨.inl rfl,?_⟩)),?_⟩))⟩))|((exfalso;(simp at h<;>omega)))|fail)
theorem peek4 (s:List Nat) (ls:List Lx) (r:RS) (hb:Bd s ls r):ACall Tryz.prog 194 [.bp 0 0] (rO s ls r) (.d (encL (peekR s ls r).1)) (rO s ls (peekR s ls r).2):=by
 obtain⟨b1,b2,b3,b4,b5,b6,b7⟩:=hb
 rcases Nat.lt_or_ge r.pos ls.length with hlt|hge
 ·obtain⟨x,hx⟩:=get_ok hlt
  have he:peekR s ls r=(x,r):=by simp [peekR,hx]
  rw [he]
  refine acallW_of_run Yo (fnAt Tryz.func194 (by kernel_rfl) (by kernel_rfl):FnAt _ _ (mkFn Tryz.f194 [])) rfl rfl rfl rfl rfl ?_
  repeat' (first|refine zW [] ?_|((refine zB [] (fun h=>?_) (fun h=>?_))<;>(first|exact zk h|skip))|refine zX [] ?_|refine oX (frz:=[]) (v:=.d (.ep [.int .i64 (x.k:Nat),.str x.t,.int .i64 (x.a:Nat)])) Yo ?_ (hf:=(by first|(simp [inB]<;>fail)|(simp [inB];omega))) (he:=(by first|(simp [List.getD_eq_getElem?_getD,cellsD,hx]<;>fail)|fail))|refine eX (v:=.d (.ep [.int .i64 (x.k:Nat),.str x.t,.int .i64 (x.a:Nat)])) ?_ (hf:=(by first|(simp [inB]<;>fail)|(simp [inB];omega))) (he:=(by first|(simp [List.getD_eq_getElem?_getD,cellsD,hx]<;>fail)|fail))|(refine zE ?_;(skip))|(((first|refine Yt ?_|skip);exact⟨trivial,_,_,rfl,rfl,.refl,(by repeat' (first|exact trivial|refine⟨.refl,?_⟩|refine⟨.gone,?_⟩|refine⟨.box (by repeat' (first|exact trivial|refine⟨.inr rfl,?_⟩|refine⟨.inl rfl,?_⟩)),?_⟩))⟩))|((exfalso;(simp at h<;>omega)))|fail)
 ·have he:peekR s ls r=(lx0,failR 5 s.length r):=by simp [peekR,List.getElem?_eq_none hge]
  have c0:=fail4 s ls r 5 s.length
  rw [he]
  generalize failR 5 s.length r=r' at c0 ⊢
  refine acallW_of_run Yo (fnAt Tryz.func194 (by kernel_rfl) (by kernel_rfl):FnAt _ _ (mkFn Tryz.f194 [])) rfl rfl rfl rfl rfl ?_
  repeat' (first|refine zW [] ?_|((refine zB [] (fun h=>?_) (fun h=>?_))<;>(first|exact zk h|skip))|refine zX [] ?_|refine oF (c0) ?_|refine eF (c0) ?_|(refine zE ?_;(skip))|(((first|refine Yt ?_|skip);exact⟨trivial,_,_,rfl,rfl,.refl,(by repeat' (first|exact trivial|refine⟨.refl,?_⟩|refine⟨.gone,?_⟩|refine⟨.box (by repeat' (first|exact trivial|refine⟨.inr rfl,?_⟩|refine⟨.inl rfl,?_⟩)),?_⟩))⟩))|((exfalso;(simp at h<;>omega)))|fail)
theorem take4 (s:List Nat) (ls:List Lx) (r:RS) (hb:Bd s ls r):ACall Tryz.prog 190 [.bp 0 0] (rO s ls r) (.d (encL (takeR s ls r).1)) (rO s ls (takeR s ls r).2):=by
 have c0:=peek4 s ls r hb
 have hp:(peekR s ls r).2.pos=r.pos:=by unfold peekR;split<;>simp [failR];split<;>rfl
 have hb3:=hb.pos
 unfold takeR
 generalize peekR s ls r=p at c0 hp ⊢
 obtain⟨x,r1⟩:=p
 simp only at c0 hp ⊢
 have hinc:AV.d (.int .i64 (IntKind.i64.wrap ((r1.pos:Int)+1)))=.d (.int .i64 ((r1.pos+1:Nat):Int)):=congrArg (fun x=>AV.d (.int .i64 x)) ((congrArg IntKind.i64.wrap (show(r1.pos:Int)+1=((r1.pos+1:Nat):Int) by omega)).trans (wrap_nat (by omega)))
 refine acallW_of_run Yo (fnAt Tryz.func190 (by kernel_rfl) (by kernel_rfl):FnAt _ _ (mkFn Tryz.f190 [])) rfl rfl rfl rfl rfl ?_
 repeat' (first|refine oX (frz:=[]) (v:=.d (.int .i64 ((r1.pos+1:Nat):Int))) Yo ?_ (he:=(hinc))|refine eX (v:=.d (.int .i64 ((r1.pos+1:Nat):Int))) ?_ (he:=(hinc))|refine zW [] ?_|((refine zB [] (fun h=>?_) (fun h=>?_))<;>(first|exact zk h|skip))|refine zX [] ?_|refine oF (c0) ?_|refine eF (c0) ?_|(refine zE ?_;(skip))|(((first|refine Yt ?_|skip);exact⟨trivial,_,_,rfl,rfl,.refl,(by repeat' (first|exact trivial|refine⟨.refl,?_⟩|refine⟨.gone,?_⟩|refine⟨.box (by repeat' (first|exact trivial|refine⟨.inr rfl,?_⟩|refine⟨.inl rfl,?_⟩)),?_⟩))⟩))|((exfalso;(simp at h<;>omega)))|fail)
theorem is4T (x:Lx) (k:Nat) (t:List Nat) (h1:x.k=k∧x.t=t):KnownCall Tryz.prog 232 [encL x,.int .i64 (k:Nat),.str t] (.d (.bool true)):=by
 obtain⟨h1,h2⟩:=h1
 subst h1 h2
 refine knownE Yo (fnAt Tryz.func232 (by kernel_rfl) (by kernel_rfl):FnAt _ _ (mkFn Tryz.f232 [])) ?_
 repeat' (first|refine zW [] ?_|((refine zB [] (fun h=>?_) (fun h=>?_))<;>(first|exact zk h|skip))|refine zX [] ?_|(refine zE ?_;((refine congrArg (fun b=>AV.d (.bool b)) ?_;simp_all)))|((exfalso;(simp at h<;>omega)))|fail)
theorem is4F (x:Lx) (k:Nat) (t:List Nat) (h1:¬ (x.k=k∧x.t=t)):KnownCall Tryz.prog 232 [encL x,.int .i64 (k:Nat),.str t] (.d (.bool false)):=by
 refine knownE Yo (fnAt Tryz.func232 (by kernel_rfl) (by kernel_rfl):FnAt _ _ (mkFn Tryz.f232 [])) ?_
 repeat' (first|refine zW [] ?_|((refine zB [] (fun h=>?_) (fun h=>?_))<;>(first|exact zk h|skip))|refine zX [] ?_|(refine zE ?_;((refine congrArg (fun b=>AV.d (.bool b)) ?_;simp_all<;>omega)))|((exfalso;(simp at h<;>omega)))|fail)
theorem must4 (s:List Nat) (ls:List Lx) (r:RS) (k:Nat) (t:List Nat) (hb:Bd s ls r):ACall Tryz.prog 189 [.bp 0 0,.d (.int .i64 (k:Nat)),.d (.str t)] (rO s ls r) (.tup []) (rO s ls (mustR s ls k t r)):=by
 have c0:=take4 s ls r hb
 unfold mustR
 generalize takeR s ls r=p at c0 ⊢
 obtain⟨x,r1⟩:=p
 simp only at c0 ⊢
 by_cases h0:r1.f.1=0
 ·have c1:=okT4 s ls r1 h0
  by_cases hc:x.k=k∧x.t=t
  ·have c2:=is4T x k t hc
   rw [show mustX k t (x,r1)=r1 by simp [mustX,hc]]
   refine acallW_of_run Yo (fnAt Tryz.func189 (by kernel_rfl) (by kernel_rfl):FnAt _ _ (mkFn Tryz.f189 [])) rfl rfl rfl rfl rfl ?_
   repeat' (first|refine zW [] ?_|((refine zB [] (fun h=>?_) (fun h=>?_))<;>(first|exact zk h|skip))|refine zX [] ?_|refine oF (c0) ?_|refine eF (c0) ?_|refine oF (c1) ?_|refine eF (c1) ?_|refine zC (c2) ?_|(refine zE ?_;(skip))|(((first|refine Yt ?_|skip);exact⟨trivial,_,_,rfl,rfl,.refl,(by repeat' (first|exact trivial|refine⟨.refl,?_⟩|refine⟨.gone,?_⟩|refine⟨.box (by repeat' (first|exact trivial|refine⟨.inr rfl,?_⟩|refine⟨.inl rfl,?_⟩)),?_⟩))⟩))|((exfalso;(simp at h<;>omega)))|fail)
  ·have c2:=is4F x k t hc
   have c3:=fail4 s ls r1 3 x.a
   rw [show mustX k t (x,r1)=failR 3 x.a r1 by simp only [mustX];rw [if_pos ⟨h0,hc⟩]]
   generalize failR 3 x.a r1=r2 at c3 ⊢
   refine acallW_of_run Yo (fnAt Tryz.func189 (by kernel_rfl) (by kernel_rfl):FnAt _ _ (mkFn Tryz.f189 [])) rfl rfl rfl rfl rfl ?_
   repeat' (first|refine zW [] ?_|((refine zB [] (fun h=>?_) (fun h=>?_))<;>(first|exact zk h|skip))|refine zX [] ?_|refine oF (c0) ?_|refine eF (c0) ?_|refine oF (c1) ?_|refine eF (c1) ?_|refine oF (c3) ?_|refine eF (c3) ?_|refine zC (c2) ?_|(refine zE ?_;(skip))|(((first|refine Yt ?_|skip);exact⟨trivial,_,_,rfl,rfl,.refl,(by repeat' (first|exact trivial|refine⟨.refl,?_⟩|refine⟨.gone,?_⟩|refine⟨.box (by repeat' (first|exact trivial|refine⟨.inr rfl,?_⟩|refine⟨.inl rfl,?_⟩)),?_⟩))⟩))|((exfalso;(simp at h<;>omega)))|fail)
 ·have c1:=okF4 s ls r1 h0
  rw [show mustX k t (x,r1)=r1 by simp [mustX,h0]]
  refine acallW_of_run Yo (fnAt Tryz.func189 (by kernel_rfl) (by kernel_rfl):FnAt _ _ (mkFn Tryz.f189 [])) rfl rfl rfl rfl rfl ?_
  repeat' (first|refine zW [] ?_|((refine zB [] (fun h=>?_) (fun h=>?_))<;>(first|exact zk h|skip))|refine zX [] ?_|refine oF (c0) ?_|refine eF (c0) ?_|refine oF (c1) ?_|refine eF (c1) ?_|(refine zE ?_;(skip))|(((first|refine Yt ?_|skip);exact⟨trivial,_,_,rfl,rfl,.refl,(by repeat' (first|exact trivial|refine⟨.refl,?_⟩|refine⟨.gone,?_⟩|refine⟨.box (by repeat' (first|exact trivial|refine⟨.inr rfl,?_⟩|refine⟨.inl rfl,?_⟩)),?_⟩))⟩))|((exfalso;(simp at h<;>omega)))|fail)
end Go.Av
end
noncomputable section
namespace Go.Av
open Go Go.Proofs
set_option maxRecDepth 10000
abbrev encK (v:Bool × Bool × Bool):DV:=.agg [.bool v.1,.bool v.2.1,.bool v.2.2]
abbrev encU (u:List Nat × Nat):DV:=.agg [.str u.1,.int .i64 (u.2:Nat)]
abbrev kvN (l:List (List Nat × Bool × Bool × Bool)):List (DV × DV):=(l.map fun p=>(p.1,encK p.2)).map fun p=>(.str p.1,p.2)
abbrev pBox (s:List Nat) (p:PS):Ob:=.box [.d (.str s),.d (.sl 3 (p.l.map encL)),.d (.int .i64 p.x.k),.sr 1 1 (p.x.tokens.map .str),.d (.str p.x.sep),.d (.str p.x.start),.sr 2 2 (p.x.rules.map encR),.mp 3,.sr 4 2 (p.uses.map encU),.d (.int .i64 (p.total:Nat))]
abbrev pO (s:List Nat) (p:PS):List Ob:=[pBox s p,.room p.x.tokens.length 1,.room p.x.rules.length 2,.map (kvN p.names),.room p.uses.length 2]
abbrev pE (p:PS):List Ob:=[.box [.d .any,.d .any,.d .any,.sr 1 1 (p.x.tokens.map .str),.d .any,.d .any,.d .any,.d .any,.d .any,.d .any],.room p.x.tokens.length 1,.gone,.gone,.gone]
abbrev refD (e:Fa):DV:=.iface 113 (.agg [.int .i64 (e.1:Nat),.int .i64 (e.2:Nat)])
section
variable {E:PT Ty} {H:Hd} {frz:List Nat} {rd:Operand→AV} {objs:List Ob} {o:Oper}
theorem kvN_find (l:List (List Nat × Bool × Bool × Bool)) (s:List Nat):(l.map fun p=>(p.1,encK p.2)).findIdx? (fun p=>p.1 == s)=l.findIdx? (fun p=>p.1 == s):=by
 rw [List.findIdx?_map];rfl
theorem evAny_know {t kt et:TypeId} {y yk:Ty} {yt:Ty} {m k:Operand} {i:Nat} (l:List (List Nat × Bool × Bool × Bool)) (s:List Nat) (hop:o.op=.lookup t m k false:=by rfl) (h1:E.get? t=some yt:=by rfl) (h2:yt.desc=.map kt et:=by rfl) (h3:E.get? et=some y:=by rfl) (h4:E.get? kt=some yk:=by rfl) (h5:yk.desc=.string:=by rfl)
  (hm:rd m=.mp i:=by rfl) (hi:objs[i]?=some (.map (kvN l)):=by rfl) (hk:rd k=.d (.str s):=by rfl) (hz:zeroD y=some (encK (false,false,false)):=by rfl) :
  evAny E H frz rd objs o=some (.d (encK (knowP l s)),none,true):=by
 have hf:=findKV_str (E:=E) (t:=kt) s (l.map fun p=>(p.1,encK p.2))
 rw [kvN_find] at hf
 cases hj:l.findIdx? (fun p=>p.1 == s) with
 |none =>
  rw [hj] at hf
  rw [evAny_lookup hop h1 h2 h3 h4 h5 hm hi hk hf hz]
  simp [knowP,hj]
 |some j =>
  obtain⟨g1,_,_⟩:=List.findIdx?_eq_some_iff_getElem.1 hj
  rw [hj] at hf
  simp only [Option.bind_some,List.getElem?_map,List.getElem?_eq_getElem g1,Option.map_some] at hf
  rw [evAny_lookup hop h1 h2 h3 h4 h5 hm hi hk hf hz]
  simp [knowP,hj,g1]
theorem evAny_set {t kt et:TypeId} {yk:Ty} {yt:Ty} {m k v:Operand} {i:Nat} (l:List (List Nat × Bool × Bool × Bool)) (s:List Nat) (u:Bool × Bool × Bool) (hop:o.op=.mapUpdate t m k v:=by rfl) (h1:E.get? t=some yt:=by rfl) (h2:yt.desc=.map kt et:=by rfl) (h4:E.get? kt=some yk:=by rfl) (h5:yk.desc=.string:=by rfl)
  (hm:rd m=.mp i:=by rfl) (hi:objs[i]?=some (.map (kvN l)):=by rfl) (hk:rd k=.d (.str s):=by rfl) (hd:rd v=.d (encK u):=by rfl) :
  evAny E H frz rd objs o=some (.d .any,some (objs.set i (.map (kvN (setP l s u)))),true):=by
 have hf:=findKV_str (E:=E) (t:=kt) s (l.map fun p=>(p.1,encK p.2))
 rw [kvN_find] at hf
 unfold setP
 cases hj:l.findIdx? (fun p=>p.1 == s) with
 |none =>
  rw [hj] at hf
  rw [evAny_mapUpdate hop h1 h2 h4 h5 hm hi hk hd hf]
  simp
 |some j =>
  obtain⟨g1,g2,_⟩:=List.findIdx?_eq_some_iff_getElem.1 hj
  have g2:l[j].1=s:=by simpa using g2
  rw [hj] at hf
  simp only [Option.bind_some,List.getElem?_map,List.getElem?_eq_getElem g1,Option.map_some] at hf
  rw [evAny_mapChange hop h1 h2 h4 h5 hm hi hk hd hf]
  have:(kvN l).modify j (fun p=>(p.1,encK u))=kvN (l.set j (s,u)):=by
   apply List.ext_getElem?
   intro n
   simp only [List.getElem?_modify,List.getElem?_map,List.getElem?_set]
   by_cases hn:j=n
   ·subst hn
    simp [g1,g2]
   ·simp only [hn,if_false]
    cases l[n]?<;>simp
  rw [this]
end
theorem drop_one {l:List DV} {a:DV}:AV.d (.sl 3 (cutL (some 1) none (a :: l)))=.d (.sl 3 l):=by simp [cutL]
theorem failP (s:List Nat) (p:PS) (e a:Nat):ACall Tryz.prog 180 [.bp 0 0,.d (.int .i64 (e:Nat)),.d (.int .i64 (a:Nat))] (pO s p) (.pan (refD (e,a))) (pE p):=by
 refine acallP_of_run (fnAt Tryz.func180 (by kernel_rfl) (by kernel_rfl):FnAt _ _ (mkFn Tryz.f180 [])) rfl rfl rfl rfl ?_
 repeat' (first|refine zW [] ?_|((refine zB [] (fun h=>?_) (fun h=>?_))<;>(first|exact zk h|skip))|refine zX [] ?_|refine oPan ?_|(refine zE ?_;(skip))|(exact⟨rfl,rfl,(by repeat' (first|exact trivial|refine⟨.refl,?_⟩|refine⟨.gone,?_⟩|refine⟨.box (by repeat' (first|exact trivial|refine⟨.inr rfl,?_⟩|refine⟨.inl rfl,?_⟩)),?_⟩))⟩)|fail)
theorem nextOkP (s:List Nat) (p:PS) (x:Lx) (l:List Lx) (hl:p.l=x :: l):ACall Tryz.prog 179 [.bp 0 0] (pO s p) (.d (encL x)) (pO s { p with l:=l }):=by
 unfold pO pBox
 rw [hl,List.map_cons]
 refine acallW_of_run Yo (fnAt Tryz.func179 (by kernel_rfl) (by kernel_rfl):FnAt _ _ (mkFn Tryz.f179 [])) rfl rfl rfl rfl rfl ?_
 have hcut:=drop_one (l:=l.map encL) (a:=encL x)
 repeat' (first|refine zW [] ?_|((refine zB [] (fun h=>?_) (fun h=>?_))<;>(first|exact zk h|skip))|refine zX [] ?_|refine oX (frz:=[]) (v:=.d (.sl 3 (l.map encL))) Yo ?_ (he:=hcut) (hf:=by first|(simp [cutC,maxC]<;>fail)|(simp [cutC,maxC];omega))|refine oX (frz:=[]) (v:=.d (.ep [.int .i64 (x.k:Nat),.str x.t,.int .i64 (x.a:Nat)])) Yo ?_ (hf:=(by first|(simp [inB]<;>fail)|(simp [inB];omega))) (he:=(by first|(simp [List.getD_eq_getElem?_getD,cellsD,hl]<;>fail)|fail))|refine eX (v:=.d (.ep [.int .i64 (x.k:Nat),.str x.t,.int .i64 (x.a:Nat)])) ?_ (hf:=(by first|(simp [inB]<;>fail)|(simp [inB];omega))) (he:=(by first|(simp [List.getD_eq_getElem?_getD,cellsD,hl]<;>fail)|fail))|(refine zE ?_;(skip))|(((first|refine Yt ?_|skip);exact⟨trivial,_,_,rfl,rfl,.refl,(by repeat' (first|exact trivial|refine⟨.refl,?_⟩|refine⟨.gone,?_⟩|refine⟨.box (by repeat' (first|exact trivial|refine⟨.inr rfl,?_⟩|refine⟨.inl rfl,?_⟩)),?_⟩))⟩))|((exfalso;(simp at h<;>omega)))|fail)
theorem nextEndP (s:List Nat) (p:PS) (hl:p.l=[]):ACall Tryz.prog 179 [.bp 0 0] (pO s p) (.pan (refD (5,s.length))) (pE p):=by
 have c0:=failP s p 5 s.length
 unfold pO pBox at c0 ⊢
 rw [hl] at c0 ⊢
 refine acallP_of_run (fnAt Tryz.func179 (by kernel_rfl) (by kernel_rfl):FnAt _ _ (mkFn Tryz.f179 [])) rfl rfl rfl rfl ?_
 repeat' (first|refine zW [] ?_|((refine zB [] (fun h=>?_) (fun h=>?_))<;>(first|exact zk h|skip))|refine zX [] ?_|refine oFP (c0) ?_|(refine zE ?_;(skip))|(exact⟨rfl,rfl,(by repeat' (first|exact trivial|refine⟨.refl,?_⟩|refine⟨.gone,?_⟩|refine⟨.box (by repeat' (first|exact trivial|refine⟨.inr rfl,?_⟩|refine⟨.inl rfl,?_⟩)),?_⟩))⟩)|((exfalso;(simp at h<;>omega)))|fail)
end Go.Av
end
noncomputable section
namespace Go.Av
open Go Go.Proofs
section
variable {s:List Nat} {ls:List Lx}
theorem failR_f {r:RS} {e a:Nat} (h:r.f.1≠0):failR e a r=r:=by simp [failR,h]
theorem peekR_f {r:RS} (h:r.f.1≠0):(peekR s ls r).2=r:=by
 unfold peekR
 split
 ·rfl
 ·exact failR_f h
theorem takeR_f {r:RS} (h:r.f.1≠0):(takeR s ls r).2.f=r.f:=by simp [takeR,peekR_f h]
theorem mustX_f {k:Nat} {t:List Nat} {p:Lx × RS} (h:p.2.f.1≠0):mustX k t p=p.2:=by simp [mustX,h]
theorem mustR_f {k:Nat} {t:List Nat} {r:RS} (h:r.f.1≠0):(mustR s ls k t r).f=r.f:=by
 have:=takeR_f (s:=s) (ls:=ls) h
 unfold mustR
 rw [mustX_f (by rw [this];exact h),this]
theorem nextQ_f {t:List Nat} {r:RS} (h:r.f.1≠0):nextQ ls t r=(false,r):=by simp [nextQ,h]
theorem nameX_f {c:Bool} {p:Lx × RS} (h:p.2.f.1≠0):(nameX c p).2=p.2:=by simp [nameX,h]
theorem nameR_f {c:Bool} {r:RS} (h:r.f.1≠0):(nameR s ls c r).2.f=r.f:=by
 have:=takeR_f (s:=s) (ls:=ls) h
 unfold nameR
 rw [nameX_f (by rw [this];exact h),this]
theorem newR_f {l:List (List Nat)} {t:List Nat} {a:Nat} {r:RS} (h:r.f.1≠0):newR l t a r=r:=by unfold newR;split<;>simp [failR_f h]
theorem roomR_f {n w a:Nat} {r:RS} (h:r.f.1≠0):roomR n w a r=r:=by unfold roomR;split<;>simp [failR_f h]
theorem tokensR_f {n:Nat} {r:RS} (h:r.f.1≠0):tokensR s ls n r=r:=by cases n<;>simp [tokensR,h]
theorem sepR_f {r:RS} (h:r.f.1≠0):(sepR s ls r).f=r.f:=by
 have h1:=mustR_f (s:=s) (ls:=ls) (k:=1) (t:=wSep) h
 have h1':(mustR s ls 1 wSep r).f.1≠0:=by rw [h1];exact h
 have h2:=peekR_f (s:=s) (ls:=ls) h1'
 have h3:(nameR s ls false (peekR s ls (mustR s ls 1 wSep r)).2).2.f=r.f:=by rw [h2,nameR_f h1',h1]
 simp only [sepR]
 rw [newR_f (by simp only [h3];exact h),mustR_f (by simp only [h3];exact h)]
 exact h3
theorem startR_f {r:RS} (h:r.f.1≠0):(startR s ls r).2.f=r.f:=by
 have h1:=mustR_f (s:=s) (ls:=ls) (k:=1) (t:=wStart) h
 have h1':(mustR s ls 1 wStart r).f.1≠0:=by rw [h1];exact h
 have h2:=peekR_f (s:=s) (ls:=ls) h1'
 have h3:(nameR s ls true (peekR s ls (mustR s ls 1 wStart r)).2).2.f=r.f:=by rw [h2,nameR_f h1',h1]
 simp only [startR]
 rw [mustR_f (by simp only [h3];exact h)]
 exact h3
theorem altR_f {n:Nat} {acc:List (List Nat)} {r:RS} (h:r.f.1≠0):altR s ls n acc r=(acc,r):=by cases n<;>simp [altR,h]
theorem rulesR_f {n:Nat} {b:Bool} {r:RS} (h:r.f.1≠0):rulesR s ls n b r=r:=by cases n<;>simp [rulesR,h]
structure Rel (ls:List Lx) (r:RS) (p:PS):Prop where
 f:r.f=(0,0)
 l:p.l=ls.drop r.pos
 x:r.x=p.x
 n:r.alts=p.total
def Ok (ls:List Lx) (r:RS) (Q:PS→Prop):Except Fa PS→Prop
 |.ok q=>Rel ls r q∧Q q
 |.error e=>r.f=e∧e.1≠0
theorem Rel.f0 {r:RS} {p:PS} (h:Rel ls r p):r.f.1=0:=by rw [h.f]
theorem drop_at {i:Nat} {x:Lx} (h:ls[i]?=some x):ls.drop i=x :: ls.drop (i+1):=by
 obtain⟨h1,h2⟩:=List.getElem?_eq_some_iff.1 h
 rw [List.drop_eq_getElem_cons h1,h2]
theorem Rel.cases {r:RS} {p:PS} (h:Rel ls r p):(∃ x,ls[r.pos]?=some x∧p.l=x :: ls.drop (r.pos+1)∧peekR s ls r=(x,r)∧takeR s ls r=(x,{ r with pos:=r.pos+1 })∧nextP s p=.ok (x,{ p with l:=ls.drop (r.pos+1) }) ∧
   Rel ls { r with pos:=r.pos+1 } { p with l:=ls.drop (r.pos+1) }) ∨
  (ls[r.pos]?=none∧p.l=[]∧peekR s ls r=(lx0,{ r with f:=(5,s.length) })∧takeR s ls r=(lx0,{ r with f:=(5,s.length),pos:=r.pos+1 })∧nextP s p=.error (5,s.length)):=by
 have h0:=h.f0
 cases hx:ls[r.pos]? with
 |some x =>
  have hl:=h.l
  rw [drop_at hx] at hl
  refine .inl ⟨x,rfl,hl,by simp [peekR,hx],by simp [takeR,peekR,hx],by simp [nextP,hl],⟨h.f,rfl,h.x,h.n⟩⟩
 |none =>
  have hl:=h.l
  rw [List.drop_eq_nil_of_le (List.getElem?_eq_none_iff.1 hx)] at hl
  exact .inr ⟨rfl,hl,by simp [peekR,hx,failR,h0],by simp [takeR,peekR,hx,failR,h0],by simp [nextP,hl]⟩
theorem mustR_ok {r:RS} {p:PS} (h:Rel ls r p) (k:Nat) (t:List Nat):Ok ls (mustR s ls k t r) (fun q=>q={ p with l:=ls.drop (r.pos+1) }∧q.l.length<p.l.length∧(mustR s ls k t r).pos=r.pos+1∧∃ x,ls[r.pos]?=some x∧x.k=k∧x.t=t) (wantP s k t p):=by
 have h0:=h.f0
 rcases h.cases (s:=s) with⟨x,hx,hl,_,e1,e2,hr⟩|⟨hx,hl,_,e1,e2⟩
 ·by_cases hc:x.k=k∧x.t=t
  ·have e:mustR s ls k t r={ r with pos:=r.pos+1 }:=by simp [mustR,mustX,e1,hc]
   simp only [wantP,e2,Except.bind,hc,and_self,if_true,Ok,e]
   exact⟨hr,(by first|exact trivial|rfl),by rw [hl];simp,(by first|exact trivial|rfl),x,hx,hc.1,hc.2⟩
  ·simp only [wantP,e2,Except.bind,hc,if_false,Ok,mustR,mustX,e1,h0,not_false_iff,and_self,if_true,failR]
   exact⟨(by first|exact trivial|rfl),by simp⟩
 ·simp [wantP,e2,Except.bind,Ok,mustR,mustX,e1]
theorem word_ok {r:RS} {p:PS} (h:Rel ls r p) (c:Bool):match wordP s (if c then capitalF else smallF) p with
  |.ok q=>q.2={ p with l:=ls.drop (r.pos+1) }∧q.2.l.length<p.l.length∧peekR s ls r=(q.1,r)∧nameR s ls c r=(q.1.t,{ r with pos:=r.pos+1 })∧Rel ls { r with pos:=r.pos+1 } q.2∧(if c then capitalF else smallF) q.1.t=true∧ls[r.pos]?=some q.1∧q.1.k=1
  |.error e=>e.1≠0∧((peekR s ls r).2=r∧(nameR s ls c r).2.f=e∨(peekR s ls r).2.f=e):=by
 have h0:=h.f0
 rcases h.cases (s:=s) with⟨x,hx,hl,e0,e1,e2,hr⟩|⟨hx,hl,e0,e1,e2⟩
 ·by_cases hk:x.k=1
  ·by_cases hc:(if c then capitalF else smallF) x.t=true
   ·have hc':(if c=true then capitalF x.t else smallF x.t)=true:=by cases c<;>simpa using hc
    simp only [wordP,e2,Except.bind,hk,ne_eq,not_true,if_false,hc,if_true]
    refine⟨trivial,by rw [hl];simp,e0,?_,hr,trivial,hx,trivial⟩
    simp [nameR,nameX,e1,h0,hk,hc']
   ·have hc':¬ (if c=true then capitalF x.t else smallF x.t)=true:=by cases c<;>simpa using hc
    simp only [wordP,e2,Except.bind,hk,ne_eq,not_true,if_false,hc]
    refine⟨by simp,.inl ⟨by rw [e0],?_⟩⟩
    simp [nameR,nameX,e1,h0,hk,hc',failR]
  ·simp only [wordP,e2,Except.bind,hk,ne_eq,not_false_iff,if_true]
   refine⟨by simp,.inl ⟨by rw [e0],?_⟩⟩
   simp [nameR,nameX,e1,h0,hk,failR]
 ·simp only [wordP,e2,Except.bind]
  exact⟨by simp,.inr (by rw [e0])⟩
theorem word_bad {r:RS} {c:Bool} {e:Fa} (he:e.1≠0) (h:(peekR s ls r).2=r∧(nameR s ls c r).2.f=e∨(peekR s ls r).2.f=e):(nameR s ls c (peekR s ls r).2).2.f=e:=by
 rcases h with⟨h1,h2⟩|h1
 ·rw [h1,h2]
 ·rw [nameR_f (by rw [h1];exact he),h1]
theorem knowP_set {l:List (List Nat × Bool × Bool × Bool)} {t u:List Nat} {v:Bool × Bool × Bool}:knowP (setP l t v) u=if u=t then v else knowP l u:=by
 have gen:∀ l:List (List Nat × Bool × Bool × Bool),knowP l u=((l.find? (fun p=>p.1 == u)).map (·.2)).getD (false,false,false):=by
  intro l
  unfold knowP
  congr 1
  induction l with
  |nil=>rfl
  |cons a l ih =>
   rw [List.findIdx?_cons,List.find?_cons]
   cases ha:a.1 == u with
   |true=>simp
   |false =>
    simp only [Bool.false_eq_true,if_false]
    rw [← ih]
    cases l.findIdx? (fun p=>p.1 == u)<;>simp
 rw [gen,gen]
 unfold setP
 split
 ·rename_i i hi
  obtain⟨h1,h2,h3⟩:=List.findIdx?_eq_some_iff_getElem.1 hi
  have h2:l[i].1=t:=by simpa using h2
  have hsp:l=l.take i++l[i] :: l.drop (i+1):=by rw [← List.drop_eq_getElem_cons h1,List.take_append_drop]
  have hset:l.set i (t,v)=l.take i++(t,v) :: l.drop (i+1):=by
   apply List.ext_getElem?
   intro j
   rw [List.getElem?_set]
   rcases Nat.lt_trichotomy j i with hj|hj|hj
   ·rw [if_neg (by omega),List.getElem?_append_left (by simp;omega),List.getElem?_take,if_pos hj]
   ·subst hj
    rw [if_pos rfl,if_pos h1,List.getElem?_append_right (by simp;omega)]
    simp [Nat.min_eq_left (Nat.le_of_lt h1)]
   ·rw [if_neg (by omega),List.getElem?_append_right (by simp;omega)]
    obtain⟨d,rfl⟩:∃ d,j=i+1+d:=⟨j-(i+1),by omega⟩
    rw [List.length_take,Nat.min_eq_left (Nat.le_of_lt h1),show i+1+d-i=d+1 by omega]
    simp
  have hno:∀ u',(u'=t)→(l.take i).find? (fun p=>p.1 == u')=none:=by
   intro u' e
   subst e
   rw [List.find?_eq_none]
   intro x hx
   obtain⟨j,hj,e⟩:=List.getElem_of_mem hx
   have hj':j<i:=by simp at hj;omega
   have:=h3 j hj'
   rw [List.getElem_take] at e
   subst e
   simpa using this
  rw [hset]
  conv=>rhs;rw [hsp]
  rw [List.find?_append,List.find?_append,List.find?_cons,List.find?_cons]
  by_cases hu:u=t
  ·rw [if_pos hu,hno u hu];simp [hu]
  ·rw [if_neg hu]
   have a1:(t == u)=false:=by simpa using fun e=>hu e.symm
   have a2:(l[i].1 == u)=false:=by rw [h2];exact a1
   simp only [a1,a2]
 ·rename_i hi
  have hno:∀ x ∈ l,¬ x.1=t:=by
   intro x hx
   have:=List.findIdx?_eq_none_iff.1 hi x hx
   simpa using this
  rw [List.find?_append]
  by_cases hu:u=t
  ·subst hu
   rw [if_pos rfl,List.find?_eq_none.2 (by simpa using hno)]
   simp
  ·rw [if_neg hu]
   have a1:(t == u)=false:=by simpa using fun e=>hu e.symm
   cases hf:l.find? (fun p=>p.1 == u)<;>simp [a1]
theorem small_cap {t:List Nat} (h:smallF t=true):capitalF t=false:=by
 simp only [smallF,capitalF,Bool.and_eq_true,decide_eq_true_eq] at h ⊢
 rw [decide_eq_false (show ¬ t.getD 0 0<97 by omega),Bool.and_false]
theorem hasF_snoc {l:List (List Nat)} {t u:List Nat}:hasF (l++[t]) u=(hasF l u || decide (t=u)):=by simp [hasF]
def NH (p:PS):Prop:=(∀ t,knowP p.names t=(hasF p.x.tokens t,false,false))∧(∀ t ∈ p.x.tokens,smallF t=true)∧p.uses=[]∧p.x.rules=[]
theorem tokenR_ok {r:RS} {p:PS} (h:Rel ls r p) (hn:NH p):Ok ls (tokenR s ls r) (fun q=>NH q∧q.l.length+1=p.l.length) (tokenP s p):=by
 have hw:=word_ok (s:=s) h false
 simp only [Bool.false_eq_true,if_false] at hw
 unfold tokenP terminalP
 cases hq:wordP s smallF p with
 |error e =>
  rw [hq] at hw
  have h1:=word_bad hw.1 hw.2
  have h3:(nameR s ls false (peekR s ls r).2).2.f.1≠0:=by rw [h1];exact hw.1
  simp only [Except.bind,Ok,tokenR]
  rw [newR_f h3,roomR_f h3]
  exact⟨h1,hw.1⟩
 |ok q =>
  rw [hq] at hw
  obtain⟨e0,_,e1,e2,e3,e4,e5,_⟩:=hw
  obtain⟨x,q⟩:=q
  simp only at e0 e1 e2 e3 e4 e5
  have h0:=h.f0
  have hl:q.l.length+1=p.l.length:=by rw [h.l,drop_at e5,e0];rfl
  have hkn:knowP q.names x.t=(hasF p.x.tokens x.t,false,false):=by rw [e0];exact hn.1 _
  have hqt:q.x.tokens=p.x.tokens:=by rw [e0]
  simp only [Except.bind,tokenR,e1,e2,hkn,hqt]
  have hrt:r.x.tokens=p.x.tokens:=by rw [h.x]
  by_cases hh:hasF p.x.tokens x.t=true
  ·rw [if_pos (by simp [hh])]
   refine⟨?_,by simp⟩
   simp only [newR,hrt,hh,if_true]
   rw [roomR_f (by simp [failR,h0])]
   simp [failR,h0]
  ·have hh:hasF p.x.tokens x.t=false:=by simpa using hh
   rw [if_neg (by simp [hh])]
   simp only [newR,hrt,hh,Bool.false_eq_true,if_false,true_and]
   by_cases h8:p.x.tokens.length=8
   ·rw [if_pos h8]
    refine⟨?_,by simp⟩
    simp [roomR,hrt,h8,failR,h0]
   ·rw [if_neg h8]
    simp only [roomR,hrt,h8,if_false,Ok]
    refine⟨⟨h.f,e3.l,?_,e3.n⟩,⟨fun t=>?_,?_,?_,?_⟩,hl⟩
    ·have:=h.x
     simp only [hqt,hrt,e0,this]
    ·simp only [knowP_set,hasF_snoc]
     by_cases ht:t=x.t
     ·subst ht;simp
     ·rw [if_neg ht,show q.names=p.names by rw [e0],hn.1]
      simp [show ¬ x.t=t from fun e=>ht e.symm,hqt]
    ·intro t ht
     simp only [List.mem_append,List.mem_singleton] at ht
     rcases ht with ht|rfl
     ·exact hn.2.1 t (by rw [← hqt];exact ht)
     ·exact e4
    ·rw [e0];exact hn.2.2.1
    ·rw [e0];exact hn.2.2.2
theorem isL_cons {t:List Nat} {l:List Lx} (h:isL t l=true):∃ x l',l=x :: l'∧x.k=3∧x.t=t:=by
 cases l with
 |nil=>cases h
 |cons x l'=>exact⟨x,l',rfl,by simpa [isL] using h⟩
theorem tokensR_ok:∀ (n m:Nat) {r:RS} {p:PS},Rel ls r p→NH p→p.l.length<n→p.l.length≤m→Ok ls (tokensR s ls n r) NH ((tokenP s p).bind fun p=>tokensLP s m p)
 |0,_,_,_,_,_,hn,_=>by omega
 |n+1,m,r,p,h,hN,hn,hm=>by
  have ht:=tokenR_ok (s:=s) h hN
  simp only [tokensR,h.f0,if_true]
  cases hq:tokenP s p with
  |error e =>
   rw [hq] at ht
   simp only [Except.bind,Ok]
   rw [nextQ_f (by rw [ht.1];exact ht.2)]
   exact ht
  |ok q =>
   rw [hq] at ht
   obtain⟨hr,hN',hl⟩:=ht
   simp only [Except.bind]
   obtain⟨m,rfl⟩:∃ k,m=k+1:=⟨m-1,by omega⟩
   unfold tokensLP
   rw [hr.l]
   cases hc:isL sComma (ls.drop (tokenR s ls r).pos) with
   |false=>simp only [nextQ,hr.f0,hc];exact⟨hr,hN'⟩
   |true =>
    simp only [nextQ,hr.f0,hc,and_self,if_true]
    rcases hr.cases (s:=s) with⟨x,hx,hl2,_,_,e2,hr2⟩|⟨hx,hl2,_,_,e2⟩
    ·rw [e2]
     simp only [Except.bind]
     have hl3:({ q with l:=ls.drop ((tokenR s ls r).pos+1) }:PS).l.length+1=q.l.length:=by rw [hl2];rfl
     exact tokensR_ok n m hr2 hN' (by omega) (by omega)
    ·rw [hr.l] at hl2
     rw [hl2] at hc;cases hc
end
end Go.Av
end
noncomputable section
namespace Go.Av
open Go Go.Proofs
set_option maxRecDepth 10000
abbrev endO (s:List Nat) (p:PS):Except Fa PS→List Ob
 |.ok q=>pO s q
 |.error _=>pE p
abbrev endR:Except Fa PS→AV
 |.ok _=>.tup []
 |.error e=>.pan (refD e)
structure PB (p:PS):Prop where
 len:∀ x ∈ p.l,x.t.length≤1048576
 l:p.l.length≤100000
 toks:p.x.tokens.length≤1000
 rules:p.x.rules.length≤1000
 uses:p.uses.length+p.l.length≤200000
 total:p.total≤1000
theorem isPT (x:Lx) (k:Nat) (t:List Nat) (h1:x.k=k∧x.t=t):KnownCall Tryz.prog 186 [encL x,.int .i64 (k:Nat),.str t] (.d (.bool true)):=by
 obtain⟨h1,h2⟩:=h1
 subst h1 h2
 refine knownE Yo (fnAt Tryz.func186 (by kernel_rfl) (by kernel_rfl):FnAt _ _ (mkFn Tryz.f186 [])) ?_
 repeat' (first|refine zW [] ?_|((refine zB [] (fun h=>?_) (fun h=>?_))<;>(first|exact zk h|skip))|refine zX [] ?_|(refine zE ?_;((refine congrArg (fun b=>AV.d (.bool b)) ?_;simp_all)))|((exfalso;(simp at h<;>omega)))|fail)
theorem isPF (x:Lx) (k:Nat) (t:List Nat) (h1:¬ (x.k=k∧x.t=t)):KnownCall Tryz.prog 186 [encL x,.int .i64 (k:Nat),.str t] (.d (.bool false)):=by
 refine knownE Yo (fnAt Tryz.func186 (by kernel_rfl) (by kernel_rfl):FnAt _ _ (mkFn Tryz.f186 [])) ?_
 repeat' (first|refine zW [] ?_|((refine zB [] (fun h=>?_) (fun h=>?_))<;>(first|exact zk h|skip))|refine zX [] ?_|(refine zE ?_;((refine congrArg (fun b=>AV.d (.bool b)) ?_;simp_all<;>omega)))|((exfalso;(simp at h<;>omega)))|fail)
theorem wantC (s:List Nat) (p:PS) (k:Nat) (t:List Nat):ACall Tryz.prog 227 [.bp 0 0,.d (.int .i64 (k:Nat)),.d (.str t)] (pO s p) (endR (wantP s k t p)) (endO s p (wantP s k t p)):=by
 cases hl:p.l with
 |nil =>
  have c0:=nextEndP s p hl
  rw [show wantP s k t p=.error (5,s.length) by simp [wantP,nextP,hl,Except.bind]]
  refine acallP_of_run (fnAt Tryz.func227 (by kernel_rfl) (by kernel_rfl):FnAt _ _ (mkFn Tryz.f227 [])) rfl rfl rfl rfl ?_
  repeat' (first|refine zW [] ?_|((refine zB [] (fun h=>?_) (fun h=>?_))<;>(first|exact zk h|skip))|refine zX [] ?_|refine oFP (c0) ?_|(refine zE ?_;(skip))|(exact⟨rfl,rfl,(by repeat' (first|exact trivial|refine⟨.refl,?_⟩|refine⟨.gone,?_⟩|refine⟨.box (by repeat' (first|exact trivial|refine⟨.inr rfl,?_⟩|refine⟨.inl rfl,?_⟩)),?_⟩))⟩)|((exfalso;(simp at h<;>omega)))|fail)
 |cons x l =>
  have c0:=nextOkP s p x l hl
  by_cases hc:x.k=k∧x.t=t
  ·have c1:=isPT x k t hc
   rw [show wantP s k t p=.ok { p with l:=l } by simp [wantP,nextP,hl,Except.bind,hc]]
   refine acallW_of_run Yo (fnAt Tryz.func227 (by kernel_rfl) (by kernel_rfl):FnAt _ _ (mkFn Tryz.f227 [])) rfl rfl rfl rfl rfl ?_
   repeat' (first|refine zW [] ?_|((refine zB [] (fun h=>?_) (fun h=>?_))<;>(first|exact zk h|skip))|refine zX [] ?_|refine oF (c0) ?_|refine eF (c0) ?_|refine zC (c1) ?_|(refine zE ?_;(skip))|(((first|refine Yt ?_|skip);exact⟨trivial,_,_,rfl,rfl,.refl,(by repeat' (first|exact trivial|refine⟨.refl,?_⟩|refine⟨.gone,?_⟩|refine⟨.box (by repeat' (first|exact trivial|refine⟨.inr rfl,?_⟩|refine⟨.inl rfl,?_⟩)),?_⟩))⟩))|((exfalso;(simp at h<;>omega)))|fail)
  ·have c1:=isPF x k t hc
   have c2:=failP s { p with l:=l } 3 x.a
   rw [show wantP s k t p=.error (3,x.a) by simp only [wantP,nextP,hl,Except.bind];rw [if_neg hc]]
   refine acallP_of_run (fnAt Tryz.func227 (by kernel_rfl) (by kernel_rfl):FnAt _ _ (mkFn Tryz.f227 [])) rfl rfl rfl rfl ?_
   repeat' (first|refine zW [] ?_|((refine zB [] (fun h=>?_) (fun h=>?_))<;>(first|exact zk h|skip))|refine zX [] ?_|refine oF (c0) ?_|refine eF (c0) ?_|refine zC (c1) ?_|refine oFP (c2) ?_|(refine zE ?_;(skip))|(exact⟨rfl,rfl,(by repeat' (first|exact trivial|refine⟨.refl,?_⟩|refine⟨.gone,?_⟩|refine⟨.box (by repeat' (first|exact trivial|refine⟨.inr rfl,?_⟩|refine⟨.inl rfl,?_⟩)),?_⟩))⟩)|((exfalso;(simp at h<;>omega)))|fail)
theorem headC (s:List Nat) (p:PS) (t:List Nat):ACall Tryz.prog 178 [.bp 0 0,.d (.str t)] (pO s p) (endR (wantP s 1 t p)) (endO s p (wantP s 1 t p)):=by
 have c0:=wantC s p 1 t
 cases h:wantP s 1 t p with
 |ok q =>
  rw [h] at c0
  refine acallW_of_run Yo (fnAt Tryz.func178 (by kernel_rfl) (by kernel_rfl):FnAt _ _ (mkFn Tryz.f178 [])) rfl rfl rfl rfl rfl ?_
  repeat' (first|refine zW [] ?_|((refine zB [] (fun h=>?_) (fun h=>?_))<;>(first|exact zk h|skip))|refine zX [] ?_|refine oF (c0) ?_|refine eF (c0) ?_|(refine zE ?_;(skip))|(((first|refine Yt ?_|skip);exact⟨trivial,_,_,rfl,rfl,.refl,(by repeat' (first|exact trivial|refine⟨.refl,?_⟩|refine⟨.gone,?_⟩|refine⟨.box (by repeat' (first|exact trivial|refine⟨.inr rfl,?_⟩|refine⟨.inl rfl,?_⟩)),?_⟩))⟩))|fail)
 |error e =>
  rw [h] at c0
  refine acallP_of_run (fnAt Tryz.func178 (by kernel_rfl) (by kernel_rfl):FnAt _ _ (mkFn Tryz.f178 [])) rfl rfl rfl rfl ?_
  repeat' (first|refine zW [] ?_|((refine zB [] (fun h=>?_) (fun h=>?_))<;>(first|exact zk h|skip))|refine zX [] ?_|refine oFP (c0) ?_|(refine zE ?_;(skip))|(exact⟨rfl,rfl,(by repeat' (first|exact trivial|refine⟨.refl,?_⟩|refine⟨.gone,?_⟩|refine⟨.box (by repeat' (first|exact trivial|refine⟨.inr rfl,?_⟩|refine⟨.inl rfl,?_⟩)),?_⟩))⟩)|fail)
theorem endC (s:List Nat) (p:PS):ACall Tryz.prog 182 [.bp 0 0] (pO s p) (endR (wantP s 3 sSemi p)) (endO s p (wantP s 3 sSemi p)):=by
 have c0:=wantC s p 3 sSemi
 cases h:wantP s 3 sSemi p with
 |ok q =>
  rw [h] at c0
  refine acallW_of_run Yo (fnAt Tryz.func182 (by kernel_rfl) (by kernel_rfl):FnAt _ _ (mkFn Tryz.f182 [])) rfl rfl rfl rfl rfl ?_
  repeat' (first|refine zW [] ?_|((refine zB [] (fun h=>?_) (fun h=>?_))<;>(first|exact zk h|skip))|refine zX [] ?_|refine oF (c0) ?_|refine eF (c0) ?_|(refine zE ?_;(skip))|(((first|refine Yt ?_|skip);exact⟨trivial,_,_,rfl,rfl,.refl,(by repeat' (first|exact trivial|refine⟨.refl,?_⟩|refine⟨.gone,?_⟩|refine⟨.box (by repeat' (first|exact trivial|refine⟨.inr rfl,?_⟩|refine⟨.inl rfl,?_⟩)),?_⟩))⟩))|fail)
 |error e =>
  rw [h] at c0
  refine acallP_of_run (fnAt Tryz.func182 (by kernel_rfl) (by kernel_rfl):FnAt _ _ (mkFn Tryz.f182 [])) rfl rfl rfl rfl ?_
  repeat' (first|refine zW [] ?_|((refine zB [] (fun h=>?_) (fun h=>?_))<;>(first|exact zk h|skip))|refine zX [] ?_|refine oFP (c0) ?_|(refine zE ?_;(skip))|(exact⟨rfl,rfl,(by repeat' (first|exact trivial|refine⟨.refl,?_⟩|refine⟨.gone,?_⟩|refine⟨.box (by repeat' (first|exact trivial|refine⟨.inr rfl,?_⟩|refine⟨.inl rfl,?_⟩)),?_⟩))⟩)|fail)
theorem isCP (s:List Nat) (p:PS) (t:List Nat):ACall Tryz.prog 184 [.bp 0 0,.d (.str t)] (pO s p) (.d (.bool (isL t p.l))) (pO s p):=by
 cases hl:p.l with
 |nil =>
  unfold pO pBox
  rw [hl,show isL t []=false from rfl]
  refine acallW_of_run Yo (fnAt Tryz.func184 (by kernel_rfl) (by kernel_rfl):FnAt _ _ (mkFn Tryz.f184 [])) rfl rfl rfl rfl rfl ?_
  repeat' (first|refine zW [] ?_|((refine zB [] (fun h=>?_) (fun h=>?_))<;>(first|exact zk h|skip))|refine zX [] ?_|(refine zE ?_;(skip))|(((first|refine Yt ?_|skip);exact⟨trivial,_,_,rfl,rfl,.refl,(by repeat' (first|exact trivial|refine⟨.refl,?_⟩|refine⟨.gone,?_⟩|refine⟨.box (by repeat' (first|exact trivial|refine⟨.inr rfl,?_⟩|refine⟨.inl rfl,?_⟩)),?_⟩))⟩))|((exfalso;(simp at h<;>omega)))|fail)
 |cons x l =>
  unfold pO pBox
  rw [hl,List.map_cons]
  by_cases hc:x.k=3∧x.t=t
  ·have c1:=isPT x 3 t hc
   rw [show isL t (x :: l)=true by simp [isL,hc]]
   refine acallW_of_run Yo (fnAt Tryz.func184 (by kernel_rfl) (by kernel_rfl):FnAt _ _ (mkFn Tryz.f184 [])) rfl rfl rfl rfl rfl ?_
   repeat' (first|refine zW [] ?_|((refine zB [] (fun h=>?_) (fun h=>?_))<;>(first|exact zk h|skip))|refine zX [] ?_|refine zC (c1) ?_|refine oX (frz:=[]) (v:=.d (.ep [.int .i64 (x.k:Nat),.str x.t,.int .i64 (x.a:Nat)])) Yo ?_ (hf:=(by first|(simp [inB]<;>fail)|(simp [inB];omega))) (he:=(by first|(simp [List.getD_eq_getElem?_getD,cellsD,hl]<;>fail)|fail))|refine eX (v:=.d (.ep [.int .i64 (x.k:Nat),.str x.t,.int .i64 (x.a:Nat)])) ?_ (hf:=(by first|(simp [inB]<;>fail)|(simp [inB];omega))) (he:=(by first|(simp [List.getD_eq_getElem?_getD,cellsD,hl]<;>fail)|fail))|(refine zE ?_;(skip))|(((first|refine Yt ?_|skip);exact⟨trivial,_,_,rfl,rfl,.refl,(by repeat' (first|exact trivial|refine⟨.refl,?_⟩|refine⟨.gone,?_⟩|refine⟨.box (by repeat' (first|exact trivial|refine⟨.inr rfl,?_⟩|refine⟨.inl rfl,?_⟩)),?_⟩))⟩))|((exfalso;first|(simp at h<;>fail)|(simp at h;omega)))|fail)
  ·have c1:=isPF x 3 t hc
   rw [show isL t (x :: l)=false by simp only [isL,decide_eq_false_iff_not];exact hc]
   refine acallW_of_run Yo (fnAt Tryz.func184 (by kernel_rfl) (by kernel_rfl):FnAt _ _ (mkFn Tryz.f184 [])) rfl rfl rfl rfl rfl ?_
   repeat' (first|refine zW [] ?_|((refine zB [] (fun h=>?_) (fun h=>?_))<;>(first|exact zk h|skip))|refine zX [] ?_|refine zC (c1) ?_|refine oX (frz:=[]) (v:=.d (.ep [.int .i64 (x.k:Nat),.str x.t,.int .i64 (x.a:Nat)])) Yo ?_ (hf:=(by first|(simp [inB]<;>fail)|(simp [inB];omega))) (he:=(by first|(simp [List.getD_eq_getElem?_getD,cellsD,hl]<;>fail)|fail))|refine eX (v:=.d (.ep [.int .i64 (x.k:Nat),.str x.t,.int .i64 (x.a:Nat)])) ?_ (hf:=(by first|(simp [inB]<;>fail)|(simp [inB];omega))) (he:=(by first|(simp [List.getD_eq_getElem?_getD,cellsD,hl]<;>fail)|fail))|(refine zE ?_;(skip))|(((first|refine Yt ?_|skip);exact⟨trivial,_,_,rfl,rfl,.refl,(by repeat' (first|exact trivial|refine⟨.refl,?_⟩|refine⟨.gone,?_⟩|refine⟨.box (by repeat' (first|exact trivial|refine⟨.inr rfl,?_⟩|refine⟨.inl rfl,?_⟩)),?_⟩))⟩))|((exfalso;first|(simp at h<;>fail)|(simp at h;omega)))|fail)
abbrev endRL:Except Fa (Lx × PS)→AV
 |.ok q=>.d (encL q.1)
 |.error e=>.pan (refD e)
abbrev endOL (s:List Nat) (p:PS):Except Fa (Lx × PS)→List Ob
 |.ok q=>pO s q.2
 |.error _=>pE p
theorem wordC (s:List Nat) (p:PS) (F:FuncId) (may:List Nat→Bool) (hb:∀ x ∈ p.l,x.t.length≤1048576) (hm:∀ t:List Nat,t.length≤1048576→KnownCall Tryz.prog F [.str t] (.d (.bool (may t)))) :
  ACall Tryz.prog 185 [.bp 0 0,.d (.fn (.func F) [] [])] (pO s p) (endRL (wordP s may p)) (endOL s p (wordP s may p)):=by
 cases hl:p.l with
 |nil =>
  have c0:=nextEndP s p hl
  rw [show wordP s may p=.error (5,s.length) by simp [wordP,nextP,hl,Except.bind]]
  refine acallP_of_run (fnAt Tryz.func185 (by kernel_rfl) (by kernel_rfl):FnAt _ _ (mkFn Tryz.f185 [])) rfl rfl rfl rfl ?_
  repeat' (first|refine zW [] ?_|((refine zB [] (fun h=>?_) (fun h=>?_))<;>(first|exact zk h|skip))|refine zX [] ?_|refine oFP (c0) ?_|(refine zE ?_;(skip))|(exact⟨rfl,rfl,(by repeat' (first|exact trivial|refine⟨.refl,?_⟩|refine⟨.gone,?_⟩|refine⟨.box (by repeat' (first|exact trivial|refine⟨.inr rfl,?_⟩|refine⟨.inl rfl,?_⟩)),?_⟩))⟩)|((exfalso;(simp at h<;>omega)))|fail)
 |cons x l =>
  have c0:=nextOkP s p x l hl
  have cm:=hm x.t (hb x (by rw [hl];exact List.mem_cons_self))
  by_cases hk:x.k=1
  ·have hkk:AV.d (.bool (((x.k:Nat):Int) != 1))=.d (.bool false):=by rw [hk];rfl
   cases hy:may x.t with
   |true =>
    rw [hy] at cm
    rw [show wordP s may p=.ok (x,{ p with l:=l }) by simp [wordP,nextP,hl,Except.bind,hk,hy]]
    refine acallW_of_run Yo (fnAt Tryz.func185 (by kernel_rfl) (by kernel_rfl):FnAt _ _ (mkFn Tryz.f185 [])) rfl rfl rfl rfl rfl ?_
    repeat' (first|refine oX (frz:=[]) (v:=.d (.bool false)) Yo ?_ (he:=(hkk))|refine eX (v:=.d (.bool false)) ?_ (he:=(hkk))|refine zW [] ?_|((refine zB [] (fun h=>?_) (fun h=>?_))<;>(first|exact zk h|skip))|refine zX [] ?_|refine oF (c0) ?_|refine eF (c0) ?_|refine zC (cm) ?_|(refine zE ?_;(skip))|(((first|refine Yt ?_|skip);exact⟨trivial,_,_,rfl,rfl,.refl,(by repeat' (first|exact trivial|refine⟨.refl,?_⟩|refine⟨.gone,?_⟩|refine⟨.box (by repeat' (first|exact trivial|refine⟨.inr rfl,?_⟩|refine⟨.inl rfl,?_⟩)),?_⟩))⟩))|((exfalso;(simp at h<;>omega)))|fail)
   |false =>
    rw [hy] at cm
    have c2:=failP s { p with l:=l } 12 x.a
    rw [show wordP s may p=.error (12,x.a) by simp [wordP,nextP,hl,Except.bind,hk,hy]]
    refine acallP_of_run (fnAt Tryz.func185 (by kernel_rfl) (by kernel_rfl):FnAt _ _ (mkFn Tryz.f185 [])) rfl rfl rfl rfl ?_
    repeat' (first|refine oX (frz:=[]) (v:=.d (.bool false)) Yo ?_ (he:=(hkk))|refine eX (v:=.d (.bool false)) ?_ (he:=(hkk))|refine zW [] ?_|((refine zB [] (fun h=>?_) (fun h=>?_))<;>(first|exact zk h|skip))|refine zX [] ?_|refine oF (c0) ?_|refine eF (c0) ?_|refine zC (cm) ?_|refine oFP (c2) ?_|(refine zE ?_;(skip))|(exact⟨rfl,rfl,(by repeat' (first|exact trivial|refine⟨.refl,?_⟩|refine⟨.gone,?_⟩|refine⟨.box (by repeat' (first|exact trivial|refine⟨.inr rfl,?_⟩|refine⟨.inl rfl,?_⟩)),?_⟩))⟩)|((exfalso;(simp at h<;>omega)))|fail)
  ·have c2:=failP s { p with l:=l } 3 x.a
   rw [show wordP s may p=.error (3,x.a) by simp [wordP,nextP,hl,Except.bind,hk]]
   refine acallP_of_run (fnAt Tryz.func185 (by kernel_rfl) (by kernel_rfl):FnAt _ _ (mkFn Tryz.f185 [])) rfl rfl rfl rfl ?_
   repeat' (first|refine zW [] ?_|((refine zB [] (fun h=>?_) (fun h=>?_))<;>(first|exact zk h|skip))|refine zX [] ?_|refine oF (c0) ?_|refine eF (c0) ?_|refine oFP (c2) ?_|(refine zE ?_;(skip))|(exact⟨rfl,rfl,(by repeat' (first|exact trivial|refine⟨.refl,?_⟩|refine⟨.gone,?_⟩|refine⟨.box (by repeat' (first|exact trivial|refine⟨.inr rfl,?_⟩|refine⟨.inl rfl,?_⟩)),?_⟩))⟩)|((exfalso;(simp at h<;>omega)))|fail)
end Go.Av
end
noncomputable section
namespace Go.Av
open Go Go.Proofs
set_option maxRecDepth 10000
abbrev endRT:Except Fa (List Nat × PS)→AV
 |.ok q=>.d (.str q.1)
 |.error e=>.pan (refD e)
abbrev endOT (s:List Nat) (p:PS):Except Fa (List Nat × PS)→List Ob
 |.ok q=>pO s q.2
 |.error _=>pE p
theorem smallC:∀ t:List Nat,t.length≤1048576→KnownCall Tryz.prog 121 [.str t] (.d (.bool (smallF t))):=fun t h=>small t (by omega)
theorem capitalC:∀ t:List Nat,t.length≤1048576→KnownCall Tryz.prog 122 [.str t] (.d (.bool (capitalF t))):=fun t h=>capital t (by omega)
set_option maxHeartbeats 4000000 in
theorem terminalC (s:List Nat) (p:PS) (sep:Bool) (hb:PB p):ACall Tryz.prog 183 [.bp 0 0,.d (.bool sep)] (pO s p) (endRT (terminalP s sep p)) (endOT s p (terminalP s sep p)):=by
 have c0:=wordC s p _ smallF hb.len smallC
 have ht:=hb.toks
 unfold terminalP
 cases hw:wordP s smallF p with
 |error e =>
  rw [hw] at c0
  simp only [Except.bind]
  refine acallP_of_run (fnAt Tryz.func183 (by kernel_rfl) (by kernel_rfl):FnAt _ _ (mkFn Tryz.f183 [])) rfl rfl rfl rfl ?_
  repeat' (first|refine zW [] ?_|((refine zB [] (fun h=>?_) (fun h=>?_))<;>(first|exact zk h|skip))|refine zX [] ?_|refine oFP (c0) ?_|(refine zE ?_;(skip))|(exact⟨rfl,rfl,(by repeat' (first|exact trivial|refine⟨.refl,?_⟩|refine⟨.gone,?_⟩|refine⟨.box (by repeat' (first|exact trivial|refine⟨.inr rfl,?_⟩|refine⟨.inl rfl,?_⟩)),?_⟩))⟩)|((exfalso;(simp at h<;>omega)))|fail)
 |ok q =>
  rw [hw] at c0
  obtain⟨x,q⟩:=q
  have hqx:q.x=p.x:=by
   unfold wordP nextP at hw
   cases hl:p.l with
   |nil=>rw [hl] at hw;simp [Except.bind] at hw
   |cons y l =>
    rw [hl] at hw
    simp only [Except.bind] at hw
    split at hw
    ·cases hw
    ·split at hw
     ·simp only [Except.ok.injEq,Prod.mk.injEq] at hw;rw [← hw.2]
     ·cases hw
  simp only [Except.bind]
  obtain⟨kk,hkk⟩:∃ kk,kk=knowP q.names x.t:=⟨_,rfl⟩
  rw [← hkk]
  have eK:=hkk
  obtain⟨a,b,c⟩:=kk
  have e8:ACall Tryz.prog 180 [.bp 0 0,.d (.int .i64 (8:Nat)),.d (.int .i64 (x.a:Nat))] (pO s q) (.pan (refD (8,x.a))) (pE p):=by
   have:=failP s q 8 x.a
   rw [show pE q=pE p by unfold pE;rw [hqx]] at this;exact this
  have e6:ACall Tryz.prog 180 [.bp 0 0,.d (.int .i64 (6:Nat)),.d (.int .i64 (x.a:Nat))] (pO s q) (.pan (refD (6,x.a))) (pE p):=by
   have:=failP s q 6 x.a
   rw [show pE q=pE p by unfold pE;rw [hqx]] at this;exact this
  by_cases hab:a=true∨b=true
  ·rw [if_pos (by simpa using hab)]
   cases a with
   |true =>
    refine acallP_of_run (fnAt Tryz.func183 (by kernel_rfl) (by kernel_rfl):FnAt _ _ (mkFn Tryz.f183 [])) rfl rfl rfl rfl ?_
    repeat' (first|refine zW [] ?_|((refine zB [] (fun h=>?_) (fun h=>?_))<;>(first|exact zk h|skip))|refine zX [] ?_|refine oF (c0) ?_|refine eF (c0) ?_|refine oFP (e8) ?_|refine eX ?_ (hv:=(evAny_know q.names x.t).trans (by rw [← eK]))|(refine zE ?_;(skip))|(exact⟨rfl,rfl,(by repeat' (first|exact trivial|refine⟨.refl,?_⟩|refine⟨.gone,?_⟩|refine⟨.box (by repeat' (first|exact trivial|refine⟨.inr rfl,?_⟩|refine⟨.inl rfl,?_⟩)),?_⟩))⟩)|((exfalso;(simp at h<;>omega)))|fail)
   |false =>
    cases b with
    |true =>
     refine acallP_of_run (fnAt Tryz.func183 (by kernel_rfl) (by kernel_rfl):FnAt _ _ (mkFn Tryz.f183 [])) rfl rfl rfl rfl ?_
     repeat' (first|refine zW [] ?_|((refine zB [] (fun h=>?_) (fun h=>?_))<;>(first|exact zk h|skip))|refine zX [] ?_|refine oF (c0) ?_|refine eF (c0) ?_|refine oFP (e8) ?_|refine eX ?_ (hv:=(evAny_know q.names x.t).trans (by rw [← eK]))|(refine zE ?_;(skip))|(exact⟨rfl,rfl,(by repeat' (first|exact trivial|refine⟨.refl,?_⟩|refine⟨.gone,?_⟩|refine⟨.box (by repeat' (first|exact trivial|refine⟨.inr rfl,?_⟩|refine⟨.inl rfl,?_⟩)),?_⟩))⟩)|((exfalso;(simp at h<;>omega)))|fail)
    |false=>simp at hab
  ·rw [if_neg (by simpa using hab)]
   have ha:a=false:=by cases a<;>simp at hab ⊢
   have hb':b=false:=by cases b<;>simp at hab ⊢
   subst ha hb'
   cases sep with
   |true =>
    rw [if_neg (by simp)]
    refine acallW_of_run Yo (fnAt Tryz.func183 (by kernel_rfl) (by kernel_rfl):FnAt _ _ (mkFn Tryz.f183 [])) rfl rfl rfl rfl rfl ?_
    repeat' (first|refine zW [] ?_|((refine zB [] (fun h=>?_) (fun h=>?_))<;>(first|exact zk h|skip))|refine zX [] ?_|refine oF (c0) ?_|refine eF (c0) ?_|refine eX ?_ (hv:=(evAny_know q.names x.t).trans (by rw [← eK]))|refine eX ?_ (hv:=evAny_set q.names x.t (false,true,false))|(refine zE ?_;(skip))|(((first|refine Yt ?_|skip);exact⟨trivial,_,_,rfl,rfl,.refl,(by repeat' (first|exact trivial|refine⟨.refl,?_⟩|refine⟨.gone,?_⟩|refine⟨.box (by repeat' (first|exact trivial|refine⟨.inr rfl,?_⟩|refine⟨.inl rfl,?_⟩)),?_⟩))⟩))|((exfalso;(simp at h<;>omega)))|fail)
   |false =>
    by_cases h8:q.x.tokens.length=8
    ·rw [if_pos ⟨rfl,h8⟩]
     refine acallP_of_run (fnAt Tryz.func183 (by kernel_rfl) (by kernel_rfl):FnAt _ _ (mkFn Tryz.f183 [])) rfl rfl rfl rfl ?_
     repeat' (first|refine zW [] ?_|((refine zB [] (fun h=>?_) (fun h=>?_))<;>(first|exact zk h|skip))|refine zX [] ?_|refine oF (c0) ?_|refine eF (c0) ?_|refine oFP (e6) ?_|refine eX ?_ (hv:=(evAny_know q.names x.t).trans (by rw [← eK]))|(refine zE ?_;(skip))|(exact⟨rfl,rfl,(by repeat' (first|exact trivial|refine⟨.refl,?_⟩|refine⟨.gone,?_⟩|refine⟨.box (by repeat' (first|exact trivial|refine⟨.inr rfl,?_⟩|refine⟨.inl rfl,?_⟩)),?_⟩))⟩)|((exfalso;(simp at h<;>omega)))|fail)
    ·rw [if_neg (fun e=>h8 e.2)]
     refine acallW_of_run Yo (fnAt Tryz.func183 (by kernel_rfl) (by kernel_rfl):FnAt _ _ (mkFn Tryz.f183 [])) rfl rfl rfl rfl rfl ?_
     repeat' (first|refine zW [] ?_|((refine zB [] (fun h=>?_) (fun h=>?_))<;>(first|exact zk h|skip))|refine zX [] ?_|refine oF (c0) ?_|refine eF (c0) ?_|refine eX ?_ (hv:=(evAny_know q.names x.t).trans (by rw [← eK]))|refine eX ?_ (hv:=evAny_set q.names x.t (true,false,false))|(refine zE ?_;(skip))|(((first|refine Yt ?_|skip);exact⟨trivial,_,_,rfl,rfl,.refl,(by repeat' (first|exact trivial|refine⟨.refl,?_⟩|refine⟨.gone,?_⟩|refine⟨.box (by repeat' (first|exact trivial|refine⟨.inr rfl,?_⟩|refine⟨.inl rfl,?_⟩)),?_⟩))⟩))|((exfalso;(simp at h<;>omega)))|fail)
end Go.Av
end
noncomputable section
namespace Go.Av
open Go Go.Proofs
set_option maxRecDepth 10000
def classI (c:Int):Nat:=if signI c then 4 else if letterI c then 1 else if digitI c then 2 else if c == 95 then 3 else if blankI c then 5 else if c == 35 then 6 else 0
def isI64:Option (AV × Option (List Ob))→Nat→Bool
 |some (.d (.int .i64 (.ofNat n)),none),m=>Nat.beq n m
 |_,_=>false
theorem isI64_ok {r:Option (AV × Option (List Ob))} {m:Nat} (h:isI64 r m=true):r=some (.d (.int .i64 (m:Nat)),none):=by
 unfold isI64 at h
 split at h
 ·have:=Nat.eq_of_beq_eq_true h
  subst this;rfl
 ·cases h
def allTo (p:Nat→Bool):Nat→Bool
 |0=>true
 |n+1=>p n && allTo p n
theorem allTo_ok {p:Nat→Bool}:∀ {n:Nat},allTo p n=true→∀ i,i<n→p i=true
 |0,_,i,hi=>by omega
 |n+1,h,i,hi=>by
  simp only [allTo,Bool.and_eq_true] at h
  rcases Nat.lt_or_ge i n with h1|h1
  ·exact allTo_ok h.2 i h1
  ·rw [show i=n by omega];exact h.1
def classB (c:Nat):Bool:=isI64 (evBoth Et Ft.get? (hdlM .nil Et Ft.get? 1000 5) 1000 268 [.d (.int .u8 (c:Nat))] []) (classI (c:Nat))
def classC (k:Nat):Bool:=allTo (fun i=>classB (32*k+i)) 32
theorem classC0:classC 0=true:=by kernel_rfl
theorem classC1:classC 1=true:=by kernel_rfl
theorem classC2:classC 2=true:=by kernel_rfl
theorem classC3:classC 3=true:=by kernel_rfl
theorem classC4:classC 4=true:=by kernel_rfl
theorem classC5:classC 5=true:=by kernel_rfl
theorem classC6:classC 6=true:=by kernel_rfl
theorem classC7:classC 7=true:=by kernel_rfl
theorem classB_all (c:Nat) (h:c<256):classB c=true:=by
 have hk:classC (c / 32)=true:=by
  rcases(by omega:c / 32=0∨c / 32=1∨c / 32=2∨c / 32=3∨c / 32=4∨c / 32=5∨c / 32=6∨c / 32=7) with e|e|e|e|e|e|e|e<;>rw [e]
  ·exact classC0
  ·exact classC1
  ·exact classC2
  ·exact classC3
  ·exact classC4
  ·exact classC5
  ·exact classC6
  ·exact classC7
 have:=allTo_ok hk (c % 32) (by omega)
 simpa only [Nat.div_add_mod] using this
theorem classP (c:Nat) (h:c<256):KnownCall Tryz.prog 268 [.int .u8 (c:Nat)] (.d (.int .i64 (classI (c:Nat):Nat))) :=
 known (T:=.nil) trivial Yo (by kernel_rfl) Ft_ok (k:=1000) (n:=5) (isI64_ok (classB_all c h))
end Go.Av
end
noncomputable section
namespace Go.Av
open Go Go.Proofs
set_option maxRecDepth 10000
abbrev curO (s:List Nat) (p:Nat):Ob:=.box [.d (.str s),.d (.int .i64 (p:Nat))]
def clsAt (s:List Nat) (p:Nat):Nat:=match s[p]? with|some c=>classI (c:Nat)|none=>0
theorem curClass (X':List Ob) (s:List Nat) (p:Nat) (hb:∀ c ∈ s,c<256) (hl:s.length≤1048576) (hp:p≤s.length) :
  ACall Tryz.prog 252 [.bp 0 0] (curO s p :: X') (.d (.int .i64 (clsAt s p:Nat))) (curO s p :: X'):=by
 rcases Nat.lt_or_ge p s.length with hlt|hge
 ·obtain⟨c,hc⟩:=get_ok hlt
  rw [show clsAt s p=classI (c:Nat) by simp [clsAt,hc]]
  have cc:=classP c (hb c (List.mem_of_getElem? hc))
  generalize classI (c:Nat)=k at cc ⊢
  refine acall_of_run Yo (fnAt Tryz.func252 (by kernel_rfl) (by kernel_rfl):FnAt _ _ (mkFn Tryz.f252 [])) rfl rfl ?_
  repeat' (first|refine zW [] ?_|((refine zB [] (fun h=>?_) (fun h=>?_))<;>(first|exact zk h|skip))|refine zX [] ?_|refine oX (frz:=[]) (v:=.d (.int .u8 (c:Nat))) Yo ?_ (hf:=by first|(simp [inB]<;>fail)|(simp [inB];omega)) (he:=by first|(simp [List.getD_eq_getElem?_getD,hc]<;>fail)|fail)|refine eX (v:=.d (.int .u8 (c:Nat))) ?_ (hf:=by first|(simp [inB]<;>fail)|(simp [inB];omega)) (he:=by first|(simp [List.getD_eq_getElem?_getD,hc]<;>fail)|fail)|refine zC (cc) ?_|(refine zE ?_;(skip))|((refine Yt ?_;exact⟨trivial,rfl,rfl⟩))|((exfalso;first|(simp at h<;>fail)|(simp at h;omega)))|fail)
 ·have hpe:p=s.length:=by omega
  subst hpe
  rw [show clsAt s s.length=0 by simp [clsAt]]
  refine acall_of_run Yo (fnAt Tryz.func252 (by kernel_rfl) (by kernel_rfl):FnAt _ _ (mkFn Tryz.f252 [])) rfl rfl ?_
  repeat' (first|refine zW [] ?_|((refine zB [] (fun h=>?_) (fun h=>?_))<;>(first|exact zk h|skip))|refine zX [] ?_|(refine zE ?_;(skip))|((refine Yt ?_;exact⟨trivial,rfl,rfl⟩))|((exfalso;first|(simp at h<;>fail)|(simp at h;omega)))|fail)
end Go.Av
end
noncomputable section
namespace Go.Av
open Go Go.Proofs
set_option maxRecDepth 10000
def inK (l:List Int) (k:Int):Bool:=l.any (fun x=>x == k)
def inC (l:List Int) (c:Int):Bool:=inK l (classI c:Nat)
set_option maxHeartbeats 1000000 in
theorem curPass (X':List Ob) (s:List Nat) (p:Nat) (l:List Int) (hb:∀ c ∈ s,c<256) (hl:s.length≤1048576) (hp:p≤s.length) (hll:l.length≤1048576) :
  ACall Tryz.prog 253 [.bp 0 0,.d (ints l)] (curO s p :: X') (.tup []) (curO s (p+runL (inC l) (s.drop p)) :: X'):=by
 obtain⟨X,hX⟩:∃ X,X=p+runL (inC l) (s.drop p):=⟨_,rfl⟩
 rw [← hX]
 refine acall_of_run Yo (fnAt Tryz.func253 (by kernel_rfl) (by kernel_rfl):FnAt _ _ (mkFn Tryz.f253 [])) rfl rfl ?_
 repeat refine zS ?_
 refine Run.loop (fun q:Nat=>⟨PT.ofList [(0,.bp 0 0),(1,.d (ints l))],(curO s q :: X'),[]⟩) (fun q=>q≤s.length∧q+runL (inC l) (s.drop q)=X) (fun q=>s.length-q) p ⟨hp,hX.symm⟩ (weak_of (by repeat' (first|exact trivial|refine⟨rfl,?_⟩))) (fun q hq=>?_)
 obtain⟨hq1,hq2⟩:=hq
 rcases Nat.lt_or_ge q s.length with hlt|hge
 ·obtain⟨c,hc⟩:=get_ok hlt
  have hd:=drop_cons hc
  rw [hd,runL] at hq2
  have ck:clsAt s q=classI (c:Nat):=by simp [clsAt,hc]
  have cc:=curClass X' s q hb hl hq1
  rw [ck] at cc
  rw [show inC l (c:Nat)=inK l (classI (c:Nat):Nat) from rfl] at hq2
  obtain⟨k,hk⟩:∃ k,k=classI (c:Nat):=⟨_,rfl⟩
  rw [← hk] at cc hq2
  repeat' (first|refine zW [] ?_|((refine zB [] (fun h=>?_) (fun h=>?_))<;>(first|exact zk h|skip))|refine zX [] ?_|refine RunOps.call (by rfl) (by rfl) cc (by rfl) (by rfl) ?_|(refine zE ?_;(skip))|((exfalso;(simp at h<;>omega)))|fail)
  refine Run.loop (fun j:Nat=>⟨PT.ofList [(0,.bp 0 0),(1,.d (ints l)),(4,.d (.int .i64 (k:Nat))),(5,.d (.bool (inK (l.take j) (k:Nat)))),(20,.d (ints l)),(21,.d (.int .i64 (l.map (DV.int .i64)).length)),(22,.d (.int .i64 (j:Nat)))],(curO s q :: X'),[]⟩) (fun j=>j≤l.length) (fun j=>l.length-j) 0 (Nat.zero_le _) (weak_of (by repeat' (first|exact trivial|refine⟨rfl,?_⟩))) (fun j hj=>?_)
  rcases Nat.lt_or_ge j l.length with hjl|hjg
  ·obtain⟨x,hx⟩:=get_ok hjl
   have hn:inK (l.take (j+1)) (k:Nat)=(inK (l.take j) (k:Nat) || (x == (k:Int))):=by unfold inK;rw [List.take_add_one,hx,List.any_append];simp
   cases hbj:inK (l.take j) (k:Nat) with
   |true =>
    rw [hbj,Bool.true_or] at hn
    repeat' (first|refine zW [] ?_|((refine zB [] (fun h=>?_) (fun h=>?_))<;>(first|exact zk h|skip))|refine zX [] ?_|refine oX (frz:=[]) (v:=.d (.ep [.int .i64 x])) Yo ?_ (hf:=(by first|(simp [inB]<;>fail)|(simp [inB];omega))) (he:=(by first|(simp [List.getD_eq_getElem?_getD,cellsD,hx]<;>fail)|fail))|refine eX (v:=.d (.ep [.int .i64 x])) ?_ (hf:=(by first|(simp [inB]<;>fail)|(simp [inB];omega))) (he:=(by first|(simp [List.getD_eq_getElem?_getD,cellsD,hx]<;>fail)|fail))|(refine zE ?_;(skip))|(exact⟨j+1,hjl,by omega,weak_of ⟨by kernel_rfl,by kernel_rfl,by kernel_rfl,by rw [hn];kernel_rfl,by kernel_rfl,by kernel_rfl,(inc_get (k:=j) (by kernel_rfl) (by omega)),trivial⟩⟩)|((exfalso;(simp at h<;>omega)))|fail)
   |false =>
    rw [hbj,Bool.false_or] at hn
    cases hxk:(x == (k:Int)) with
    |true =>
     rw [hxk] at hn
     have hv:AV.d (.bool (x == (k:Int)))=.d (.bool true):=by rw [hxk]
     repeat' (first|refine oX (frz:=[]) (v:=.d (.bool true)) Yo ?_ (he:=(hv))|refine eX (v:=.d (.bool true)) ?_ (he:=(hv))|refine zW [] ?_|((refine zB [] (fun h=>?_) (fun h=>?_))<;>(first|exact zk h|skip))|refine zX [] ?_|refine oX (frz:=[]) (v:=.d (.ep [.int .i64 x])) Yo ?_ (hf:=(by first|(simp [inB]<;>fail)|(simp [inB];omega))) (he:=(by first|(simp [List.getD_eq_getElem?_getD,cellsD,hx]<;>fail)|fail))|refine eX (v:=.d (.ep [.int .i64 x])) ?_ (hf:=(by first|(simp [inB]<;>fail)|(simp [inB];omega))) (he:=(by first|(simp [List.getD_eq_getElem?_getD,cellsD,hx]<;>fail)|fail))|(refine zE ?_;(skip))|(exact⟨j+1,hjl,by omega,weak_of ⟨by kernel_rfl,by kernel_rfl,by kernel_rfl,by rw [hn];kernel_rfl,by kernel_rfl,by kernel_rfl,(inc_get (k:=j) (by kernel_rfl) (by omega)),trivial⟩⟩)|((exfalso;(simp at h<;>omega)))|fail)
    |false =>
     rw [hxk] at hn
     have hv:AV.d (.bool (x == (k:Int)))=.d (.bool false):=by rw [hxk]
     repeat' (first|refine oX (frz:=[]) (v:=.d (.bool false)) Yo ?_ (he:=(hv))|refine eX (v:=.d (.bool false)) ?_ (he:=(hv))|refine zW [] ?_|((refine zB [] (fun h=>?_) (fun h=>?_))<;>(first|exact zk h|skip))|refine zX [] ?_|refine oX (frz:=[]) (v:=.d (.ep [.int .i64 x])) Yo ?_ (hf:=(by first|(simp [inB]<;>fail)|(simp [inB];omega))) (he:=(by first|(simp [List.getD_eq_getElem?_getD,cellsD,hx]<;>fail)|fail))|refine eX (v:=.d (.ep [.int .i64 x])) ?_ (hf:=(by first|(simp [inB]<;>fail)|(simp [inB];omega))) (he:=(by first|(simp [List.getD_eq_getElem?_getD,cellsD,hx]<;>fail)|fail))|(refine zE ?_;(skip))|(exact⟨j+1,hjl,by omega,weak_of ⟨by kernel_rfl,by kernel_rfl,by kernel_rfl,by rw [hn];kernel_rfl,by kernel_rfl,by kernel_rfl,(inc_get (k:=j) (by kernel_rfl) (by omega)),trivial⟩⟩)|((exfalso;(simp at h<;>omega)))|fail)
  ·have hje:j=l.length:=by omega
   subst hje
   rw [List.take_length]
   cases hbk:inK l (k:Nat) with
   |true =>
    rw [hbk,if_pos rfl] at hq2
    have hinc:AV.d (.int .i64 (IntKind.i64.wrap ((q:Int)+1)))=.d (.int .i64 ((q+1:Nat):Int)):=congrArg (fun x=>AV.d (.int .i64 x)) ((congrArg IntKind.i64.wrap (show(q:Int)+1=((q+1:Nat):Int) by omega)).trans (wrap_nat (by omega)))
    repeat' (first|refine oX (frz:=[]) (v:=.d (.int .i64 ((q+1:Nat):Int))) Yo ?_ (he:=(hinc))|refine eX (v:=.d (.int .i64 ((q+1:Nat):Int))) ?_ (he:=(hinc))|refine zW [] ?_|((refine zB [] (fun h=>?_) (fun h=>?_))<;>(first|exact zk h|skip))|refine zX [] ?_|(refine zE ?_;(skip))|(exact⟨q+1,⟨hlt,by omega⟩,by omega,weak_of' (by rfl) rfl (by repeat' (first|exact trivial|refine⟨rfl,?_⟩))⟩)|((exfalso;(simp at h<;>omega)))|fail)
   |false =>
    rw [hbk] at hq2
    have hqX:q=X:=by simpa using hq2
    subst hqX
    repeat' (first|refine zW [] ?_|((refine zB [] (fun h=>?_) (fun h=>?_))<;>(first|exact zk h|skip))|refine zX [] ?_|(refine zE ?_;(skip))|((refine Yt ?_;exact⟨trivial,rfl,rfl⟩))|((exfalso;(simp at h<;>omega)))|fail)
 ·have hqX:q=X:=by rw [List.drop_eq_nil_of_le hge] at hq2;simpa [runL] using hq2
  subst hqX
  repeat' (first|refine zW [] ?_|((refine zB [] (fun h=>?_) (fun h=>?_))<;>(first|exact zk h|skip))|refine zX [] ?_|(refine zE ?_;(skip))|(exact⟨trivial,rfl,rfl⟩)|((exfalso;(simp at h<;>omega)))|fail)
end Go.Av
end
noncomputable section
namespace Go.Av
open Go Go.Proofs
set_option maxRecDepth 10000
theorem cls5_all:allTo (fun c=>inC [5] (c:Nat) == blankI (c:Nat)) 256=true:=by kernel_rfl
theorem cls6_all:allTo (fun c=>(classI (c:Nat) == 6) == decide (c=35)) 256=true:=by kernel_rfl
theorem cls5 {c:Nat} (h:c<256):inC [5] (c:Nat)=blankI (c:Nat):=by simpa using allTo_ok cls5_all c h
theorem cls6 {c:Nat} (h:c<256):classI (c:Nat)=6 ↔ c=35:=by
 have:=allTo_ok cls6_all c h
 by_cases h1:c=35
 ·simp [h1] at this ⊢;exact this
 ·simp [h1] at this ⊢;exact this
theorem runL_congr {p q:Int→Bool}:∀ {l:List Nat},(∀ c ∈ l,p (c:Nat)=q (c:Nat))→runL p l=runL q l
 |[],_=>rfl
 |c :: l,h=>by
  rw [runL,runL,h c List.mem_cons_self,runL_congr fun d hd=>h d (List.mem_cons_of_mem _ hd)]
theorem passM_run:∀ l:List Nat,passM false l=runL blankI l+passM false (l.drop (runL blankI l))
 |[]=>rfl
 |c :: l=>by
  cases hb:blankI (c:Nat) with
  |true =>
   have ih:=passM_run l
   rw [runL,if_pos hb,passM,if_pos hb,Nat.add_comm 1 (runL blankI l),List.drop_succ_cons]
   omega
  |false=>rw [runL,hb];simp
theorem runL_stop (p:Int→Bool):∀ (l:List Nat) (c:Nat),(l.drop (runL p l))[0]?=some c→p (c:Nat)=false
 |[],c,h=>by simp [runL] at h
 |d :: l,c,h=>by
  rw [runL] at h
  cases hd:p (d:Nat) with
  |true =>
   rw [if_pos hd,Nat.add_comm,List.drop_succ_cons] at h
   exact runL_stop p l c h
  |false =>
   rw [hd] at h
   simp at h
   subst h;exact hd
def skipB (s:List Nat) (p:Nat):Nat:=p+runL blankI (s.drop p)
theorem skipB_le {s:List Nat} {p:Nat} (h:p≤s.length):skipB s p≤s.length:=by
 have:=runL_le blankI (s.drop p)
 rw [List.length_drop] at this
 unfold skipB;omega
theorem skipB_pass (s:List Nat) (p:Nat):skipB s p+passM false (s.drop (skipB s p))=p+passM false (s.drop p):=by
 have:=passM_run (s.drop p)
 rw [List.drop_drop] at this
 unfold skipB;omega
theorem skipB_stop {s:List Nat} {p c:Nat} (h:s[skipB s p]?=some c):blankI (c:Nat)=false:=by
 refine runL_stop blankI (s.drop p) c ?_
 rw [List.drop_drop,List.getElem?_drop,Nat.add_zero];exact h
theorem curBlank (X':List Ob) (s:List Nat) (p:Nat) (hb:∀ c ∈ s,c<256) (hl:s.length≤1048576) (hp:p≤s.length) :
  ACall Tryz.prog 253 [.bp 0 0,.d (ints [5])] (curO s p :: X') (.tup []) (curO s (skipB s p) :: X'):=by
 have:=curPass X' s p [5] hb hl hp (by simp)
 rwa [runL_congr fun c hc=>cls5 (hb c (List.mem_of_mem_drop hc))] at this
end Go.Av
end
noncomputable section
namespace Go.Av
open Go Go.Proofs
set_option maxRecDepth 10000
set_option maxHeartbeats 2000000 in
theorem scanGap (X':List Ob) (s:List Nat) (p:Nat) (hb:∀ c ∈ s,c<256) (hl:s.length≤1048576) (hp:p≤s.length) :
  ACall Tryz.prog 251 [.bp 0 0] (curO s p :: X') (.tup []) (curO s (atF4 s p) :: X'):=by
 obtain⟨X,hX⟩:∃ X,X=atF4 s p:=⟨_,rfl⟩
 rw [← hX]
 unfold atF4 at hX
 rw [← skipB_pass] at hX
 have c0:=curBlank X' s p hb hl hp
 have hs0:=skipB_le hp
 have ht0:∀ c,s[skipB s p]?=some c→blankI (c:Nat)=false:=fun c=>skipB_stop
 generalize skipB s p=p0 at hX c0 hs0 ht0
 refine acall_of_run Yo (fnAt Tryz.func251 (by kernel_rfl) (by kernel_rfl):FnAt _ _ (mkFn Tryz.f251 [5,15])) rfl rfl ?_
 repeat' (first|refine zW [5,15] ?_|((refine zB [5,15] (fun h=>?_) (fun h=>?_))<;>(first|exact zk h|skip))|refine zX [5,15] ?_|refine oA c0 ?_|(refine zE ?_;(skip))|(fail)|fail)
 refine Run.loop (fun q:Nat=>⟨PT.ofList [(0,.bp 0 0)],(curO s q :: X'),[]⟩) (fun q=>q≤s.length∧q+passM false (s.drop q)=X∧∀ c,s[q]?=some c→blankI (c:Nat)=false) (fun q=>s.length-q) p0 ⟨hs0,hX.symm,ht0⟩ (weak_of (by repeat' (first|exact trivial|refine⟨rfl,?_⟩))) (fun q hq=>?_)
 obtain⟨hq1,hq2,hq3⟩:=hq
 have cc:=curClass X' s q hb hl hq1
 by_cases h35:s[q]?=some 35
 ·have hlt:=(List.getElem?_eq_some_iff.1 h35).1
  have hd:=drop_cons h35
  have hX1:q+passM true (s.drop q)=X:=by rw [← hq2,hd];simp [passM,blankI]
  rw [show clsAt s q=6 by simp only [clsAt,h35];rfl] at cc
  repeat' (first|refine zW [5,15] ?_|((refine zB [5,15] (fun h=>?_) (fun h=>?_))<;>(first|exact zk h|skip))|refine zX [5,15] ?_|refine oA cc ?_|(refine zE ?_;(skip))|((exfalso;(simp at h<;>omega)))|fail)
  refine Run.loop (fun j:Nat=>⟨PT.ofList [(0,.bp 0 0)],(curO s j :: X'),[]⟩) (fun j=>q≤j∧j≤s.length∧j+passM true (s.drop j)=X) (fun j=>s.length-j) q ⟨Nat.le_refl _,hq1,hX1⟩ (weak_of (by repeat' (first|exact trivial|refine⟨rfl,?_⟩))) (fun j hj=>?_)
  obtain⟨hj1,hj2,hj3⟩:=hj
  rcases Nat.lt_or_ge j s.length with hjl|hjg
  ·obtain⟨e,he⟩:=get_ok hjl
   have hde:=drop_cons he
   by_cases h10:e=10
   ·subst h10
    have hij:q≠j:=fun h=>by subst h;rw [h35] at he;cases he
    have hX2:j+passM false (s.drop j)=X:=by rw [← hj3,hde];simp [passM,blankI]
    rw [← skipB_pass] at hX2
    have c1:=curBlank X' s j hb hl hj2
    have hs1:=skipB_le hj2
    have ht1:∀ c,s[skipB s j]?=some c→blankI (c:Nat)=false:=fun c=>skipB_stop
    have hge1:j≤skipB s j:=Nat.le_add_right _ _
    generalize skipB s j=p1 at hX2 c1 hs1 ht1 hge1
    repeat' (first|refine zW [5,15] ?_|((refine zB [5,15] (fun h=>?_) (fun h=>?_))<;>(first|exact zk h|skip))|refine zX [5,15] ?_|refine eX (v:=.d (.int .u8 ((10:Nat):Int))) ?_ (hf:=by first|(simp [inB]<;>fail)|(simp [inB];omega)) (he:=by first|(simp [List.getD_eq_getElem?_getD,he]<;>fail)|fail)|refine oA c1 ?_|(refine zE ?_;(skip))|(exact⟨p1,⟨hs1,hX2,ht1⟩,by omega,weak_of (by repeat' (first|exact trivial|refine⟨rfl,?_⟩))⟩)|((exfalso;(simp at h<;>omega)))|fail)
   ·have hX2:j+1+passM true (s.drop (j+1))=X:=by rw [← hj3,hde];simp [passM,h10];omega
    have hinc:AV.d (.int .i64 (IntKind.i64.wrap ((j:Int)+1)))=.d (.int .i64 ((j+1:Nat):Int)):=congrArg (fun x=>AV.d (.int .i64 x)) ((congrArg IntKind.i64.wrap (show(j:Int)+1=((j+1:Nat):Int) by omega)).trans (wrap_nat (by omega)))
    repeat' (first|refine oX (frz:=[5,15]) (v:=.d (.int .i64 ((j+1:Nat):Int))) Yo ?_ (he:=(hinc))|refine eX (v:=.d (.int .i64 ((j+1:Nat):Int))) ?_ (he:=(hinc))|refine zW [5,15] ?_|((refine zB [5,15] (fun h=>?_) (fun h=>?_))<;>(first|exact zk h|skip))|refine zX [5,15] ?_|refine eX (v:=.d (.int .u8 (e:Nat))) ?_ (hf:=by first|(simp [inB]<;>fail)|(simp [inB];omega)) (he:=by first|(simp [List.getD_eq_getElem?_getD,he]<;>fail)|fail)|(refine zE ?_;(skip))|(exact⟨j+1,⟨by omega,hjl,hX2⟩,by omega,weak_of' (by rfl) rfl (by repeat' (first|exact trivial|refine⟨rfl,?_⟩))⟩)|((exfalso;(simp at h<;>omega)))|fail)
  ·have hje:j=s.length:=by omega
   subst hje
   have hX2:s.length+passM false (s.drop s.length)=X:=by rw [← hj3,List.drop_length];rfl
   rw [← skipB_pass] at hX2
   have c1:=curBlank X' s s.length hb hl hj2
   have hs1:=skipB_le hj2
   have ht1:∀ c,s[skipB s s.length]?=some c→blankI (c:Nat)=false:=fun c=>skipB_stop
   have hge1:s.length≤skipB s s.length:=Nat.le_add_right _ _
   generalize skipB s s.length=p1 at hX2 c1 hs1 ht1 hge1
   repeat' (first|refine zW [5,15] ?_|((refine zB [5,15] (fun h=>?_) (fun h=>?_))<;>(first|exact zk h|skip))|refine zX [5,15] ?_|refine oA c1 ?_|(refine zE ?_;(skip))|(exact⟨p1,⟨hs1,hX2,ht1⟩,by omega,weak_of (by repeat' (first|exact trivial|refine⟨rfl,?_⟩))⟩)|((exfalso;(simp at h<;>omega)))|fail)
 ·have hqX:q=X:=by
   rcases Nat.lt_or_ge q s.length with hlt|hge
   ·obtain⟨c,hc⟩:=get_ok hlt
    rw [drop_cons hc,passM,if_neg (by rw [hq3 c hc];simp),if_neg (fun e=>h35 (by rw [hc,e]))] at hq2
    exact hq2
   ·rw [List.drop_eq_nil_of_le hge] at hq2;exact hq2
  subst hqX
  have hk:clsAt s q≠6:=by
   unfold clsAt
   split
   ·rename_i c hc
    intro e
    exact h35 (by rw [hc,(cls6 (hb c (List.mem_of_getElem? hc))).1 e])
   ·simp
  generalize clsAt s q=k at cc hk
  repeat' (first|refine zW [5,15] ?_|((refine zB [5,15] (fun h=>?_) (fun h=>?_))<;>(first|exact zk h|skip))|refine zX [5,15] ?_|refine oA cc ?_|(refine zE ?_;(skip))|(exact⟨trivial,rfl,rfl⟩)|((exfalso;(simp at h<;>omega)))|fail)
end Go.Av
end
noncomputable section
namespace Go.Av
open Go Go.Proofs
set_option maxRecDepth 10000
theorem cls123_all:allTo (fun c=>inC [1,2,3] (c:Nat) == wordI (c:Nat)) 256=true:=by kernel_rfl
theorem cls2_all:allTo (fun c=>inC [2] (c:Nat) == digitI (c:Nat)) 256=true:=by kernel_rfl
theorem curWord (X':List Ob) (s:List Nat) (p:Nat) (hb:∀ c ∈ s,c<256) (hl:s.length≤1048576) (hp:p≤s.length) :
  ACall Tryz.prog 253 [.bp 0 0,.d (ints [1,2,3])] (curO s p :: X') (.tup []) (curO s (p+runL wordI (s.drop p)) :: X'):=by
 have:=curPass X' s p [1,2,3] hb hl hp (by simp)
 rwa [runL_congr fun c hc=>show inC [1,2,3] (c:Nat)=wordI (c:Nat) by simpa using allTo_ok cls123_all c (hb c (List.mem_of_mem_drop hc))] at this
theorem curDigits (X':List Ob) (s:List Nat) (p:Nat) (hb:∀ c ∈ s,c<256) (hl:s.length≤1048576) (hp:p≤s.length) :
  ACall Tryz.prog 253 [.bp 0 0,.d (ints [2])] (curO s p :: X') (.tup []) (curO s (p+runL digitI (s.drop p)) :: X'):=by
 have:=curPass X' s p [2] hb hl hp (by simp)
 rwa [runL_congr fun c hc=>show inC [2] (c:Nat)=digitI (c:Nat) by simpa using allTo_ok cls2_all c (hb c (List.mem_of_mem_drop hc))] at this
abbrev nextO (s:List Nat) (q k:Nat) (t:List Nat) (a c d:Nat):List Ob:=[curO s q,.box [.d (.int .i64 (k:Nat)),.d (.str t),.d (.int .i64 (a:Nat))],.box [.d (.int .i64 (c:Nat)),.d (.int .i64 (d:Nat))]]
abbrev bxs:List Ob:=[.box [.d (.int .i64 0),.d (.str []),.d (.int .i64 0)],.box [.d (.int .i64 0),.d (.int .i64 0)]]
theorem scanEnd (s:List Nat) (p:Nat) (hb:∀ c ∈ s,c<256) (hl:s.length≤1048576) (hp:p≤s.length) (he:atF4 s p=s.length) :
  ACall Tryz.prog 226 [.bp 0 0] [curO s p] (.tup [.d (lexD 0 [] 0),.d (faultD 5 s.length)]) (nextO s s.length 0 [] 0 5 s.length):=by
 have cg:=scanGap bxs s p hb hl hp
 rw [he] at cg
 refine acall_of_run Yo (fnAt Tryz.func226 (by kernel_rfl) (by kernel_rfl):FnAt _ _ (mkFn Tryz.f226 [33,40])) rfl rfl ?_
 repeat' (first|refine zW [33,40] ?_|((refine zB [33,40] (fun h=>?_) (fun h=>?_))<;>(first|exact zk h|skip))|refine zX [33,40] ?_|refine oA cg ?_|(refine zE ?_;(skip))|((refine Yt ?_;exact⟨trivial,rfl,rfl⟩))|((exfalso;(simp at h<;>omega)))|fail)
theorem scanWord (s:List Nat) (p c:Nat) (hb:∀ c ∈ s,c<256) (hl:s.length≤1048576) (hp:p≤s.length) (hc:s[atF4 s p]?=some c) (hk:classI (c:Nat)=1) :
  ACall Tryz.prog 226 [.bp 0 0] [curO s p] (.tup [.d (lexD 1 ((s.drop (atF4 s p)).take (runL wordI (s.drop (atF4 s p)))) (atF4 s p)),.d (faultD 0 0)]) (nextO s (atF4 s p+runL wordI (s.drop (atF4 s p))) 1 ((s.drop (atF4 s p)).take (runL wordI (s.drop (atF4 s p)))) (atF4 s p) 0 0):=by
 have cg:=scanGap bxs s p hb hl hp
 have hq:=atF4_le hp
 generalize atF4 s p=q at cg hc hq ⊢
 have hlt:=(List.getElem?_eq_some_iff.1 hc).1
 have cc:=curClass bxs s q hb hl hq
 rw [show clsAt s q=1 by simp only [clsAt,hc];exact hk] at cc
 have cw:=curWord bxs s q hb hl hq
 have hr:=runL_le wordI (s.drop q)
 rw [List.length_drop] at hr
 generalize runL wordI (s.drop q)=n at cw hr ⊢
 have hcut:(s.take (q+n)).drop q=(s.drop q).take n:=by rw [List.drop_take];congr 1;omega
 rw [← hcut]
 refine acall_of_run Yo (fnAt Tryz.func226 (by kernel_rfl) (by kernel_rfl):FnAt _ _ (mkFn Tryz.f226 [33,40])) rfl rfl ?_
 repeat' (first|refine zW [33,40] ?_|((refine zB [33,40] (fun h=>?_) (fun h=>?_))<;>(first|exact zk h|skip))|refine zX [33,40] ?_|refine oA cg ?_|refine oA cc ?_|refine oA cw ?_|refine oX (frz:=[33,40]) Yo ?_ (hf:=(by first|(simp [cutC]<;>fail)|(simp [cutC];omega)))|refine eX ?_ (hf:=(by first|(simp [cutC]<;>fail)|(simp [cutC];omega)))|(refine zE ?_;(skip))|((refine Yt ?_;exact⟨trivial,rfl,rfl⟩))|((exfalso;(simp at h<;>omega)))|fail)
theorem scanSign (s:List Nat) (p c:Nat) (hb:∀ c ∈ s,c<256) (hl:s.length≤1048576) (hp:p≤s.length) (hc:s[atF4 s p]?=some c) (hk:classI (c:Nat)=4) :
  ACall Tryz.prog 226 [.bp 0 0] [curO s p] (.tup [.d (lexD 3 [c] (atF4 s p)),.d (faultD 0 0)]) (nextO s (atF4 s p+1) 3 [c] (atF4 s p) 0 0):=by
 have cg:=scanGap bxs s p hb hl hp
 have hq:=atF4_le hp
 generalize atF4 s p=q at cg hc hq ⊢
 have hlt:=(List.getElem?_eq_some_iff.1 hc).1
 have cc:=curClass bxs s q hb hl hq
 rw [show clsAt s q=4 by simp only [clsAt,hc];exact hk] at cc
 have hcut:(s.take (q+1)).drop q=[c]:=by rw [List.drop_take,drop_cons hc,show q+1-q=1 by omega];rfl
 have hinc:AV.d (.int .i64 (IntKind.i64.wrap ((q:Int)+1)))=.d (.int .i64 ((q+1:Nat):Int)):=congrArg (fun x=>AV.d (.int .i64 x)) ((congrArg IntKind.i64.wrap (show(q:Int)+1=((q+1:Nat):Int) by omega)).trans (wrap_nat (by omega)))
 rw [← hcut]
 refine acall_of_run Yo (fnAt Tryz.func226 (by kernel_rfl) (by kernel_rfl):FnAt _ _ (mkFn Tryz.f226 [33,40])) rfl rfl ?_
 repeat' (first|refine oX (frz:=[33,40]) (v:=.d (.int .i64 ((q+1:Nat):Int))) Yo ?_ (he:=(hinc))|refine eX (v:=.d (.int .i64 ((q+1:Nat):Int))) ?_ (he:=(hinc))|refine zW [33,40] ?_|((refine zB [33,40] (fun h=>?_) (fun h=>?_))<;>(first|exact zk h|skip))|refine zX [33,40] ?_|refine oA cg ?_|refine oA cc ?_|refine oX (frz:=[33,40]) Yo ?_ (hf:=(by first|(simp [cutC]<;>fail)|(simp [cutC];omega)))|refine eX ?_ (hf:=(by first|(simp [cutC]<;>fail)|(simp [cutC];omega)))|(refine zE ?_;(skip))|((refine Yt ?_;exact⟨trivial,rfl,rfl⟩))|((exfalso;(simp at h<;>omega)))|fail)
theorem scanBad (s:List Nat) (p c:Nat) (hb:∀ c ∈ s,c<256) (hl:s.length≤1048576) (hp:p≤s.length) (hc:s[atF4 s p]?=some c) (h1:classI (c:Nat)≠1) (h2:classI (c:Nat)≠2) (h4:classI (c:Nat)≠4) :
  ACall Tryz.prog 226 [.bp 0 0] [curO s p] (.tup [.d (lexD 0 [] 0),.d (faultD 3 (atF4 s p))]) (nextO s (atF4 s p) 0 [] 0 3 (atF4 s p)):=by
 have cg:=scanGap bxs s p hb hl hp
 have hq:=atF4_le hp
 generalize atF4 s p=q at cg hc hq ⊢
 have hlt:=(List.getElem?_eq_some_iff.1 hc).1
 have cc:=curClass bxs s q hb hl hq
 rw [show clsAt s q=classI (c:Nat) by simp only [clsAt,hc]] at cc
 generalize classI (c:Nat)=k at cc h1 h2 h4
 refine acall_of_run Yo (fnAt Tryz.func226 (by kernel_rfl) (by kernel_rfl):FnAt _ _ (mkFn Tryz.f226 [33,40])) rfl rfl ?_
 repeat' (first|refine zW [33,40] ?_|((refine zB [33,40] (fun h=>?_) (fun h=>?_))<;>(first|exact zk h|skip))|refine zX [33,40] ?_|refine oA cg ?_|refine oA cc ?_|(refine zE ?_;(skip))|((refine Yt ?_;exact⟨trivial,rfl,rfl⟩))|((exfalso;(simp at h<;>omega)))|fail)
end Go.Av
end
noncomputable section
namespace Go.Av
open Go Go.Proofs
set_option maxRecDepth 10000
set_option maxHeartbeats 2000000 in
theorem scanNum (s:List Nat) (p c:Nat) (hb:∀ c ∈ s,c<256) (hl:s.length≤1048576) (hp:p≤s.length) (hc:s[atF4 s p]?=some c) (hk:classI (c:Nat)=2)
  (hz:¬ (c=48∧1<runL digitI (s.drop (atF4 s p)))) (h1:clsAt s (atF4 s p+runL digitI (s.drop (atF4 s p)))≠1) (h3:clsAt s (atF4 s p+runL digitI (s.drop (atF4 s p)))≠3) :
  ACall Tryz.prog 226 [.bp 0 0] [curO s p] (.tup [.d (lexD 2 ((s.drop (atF4 s p)).take (runL digitI (s.drop (atF4 s p)))) (atF4 s p)),.d (faultD 0 0)]) (nextO s (atF4 s p+runL digitI (s.drop (atF4 s p))) 2 ((s.drop (atF4 s p)).take (runL digitI (s.drop (atF4 s p)))) (atF4 s p) 0 0):=by
 have cg:=scanGap bxs s p hb hl hp
 have hq:=atF4_le hp
 generalize atF4 s p=q at cg hc hq hz h1 h3 ⊢
 have hlt:=(List.getElem?_eq_some_iff.1 hc).1
 have cc:=curClass bxs s q hb hl hq
 rw [show clsAt s q=2 by simp only [clsAt,hc];exact hk] at cc
 have cw:=curDigits bxs s q hb hl hq
 have hr:=runL_le digitI (s.drop q)
 rw [List.length_drop] at hr
 generalize runL digitI (s.drop q)=n at cw hr hz h1 h3 ⊢
 have c2:=curClass bxs s (q+n) hb hl (by omega)
 generalize clsAt s (q+n)=k at c2 h1 h3
 have hcut:(s.take (q+n)).drop q=(s.drop q).take n:=by rw [List.drop_take];congr 1;omega
 have hinc:AV.d (.int .i64 (IntKind.i64.wrap ((q:Int)+1)))=.d (.int .i64 ((q+1:Nat):Int)):=congrArg (fun x=>AV.d (.int .i64 x)) ((congrArg IntKind.i64.wrap (show(q:Int)+1=((q+1:Nat):Int) by omega)).trans (wrap_nat (by omega)))
 rw [← hcut]
 refine acall_of_run Yo (fnAt Tryz.func226 (by kernel_rfl) (by kernel_rfl):FnAt _ _ (mkFn Tryz.f226 [33,40])) rfl rfl ?_
 repeat' (first|refine oX (frz:=[33,40]) (v:=.d (.int .i64 ((q+1:Nat):Int))) Yo ?_ (he:=(hinc))|refine eX (v:=.d (.int .i64 ((q+1:Nat):Int))) ?_ (he:=(hinc))|refine zW [33,40] ?_|((refine zB [33,40] (fun h=>?_) (fun h=>?_))<;>(first|exact zk h|skip))|refine zX [33,40] ?_|refine oX (frz:=[33,40]) (v:=.d (.int .u8 (c:Nat))) Yo ?_ (hf:=by first|(simp [inB]<;>fail)|(simp [inB];omega)) (he:=by first|(simp [List.getD_eq_getElem?_getD,hc]<;>fail)|fail)|refine oA cg ?_|refine oA cc ?_|refine oA cw ?_|refine oA c2 ?_|refine oX (frz:=[33,40]) Yo ?_ (hf:=(by first|(simp [cutC]<;>fail)|(simp [cutC];omega)))|refine eX ?_ (hf:=(by first|(simp [cutC]<;>fail)|(simp [cutC];omega)))|(refine zE ?_;(skip))|((refine Yt ?_;exact⟨trivial,rfl,rfl⟩))|((exfalso;(simp at h<;>omega)))|((exfalso;rename_i g1 g0;have e1:=of_decide_eq_true g0;simp at g1;omega))|fail)
end Go.Av
end
noncomputable section
namespace Go.Av
open Go Go.Proofs
set_option maxRecDepth 10000
structure NumT (t:List Nat):Prop where
 digs:∀ c ∈ t,48≤c∧c≤57
 ne:t≠[]
 zero:¬ (t[0]?=some 48∧1<t.length)
def NumL (ls:List Lx):Prop:=∀ x ∈ ls,x.k=2→NumT x.t
theorem digitI_iff {c:Nat}:digitI (c:Nat)=true ↔ 48≤c∧c≤57:=by
 simp only [digitI,Bool.and_eq_true,decide_eq_true_eq];omega
theorem runL_all {p:Int→Bool}:∀ {l:List Nat},(∀ c ∈ l,p (c:Nat)=true)→runL p l=l.length
 |[],_=>rfl
 |c :: l,h=>by
  rw [runL,if_pos (h c List.mem_cons_self),runL_all fun d hd=>h d (List.mem_cons_of_mem _ hd),List.length_cons];omega
theorem runL_pre {p:Int→Bool}:∀ {l:List Nat} {c:Nat},c ∈ l.take (runL p l)→p (c:Nat)=true
 |[],c,h=>by simp at h
 |d :: l,c,h=>by
  rw [runL] at h
  cases hd:p (d:Nat) with
  |true =>
   rw [hd,if_pos rfl,Nat.add_comm,List.take_succ_cons] at h
   rcases List.mem_cons.1 h with rfl|h
   ·exact hd
   ·exact runL_pre h
  |false=>rw [hd] at h;simp at h
theorem NumT.run {t:List Nat} (h:NumT t):runL digitI t=t.length:=runL_all fun c hc=>digitI_iff.2 (h.digs c hc)
theorem dig_not {c:Nat} (h:48≤c∧c≤57):signI (c:Nat)=false∧letterI (c:Nat)=false:=by
 have:∀ d,d<10→signI ((48+d:Nat):Int)=false∧letterI ((48+d:Nat):Int)=false:=by decide
 have:=this (c-48) (by omega)
 rwa [show 48+(c-48)=c by omega] at this
theorem NumT.begins {t:List Nat} (h:NumT t):beginsF t=(2,t):=by
 cases t with
 |nil=>exact absurd rfl h.ne
 |cons c l =>
  have hc:=h.digs c List.mem_cons_self
  have hr:runL digitI l=l.length:=runL_all fun d hd=>digitI_iff.2 (h.digs d (List.mem_cons_of_mem _ hd))
  have hz:¬ ((c=48∧1<1+runL digitI l)∨∃ e,(c :: l)[1+runL digitI l]?=some e∧endI e=true):=by
   rintro(⟨h1,h2⟩|⟨e,h1,_⟩)
   ·exact h.zero ⟨by simp [h1],by simp;omega⟩
   ·rw [hr,List.getElem?_eq_none (by simp;omega)] at h1;cases h1
  have e:beginsF (c :: l)=if signI c then(3,[c]) else if letterI c then(1,(c :: l).take (1+runL wordI l)) else if digitI c then
   (if(c=48∧1<1+runL digitI l)∨(∃ e,(c :: l)[1+runL digitI l]?=some e∧endI e=true) then(0,[]) else(2,(c :: l).take (1+runL digitI l))) else(0,[]):=rfl
  rw [e,if_neg (by rw [(dig_not hc).1];simp),if_neg (by rw [(dig_not hc).2];simp),if_pos (digitI_iff.2 hc),if_neg hz,hr,List.take_of_length_le (by simp;omega)]
theorem beginsF_num {c:Nat} {l t:List Nat} (h:beginsF (c :: l)=(2,t)):NumT t:=by
 have e:beginsF (c :: l)=if signI c then(3,[c]) else if letterI c then(1,(c :: l).take (1+runL wordI l)) else if digitI c then
   (if(c=48∧1<1+runL digitI l)∨(∃ e,(c :: l)[1+runL digitI l]?=some e∧endI e=true) then(0,[]) else(2,(c :: l).take (1+runL digitI l))) else(0,[]):=rfl
 rw [e] at h
 by_cases h1:signI c=true
 ·rw [if_pos h1] at h;simp at h
 ·rw [if_neg h1] at h
  by_cases h2:letterI c=true
  ·rw [if_pos h2] at h;simp at h
  ·rw [if_neg h2] at h
   by_cases h3:digitI c=true
   ·rw [if_pos h3] at h
    by_cases h4:(c=48∧1<1+runL digitI l)∨(∃ e,(c :: l)[1+runL digitI l]?=some e∧endI e=true)
    ·rw [if_pos h4] at h;simp at h
    ·rw [if_neg h4] at h
     simp only [Prod.mk.injEq,true_and] at h
     subst h
     rw [Nat.add_comm,List.take_succ_cons]
     refine⟨fun d hd=>?_,by simp,fun hz=>?_⟩
     ·rcases List.mem_cons.1 hd with rfl|hd
      ·exact digitI_iff.1 h3
      ·exact digitI_iff.1 (runL_pre hd)
     ·have e1:c=48:=by have:=hz.1;simpa using this
      have e2:=hz.2
      rw [List.length_cons,List.length_take] at e2
      exact h4 (.inl ⟨e1,by omega⟩)
   ·rw [if_neg h3] at h;simp at h
theorem decF_step {t:List Nat} {i c:Nat} (h:t[i]?=some c):decF (t.take (i+1))=10*decF (t.take i)+(c-48):=by
 unfold decF
 rw [List.take_add_one,h,Option.toList_some,List.foldl_append];rfl
theorem decF_ge:∀ (l:List Nat) (n:Nat),n≤l.foldl (fun n c=>10*n+(c-48)) n
 |[],n=>Nat.le_refl _
 |c :: l,n=>Nat.le_trans (by omega) (decF_ge l (10*n+(c-48)))
theorem decF_le {t:List Nat} (i:Nat):decF (t.take i)≤decF t:=by
 conv=>rhs;rw [← List.take_append_drop i t]
 unfold decF
 rw [List.foldl_append]
 exact decF_ge _ _
abbrev numV (t:List Nat):Int:=if numOk t=true then(decF t:Nat) else 0
abbrev numE (t:List Nat):Nat:=if numOk t=true then 0 else 2
theorem num_big {t:List Nat} {i:Nat} (h:4<decF (t.take i)):numOk t=false:=by
 have:=decF_le (t:=t) i
 simp only [numOk,decide_eq_false_iff_not];omega
theorem wrap8 {c:Nat} (h:48≤c∧c≤57):IntKind.u8.wrap ((c:Int)-48)=((c-48:Nat):Int):=by
 have:∀ d,d<10→IntKind.u8.wrap (((48+d:Nat):Int)-48)=(d:Int):=by decide
 have:=this (c-48) (by omega)
 rwa [show 48+(c-48)=c by omega] at this
theorem wrapB {x:Int} {n:Nat} (h:x=(n:Int)) (hn:n≤9223372036854775807):IntKind.i64.wrap x=(n:Int):=by
 subst h
 unfold IntKind.wrap
 simp [IntKind.bits,IntKind.signed]
 omega
theorem check4 (x:Lx) (h:x.k=2) (ht:NumT x.t) (hl:x.t.length≤1048576):KnownCall Tryz.prog 233 [encL x] (.d (.int .i64 0)):=by
 obtain⟨k,t,a⟩:=x
 simp only at h ht hl
 subst h
 have hb:=ht.begins
 cases t with
 |nil=>exact absurd rfl ht.ne
 |cons c l =>
  have cb:=begins4 c l hl
  rw [hb] at cb
  simp only at cb
  refine knownE Yo (fnAt Tryz.func233 (by kernel_rfl) (by kernel_rfl):FnAt _ _ (mkFn Tryz.f233 [1])) ?_
  repeat' (first|refine zW [1] ?_|((refine zB [1] (fun h=>?_) (fun h=>?_))<;>(first|exact zk h|skip))|refine zX [1] ?_|refine zC (cb) ?_|(refine zE ?_;(rfl))|((exfalso;first|(simp at h<;>fail)|(simp at h;omega)))|fail)
set_option maxHeartbeats 2000000 in
theorem number4 (x:Lx) (h:x.k=2) (ht:NumT x.t) (hl:x.t.length≤1048576):KnownCall Tryz.prog 192 [encL x,.int .i64 1,.int .i64 4] (.tup [.d (.int .i64 (numV x.t)),.d (.int .i64 (numE x.t:Nat))]):=by
 have cc:=check4 x h ht hl
 obtain⟨k,t,a⟩:=x
 simp only at h ht hl cc ⊢
 subst h
 obtain⟨V,hV⟩:∃ V:Int × Nat,V=(numV t,numE t):=⟨_,rfl⟩
 rw [show numV t=V.1 by rw [hV],show numE t=V.2 by rw [hV]]
 refine knownE Yo (fnAt Tryz.func192 (by kernel_rfl) (by kernel_rfl):FnAt _ _ (mkFn Tryz.f192 [3])) ?_
 repeat' (first|refine zW [3] ?_|((refine zB [3] (fun h=>?_) (fun h=>?_))<;>(first|exact zk h|skip))|refine zX [3] ?_|refine zC (cc) ?_|(refine zE ?_;(skip))|((exfalso;first|(simp at h<;>fail)|(simp at h;omega)))|fail)
 refine Run.loop (fun i:Nat=>⟨PT.ofList [(1,.d (.int .i64 1)),(2,.d (.int .i64 4)),(3,.d (.ep [.int .i64 (2:Nat),.str t,.int .i64 (a:Nat)])),(9,.d (.int .i64 (decF (t.take i):Nat))),(10,.d (.int .i64 (i:Nat)))],[],[]⟩) (fun i=>i≤t.length∧decF (t.take i)≤9223372036854775807) (fun i=>t.length-i) 0 ⟨Nat.zero_le _,by simp [decF]⟩ (weak_of (by repeat' (first|exact trivial|refine⟨rfl,?_⟩))) (fun i hi=>?_)
 obtain⟨hi1,hi2⟩:=hi
 rcases Nat.lt_or_ge i t.length with hlt|hge
 ·obtain⟨c,hc⟩:=get_ok hlt
  have hd:=ht.digs c (List.mem_of_getElem? hc)
  have hs:=decF_step hc
  obtain⟨n,hn⟩:∃ n,n=decF (t.take i):=⟨_,rfl⟩
  rw [← hn] at hi2 hs ⊢
  have v1:AV.d (.int .u8 (IntKind.u8.wrap ((c:Int)-48)))=.d (.int .u8 ((c-48:Nat):Int)):=by rw [wrap8 hd]
  have v2:AV.d (.int .i64 (IntKind.i64.wrap ((c-48:Nat):Int)))=.d (.int .i64 ((c-48:Nat):Int)):=by rw [wrapB rfl (by omega)]
  have v3:AV.d (.int .i64 (IntKind.i64.wrap (9223372036854775807-((c-48:Nat):Int))))=.d (.int .i64 ((9223372036854775807-(c-48):Nat):Int)):=by rw [wrapB (n:=9223372036854775807-(c-48)) (by omega) (by omega)]
  have v4:AV.d (.int .i64 (IntKind.i64.wrap (((9223372036854775807-(c-48):Nat):Int).tdiv 10)))=.d (.int .i64 (((9223372036854775807-(c-48)) / 10:Nat):Int)):=by
   rw [wrapB (n:=(9223372036854775807-(c-48)) / 10) (by rw [Int.tdiv_eq_ediv_of_nonneg (by omega)];omega) (by omega)]
  by_cases hbig:(9223372036854775807-(c-48)) / 10<n
  ·have hV2:V=(0,2):=by
    rw [hV]
    have:numOk t=false:=num_big (i:=i+1) (by rw [hs];omega)
    simp [numV,numE,this]
   subst hV2
   repeat' (first|refine oX (frz:=[3]) (v:=.d (.int .i64 (((9223372036854775807-(c-48)) / 10:Nat):Int))) Yo ?_ (he:=(v4))|refine eX (v:=.d (.int .i64 (((9223372036854775807-(c-48)) / 10:Nat):Int))) ?_ (he:=(v4))|refine oX (frz:=[3]) (v:=.d (.int .i64 ((9223372036854775807-(c-48):Nat):Int))) Yo ?_ (he:=(v3))|refine eX (v:=.d (.int .i64 ((9223372036854775807-(c-48):Nat):Int))) ?_ (he:=(v3))|refine oX (frz:=[3]) (v:=.d (.int .i64 ((c-48:Nat):Int))) Yo ?_ (he:=(v2))|refine eX (v:=.d (.int .i64 ((c-48:Nat):Int))) ?_ (he:=(v2))|refine oX (frz:=[3]) (v:=.d (.int .u8 ((c-48:Nat):Int))) Yo ?_ (he:=(v1))|refine eX (v:=.d (.int .u8 ((c-48:Nat):Int))) ?_ (he:=(v1))|refine zW [3] ?_|((refine zB [3] (fun h=>?_) (fun h=>?_))<;>(first|exact zk h|skip))|refine zX [3] ?_|refine oX (frz:=[3]) (v:=.d (.int .u8 (c:Nat))) Yo ?_ (hf:=by first|(simp [inB]<;>fail)|(simp [inB];omega)) (he:=by first|(simp [List.getD_eq_getElem?_getD,hc]<;>fail)|fail)|(refine zE ?_;(rfl))|((exfalso;first|(simp at h<;>fail)|(simp at h;omega)))|fail)
  ·have v5:AV.d (.int .i64 (IntKind.i64.wrap (10*(n:Int))))=.d (.int .i64 ((10*n:Nat):Int)):=by rw [wrapB (n:=10*n) (by omega) (by omega)]
   have v6:AV.d (.int .i64 (IntKind.i64.wrap (((10*n:Nat):Int)+((c-48:Nat):Int))))=.d (.int .i64 ((10*n+(c-48):Nat):Int)):=by rw [wrapB (n:=10*n+(c-48)) (by omega) (by omega)]
   repeat' (first|refine oX (frz:=[3]) (v:=.d (.int .i64 ((10*n+(c-48):Nat):Int))) Yo ?_ (he:=(v6))|refine eX (v:=.d (.int .i64 ((10*n+(c-48):Nat):Int))) ?_ (he:=(v6))|refine oX (frz:=[3]) (v:=.d (.int .i64 ((10*n:Nat):Int))) Yo ?_ (he:=(v5))|refine eX (v:=.d (.int .i64 ((10*n:Nat):Int))) ?_ (he:=(v5))|refine oX (frz:=[3]) (v:=.d (.int .i64 (((9223372036854775807-(c-48)) / 10:Nat):Int))) Yo ?_ (he:=(v4))|refine eX (v:=.d (.int .i64 (((9223372036854775807-(c-48)) / 10:Nat):Int))) ?_ (he:=(v4))|refine oX (frz:=[3]) (v:=.d (.int .i64 ((9223372036854775807-(c-48):Nat):Int))) Yo ?_ (he:=(v3))|refine eX (v:=.d (.int .i64 ((9223372036854775807-(c-48):Nat):Int))) ?_ (he:=(v3))|refine oX (frz:=[3]) (v:=.d (.int .i64 ((c-48:Nat):Int))) Yo ?_ (he:=(v2))|refine eX (v:=.d (.int .i64 ((c-48:Nat):Int))) ?_ (he:=(v2))|refine oX (frz:=[3]) (v:=.d (.int .u8 ((c-48:Nat):Int))) Yo ?_ (he:=(v1))|refine eX (v:=.d (.int .u8 ((c-48:Nat):Int))) ?_ (he:=(v1))|refine zW [3] ?_|((refine zB [3] (fun h=>?_) (fun h=>?_))<;>(first|exact zk h|skip))|refine zX [3] ?_|refine oX (frz:=[3]) (v:=.d (.int .u8 (c:Nat))) Yo ?_ (hf:=by first|(simp [inB]<;>fail)|(simp [inB];omega)) (he:=by first|(simp [List.getD_eq_getElem?_getD,hc]<;>fail)|fail)|(refine zE ?_;(skip))|(exact⟨i+1,⟨hlt,by rw [hs];omega⟩,by omega,weak_of ⟨by kernel_rfl,by kernel_rfl,by kernel_rfl,by rw [hs];kernel_rfl,(inc_get (k:=i) (by kernel_rfl) (by omega)),trivial⟩⟩)|((exfalso;first|(simp at h<;>fail)|(simp at h;omega)))|fail)
 ·have hie:i=t.length:=by omega
  subst hie
  rw [List.take_length] at hi2 ⊢
  by_cases hr:1≤decF t∧decF t≤4
  ·have hV2:V=(((decF t:Nat):Int),0):=by rw [hV];simp [numV,numE,numOk,hr]
   subst hV2
   repeat' (first|refine zW [3] ?_|((refine zB [3] (fun h=>?_) (fun h=>?_))<;>(first|exact zk h|skip))|refine zX [3] ?_|(refine zE ?_;(rfl))|((exfalso;first|(simp at h<;>fail)|(simp at h;omega)))|fail)
  ·have hV2:V=(0,2):=by
    have hno:numOk t=false:=by simp only [numOk,decide_eq_false_iff_not];exact hr
    rw [hV];simp [numV,numE,hno]
   subst hV2
   rcases(show decF t<1∨4<decF t by omega) with hr1|hr1
   ·skip
    repeat' (first|refine zW [3] ?_|((refine zB [3] (fun h=>?_) (fun h=>?_))<;>(first|exact zk h|skip))|refine zX [3] ?_|(refine zE ?_;(rfl))|((exfalso;first|(simp at h<;>fail)|(simp at h;omega)))|fail)
   ·skip
    repeat' (first|refine zW [3] ?_|((refine zB [3] (fun h=>?_) (fun h=>?_))<;>(first|exact zk h|skip))|refine zX [3] ?_|(refine zE ?_;(rfl))|((exfalso;first|(simp at h<;>fail)|(simp at h;omega)))|fail)
end Go.Av
end
noncomputable section
namespace Go.Av
open Go Go.Proofs
set_option maxRecDepth 10000
theorem NumT.at0 {t:List Nat} (h:NumT t):atF4 t 0=0:=by
 cases t with
 |nil=>exact absurd rfl h.ne
 |cons c l =>
  have hc:=h.digs c List.mem_cons_self
  have hb:blankI (c:Nat)=false:=by
   have:∀ d,d<10→blankI ((48+d:Nat):Int)=false:=by decide
   have:=this (c-48) (by omega)
   rwa [show 48+(c-48)=c by omega] at this
  simp only [atF4,List.drop_zero,passM,hb,Bool.false_eq_true,if_false]
  rw [if_neg (by omega)]
theorem NumT.class {t:List Nat} (h:NumT t) {c:Nat} (hc:t[0]?=some c):classI (c:Nat)=2:=by
 have hd:=h.digs c (List.mem_of_getElem? hc)
 have:∀ d,d<10→classI ((48+d:Nat):Int)=2:=by decide
 have:=this (c-48) (by omega)
 rwa [show 48+(c-48)=c by omega] at this
theorem checkP (x:Lx) (h:x.k=2) (ht:NumT x.t) (hl:x.t.length≤1048576):KnownCall Tryz.prog 228 [encL x] (.d (.int .i64 0)):=by
 obtain⟨k,t,a⟩:=x
 simp only at h ht hl
 subst h
 obtain⟨c,hc⟩:=get_ok (show 0<t.length from List.length_pos_iff.2 ht.ne)
 have h0:=ht.at0
 have hr:=ht.run
 have cs:=scanNum t 0 c (fun c hc=>by have:=ht.digs c hc;omega) hl (Nat.zero_le _) (by rw [h0];exact hc) (ht.class hc)
  (by rw [h0,List.drop_zero,hr];rintro⟨e1,e2⟩;subst e1;exact ht.zero ⟨hc,e2⟩)
  (by rw [h0,List.drop_zero,hr,Nat.zero_add];simp [clsAt]) (by rw [h0,List.drop_zero,hr,Nat.zero_add];simp [clsAt])
 rw [h0,List.drop_zero,hr,List.take_length] at cs
 refine knownE Yo (fnAt Tryz.func228 (by kernel_rfl) (by kernel_rfl):FnAt _ _ (mkFn Tryz.f228 [1])) ?_
 repeat' (first|refine zW [1] ?_|((refine zB [1] (fun h=>?_) (fun h=>?_))<;>(first|exact zk h|skip))|refine zX [1] ?_|refine oA cs ?_|(refine zE ?_;(rfl))|((exfalso;first|(simp at h<;>fail)|(simp at h;omega)))|fail)
set_option maxHeartbeats 2000000 in
theorem numberP (x:Lx) (h:x.k=2) (ht:NumT x.t) (hl:x.t.length≤1048576):KnownCall Tryz.prog 181 [encL x,.int .i64 1,.int .i64 4] (.tup [.d (.int .i64 (numV x.t)),.d (.int .i64 (numE x.t:Nat))]):=by
 have cc:=checkP x h ht hl
 obtain⟨k,t,a⟩:=x
 simp only at h ht hl cc ⊢
 subst h
 obtain⟨V,hV⟩:∃ V:Int × Nat,V=(numV t,numE t):=⟨_,rfl⟩
 rw [show numV t=V.1 by rw [hV],show numE t=V.2 by rw [hV]]
 refine knownE Yo (fnAt Tryz.func181 (by kernel_rfl) (by kernel_rfl):FnAt _ _ (mkFn Tryz.f181 [3])) ?_
 repeat' (first|refine zW [3] ?_|((refine zB [3] (fun h=>?_) (fun h=>?_))<;>(first|exact zk h|skip))|refine zX [3] ?_|refine zC (cc) ?_|(refine zE ?_;(skip))|((exfalso;first|(simp at h<;>fail)|(simp at h;omega)))|fail)
 refine Run.loop (fun i:Nat=>⟨PT.ofList [(1,.d (.int .i64 1)),(2,.d (.int .i64 4)),(3,.d (.ep [.int .i64 (2:Nat),.str t,.int .i64 (a:Nat)])),(9,.d (.int .i64 (decF (t.take i):Nat))),(22,.d (.int .i64 (t.length:Nat))),(23,.d (.int .i64 (i:Nat)))],[],[]⟩) (fun i=>i≤t.length∧decF (t.take i)≤9223372036854775807) (fun i=>t.length-i) 0 ⟨Nat.zero_le _,by simp [decF]⟩ (weak_of (by repeat' (first|exact trivial|refine⟨rfl,?_⟩))) (fun i hi=>?_)
 obtain⟨hi1,hi2⟩:=hi
 rcases Nat.lt_or_ge i t.length with hlt|hge
 ·obtain⟨c,hc⟩:=get_ok hlt
  have hd:=ht.digs c (List.mem_of_getElem? hc)
  have hs:=decF_step hc
  obtain⟨n,hn⟩:∃ n,n=decF (t.take i):=⟨_,rfl⟩
  rw [← hn] at hi2 hs ⊢
  have v1:AV.d (.int .u8 (IntKind.u8.wrap ((c:Int)-48)))=.d (.int .u8 ((c-48:Nat):Int)):=by rw [wrap8 hd]
  have v2:AV.d (.int .i64 (IntKind.i64.wrap ((c-48:Nat):Int)))=.d (.int .i64 ((c-48:Nat):Int)):=by rw [wrapB rfl (by omega)]
  have v3:AV.d (.int .i64 (IntKind.i64.wrap (9223372036854775807-((c-48:Nat):Int))))=.d (.int .i64 ((9223372036854775807-(c-48):Nat):Int)):=by rw [wrapB (n:=9223372036854775807-(c-48)) (by omega) (by omega)]
  have v4:AV.d (.int .i64 (IntKind.i64.wrap (((9223372036854775807-(c-48):Nat):Int).tdiv 10)))=.d (.int .i64 (((9223372036854775807-(c-48)) / 10:Nat):Int)):=by
   rw [wrapB (n:=(9223372036854775807-(c-48)) / 10) (by rw [Int.tdiv_eq_ediv_of_nonneg (by omega)];omega) (by omega)]
  by_cases hbig:(9223372036854775807-(c-48)) / 10<n
  ·have hV2:V=(0,2):=by
    rw [hV]
    have:numOk t=false:=num_big (i:=i+1) (by rw [hs];omega)
    simp [numV,numE,this]
   subst hV2
   repeat' (first|refine oX (frz:=[3]) (v:=.d (.int .i64 (((9223372036854775807-(c-48)) / 10:Nat):Int))) Yo ?_ (he:=(v4))|refine eX (v:=.d (.int .i64 (((9223372036854775807-(c-48)) / 10:Nat):Int))) ?_ (he:=(v4))|refine oX (frz:=[3]) (v:=.d (.int .i64 ((9223372036854775807-(c-48):Nat):Int))) Yo ?_ (he:=(v3))|refine eX (v:=.d (.int .i64 ((9223372036854775807-(c-48):Nat):Int))) ?_ (he:=(v3))|refine oX (frz:=[3]) (v:=.d (.int .i64 ((c-48:Nat):Int))) Yo ?_ (he:=(v2))|refine eX (v:=.d (.int .i64 ((c-48:Nat):Int))) ?_ (he:=(v2))|refine oX (frz:=[3]) (v:=.d (.int .u8 ((c-48:Nat):Int))) Yo ?_ (he:=(v1))|refine eX (v:=.d (.int .u8 ((c-48:Nat):Int))) ?_ (he:=(v1))|refine zW [3] ?_|((refine zB [3] (fun h=>?_) (fun h=>?_))<;>(first|exact zk h|skip))|refine zX [3] ?_|refine oX (frz:=[3]) (v:=.d (.int .u8 (c:Nat))) Yo ?_ (hf:=by first|(simp [inB]<;>fail)|(simp [inB];omega)) (he:=by first|(simp [List.getD_eq_getElem?_getD,hc]<;>fail)|fail)|(refine zE ?_;(rfl))|((exfalso;first|(simp at h<;>fail)|(simp at h;omega)))|fail)
  ·have v5:AV.d (.int .i64 (IntKind.i64.wrap (10*(n:Int))))=.d (.int .i64 ((10*n:Nat):Int)):=by rw [wrapB (n:=10*n) (by omega) (by omega)]
   have v6:AV.d (.int .i64 (IntKind.i64.wrap (((10*n:Nat):Int)+((c-48:Nat):Int))))=.d (.int .i64 ((10*n+(c-48):Nat):Int)):=by rw [wrapB (n:=10*n+(c-48)) (by omega) (by omega)]
   repeat' (first|refine oX (frz:=[3]) (v:=.d (.int .i64 ((10*n+(c-48):Nat):Int))) Yo ?_ (he:=(v6))|refine eX (v:=.d (.int .i64 ((10*n+(c-48):Nat):Int))) ?_ (he:=(v6))|refine oX (frz:=[3]) (v:=.d (.int .i64 ((10*n:Nat):Int))) Yo ?_ (he:=(v5))|refine eX (v:=.d (.int .i64 ((10*n:Nat):Int))) ?_ (he:=(v5))|refine oX (frz:=[3]) (v:=.d (.int .i64 (((9223372036854775807-(c-48)) / 10:Nat):Int))) Yo ?_ (he:=(v4))|refine eX (v:=.d (.int .i64 (((9223372036854775807-(c-48)) / 10:Nat):Int))) ?_ (he:=(v4))|refine oX (frz:=[3]) (v:=.d (.int .i64 ((9223372036854775807-(c-48):Nat):Int))) Yo ?_ (he:=(v3))|refine eX (v:=.d (.int .i64 ((9223372036854775807-(c-48):Nat):Int))) ?_ (he:=(v3))|refine oX (frz:=[3]) (v:=.d (.int .i64 ((c-48:Nat):Int))) Yo ?_ (he:=(v2))|refine eX (v:=.d (.int .i64 ((c-48:Nat):Int))) ?_ (he:=(v2))|refine oX (frz:=[3]) (v:=.d (.int .u8 ((c-48:Nat):Int))) Yo ?_ (he:=(v1))|refine eX (v:=.d (.int .u8 ((c-48:Nat):Int))) ?_ (he:=(v1))|refine zW [3] ?_|((refine zB [3] (fun h=>?_) (fun h=>?_))<;>(first|exact zk h|skip))|refine zX [3] ?_|refine oX (frz:=[3]) (v:=.d (.int .u8 (c:Nat))) Yo ?_ (hf:=by first|(simp [inB]<;>fail)|(simp [inB];omega)) (he:=by first|(simp [List.getD_eq_getElem?_getD,hc]<;>fail)|fail)|(refine zE ?_;(skip))|(exact⟨i+1,⟨hlt,by rw [hs];omega⟩,by omega,weak_of ⟨by kernel_rfl,by kernel_rfl,by kernel_rfl,by rw [hs];kernel_rfl,by kernel_rfl,(inc_get (k:=i) (by kernel_rfl) (by omega)),trivial⟩⟩)|((exfalso;first|(simp at h<;>fail)|(simp at h;omega)))|fail)
 ·have hie:i=t.length:=by omega
  subst hie
  rw [List.take_length] at hi2 ⊢
  by_cases hr:1≤decF t∧decF t≤4
  ·have hV2:V=(((decF t:Nat):Int),0):=by rw [hV];simp [numV,numE,numOk,hr]
   subst hV2
   repeat' (first|refine zW [3] ?_|((refine zB [3] (fun h=>?_) (fun h=>?_))<;>(first|exact zk h|skip))|refine zX [3] ?_|(refine zE ?_;(rfl))|((exfalso;first|(simp at h<;>fail)|(simp at h;omega)))|fail)
  ·have hV2:V=(0,2):=by
    have hno:numOk t=false:=by simp only [numOk,decide_eq_false_iff_not];exact hr
    rw [hV];simp [numV,numE,hno]
   subst hV2
   rcases(show decF t<1∨4<decF t by omega) with hr1|hr1
   ·skip
    repeat' (first|refine zW [3] ?_|((refine zB [3] (fun h=>?_) (fun h=>?_))<;>(first|exact zk h|skip))|refine zX [3] ?_|(refine zE ?_;(rfl))|((exfalso;first|(simp at h<;>fail)|(simp at h;omega)))|fail)
   ·skip
    repeat' (first|refine zW [3] ?_|((refine zB [3] (fun h=>?_) (fun h=>?_))<;>(first|exact zk h|skip))|refine zX [3] ?_|(refine zE ?_;(rfl))|((exfalso;first|(simp at h<;>fail)|(simp at h;omega)))|fail)
end Go.Av
end
noncomputable section
namespace Go.Av
open Go Go.Proofs
set_option maxRecDepth 10000
abbrev pG:List Ob:=[.gone,.gone,.gone,.gone,.gone]
abbrev endG (s:List Nat):Except Fa PS→List Ob
 |.ok q=>pO s q
 |.error _=>pG
theorem wantP_x {s:List Nat} {k:Nat} {t:List Nat} {p q:PS} (h:wantP s k t p=.ok q):q={ p with l:=q.l }∧p.l.length=q.l.length+1∧∀ x ∈ q.l,x ∈ p.l:=by
 unfold wantP nextP at h
 cases hl:p.l with
 |nil=>rw [hl] at h;simp [Except.bind] at h
 |cons x l =>
  rw [hl] at h
  simp only [Except.bind] at h
  split at h
  ·simp only [Except.ok.injEq] at h
   rw [← h]
   exact⟨rfl,rfl,fun y hy=>List.mem_cons_of_mem _ hy⟩
  ·cases h
theorem wordP_x {s:List Nat} {may:List Nat→Bool} {p:PS} {q:Lx × PS} (h:wordP s may p=.ok q):q.2={ p with l:=q.2.l }∧p.l=q.1 :: q.2.l:=by
 unfold wordP nextP at h
 cases hl:p.l with
 |nil=>rw [hl] at h;simp [Except.bind] at h
 |cons x l =>
  rw [hl] at h
  simp only [Except.bind] at h
  split at h
  ·cases h
  ·split at h
   ·simp only [Except.ok.injEq] at h
    rw [← h]
    exact⟨rfl,rfl⟩
   ·cases h
theorem terminalP_x {s:List Nat} {sep:Bool} {p:PS} {q:List Nat × PS} (h:terminalP s sep p=.ok q):q.2={ p with l:=q.2.l,names:=q.2.names }∧p.l.length=q.2.l.length+1∧(∀ x ∈ q.2.l,x ∈ p.l)∧(sep=false→p.x.tokens.length≠8):=by
 unfold terminalP at h
 cases hw:wordP s smallF p with
 |error e=>rw [hw] at h;cases h
 |ok v =>
  rw [hw] at h
  obtain⟨e1,e2⟩:=wordP_x hw
  simp only [Except.bind] at h
  split at h
  ·cases h
  ·split at h
   ·cases h
   ·rename_i hc
    simp only [Except.ok.injEq] at h
    rw [← h]
    have ex:v.2.x=p.x:=by rw [e1]
    refine⟨?_,by rw [e2];rfl,fun x hx=>by rw [e2];exact List.mem_cons_of_mem _ hx,fun hs e=>hc ⟨hs,by rw [ex];exact e⟩⟩
    simp only
    rw [e1]
theorem PB.of {p q:PS} (h:PB p) (hl:∀ x ∈ q.l,x ∈ p.l) (hll:q.l.length≤p.l.length) (ht:q.x.tokens.length≤1000) (hr:q.x.rules.length≤1000) (hu:q.uses.length+q.l.length≤200000) (hn:q.total≤1000):PB q :=
 ⟨fun x hx=>h.len x (hl x hx),Nat.le_trans hll h.l,ht,hr,hu,hn⟩
theorem PB.l' {p q:PS} (h:PB p) (e:q={ p with l:=q.l }) (hl:∀ x ∈ q.l,x ∈ p.l) (hll:q.l.length≤p.l.length):PB q :=
 h.of hl hll (by rw [e];exact h.toks) (by rw [e];exact h.rules) (by rw [e];have:=h.uses;simp only;omega) (by rw [e];exact h.total)
set_option maxHeartbeats 4000000 in
theorem lookC (s:List Nat) (p:PS) (hb:PB p) (hn:NumL p.l):ACall Tryz.prog 98 [.bp 0 0] (pO s p) (endR (lookP s p)) (endG s (lookP s p)):=by
 have c0:=headC s p wLook
 unfold lookP
 cases h0:wantP s 1 wLook p with
 |error e =>
  rw [h0] at c0
  simp only [Except.bind]
  refine acallP_of_run (fnAt Tryz.func98 (by kernel_rfl) (by kernel_rfl):FnAt _ _ (mkFn Tryz.f98 [])) rfl rfl rfl rfl ?_
  repeat' (first|refine zW [] ?_|((refine zB [] (fun h=>?_) (fun h=>?_))<;>(first|exact zk h|skip))|refine zX [] ?_|refine oFP (c0) ?_|(refine zE ?_;(skip))|(exact⟨rfl,rfl,(by repeat' (first|exact trivial|refine⟨.refl,?_⟩|refine⟨.gone,?_⟩|refine⟨.box (by repeat' (first|exact trivial|refine⟨.inr rfl,?_⟩|refine⟨.inl rfl,?_⟩)),?_⟩))⟩)|((exfalso;(simp at h<;>omega)))|fail)
 |ok q =>
  rw [h0] at c0
  obtain⟨e1,e2,e3⟩:=wantP_x h0
  simp only [Except.bind]
  cases hl:q.l with
  |nil =>
   have c1:=nextEndP s q hl
   rw [show nextP s q=.error (5,s.length) by simp [nextP,hl]]
   refine acallP_of_run (fnAt Tryz.func98 (by kernel_rfl) (by kernel_rfl):FnAt _ _ (mkFn Tryz.f98 [])) rfl rfl rfl rfl ?_
   repeat' (first|refine zW [] ?_|((refine zB [] (fun h=>?_) (fun h=>?_))<;>(first|exact zk h|skip))|refine zX [] ?_|refine oF (c0) ?_|refine eF (c0) ?_|refine oFP (c1) ?_|(refine zE ?_;(skip))|(exact⟨rfl,rfl,(by repeat' (first|exact trivial|refine⟨.refl,?_⟩|refine⟨.gone,?_⟩|refine⟨.box (by repeat' (first|exact trivial|refine⟨.inr rfl,?_⟩|refine⟨.inl rfl,?_⟩)),?_⟩))⟩)|((exfalso;(simp at h<;>omega)))|fail)
  |cons x l =>
   have c1:=nextOkP s q x l hl
   rw [show nextP s q=.ok (x,{ q with l:=l }) by simp [nextP,hl]]
   simp only
   have hx:x ∈ p.l:=e3 x (by rw [hl];exact List.mem_cons_self)
   by_cases hk:x.k=2
   ·have hkk:AV.d (.bool (((x.k:Nat):Int) != 2))=.d (.bool false):=by rw [hk];rfl
    have cn:=numberP x hk (hn x hx hk) (hb.len x hx)
    unfold numV numE at cn
    rw [if_neg (by simp [hk])]
    cases hv:numOk x.t with
    |true =>
     rw [hv,if_pos rfl,if_pos rfl] at cn
     rw [if_pos rfl]
     have c2:=endC s { q with l:=l,x:={ q.x with k:=(decF x.t:Nat) } }
     cases h3:wantP s 3 sSemi { q with l:=l,x:={ q.x with k:=(decF x.t:Nat) } } with
     |error e =>
      rw [h3] at c2
      refine acallP_of_run (fnAt Tryz.func98 (by kernel_rfl) (by kernel_rfl):FnAt _ _ (mkFn Tryz.f98 [])) rfl rfl rfl rfl ?_
      repeat' (first|refine oX (frz:=[]) (v:=.d (.bool false)) Yo ?_ (he:=(hkk))|refine eX (v:=.d (.bool false)) ?_ (he:=(hkk))|refine zW [] ?_|((refine zB [] (fun h=>?_) (fun h=>?_))<;>(first|exact zk h|skip))|refine zX [] ?_|refine oF (c0) ?_|refine eF (c0) ?_|refine oF (c1) ?_|refine eF (c1) ?_|refine zC (cn) ?_|refine oFP (c2) ?_|(refine zE ?_;(skip))|(exact⟨rfl,rfl,(by repeat' (first|exact trivial|refine⟨.refl,?_⟩|refine⟨.gone,?_⟩|refine⟨.box (by repeat' (first|exact trivial|refine⟨.inr rfl,?_⟩|refine⟨.inl rfl,?_⟩)),?_⟩))⟩)|((exfalso;(simp at h<;>omega)))|fail)
     |ok q3 =>
      rw [h3] at c2
      refine acallW_of_run Yo (fnAt Tryz.func98 (by kernel_rfl) (by kernel_rfl):FnAt _ _ (mkFn Tryz.f98 [])) rfl rfl rfl rfl rfl ?_
      repeat' (first|refine oX (frz:=[]) (v:=.d (.bool false)) Yo ?_ (he:=(hkk))|refine eX (v:=.d (.bool false)) ?_ (he:=(hkk))|refine zW [] ?_|((refine zB [] (fun h=>?_) (fun h=>?_))<;>(first|exact zk h|skip))|refine zX [] ?_|refine oF (c0) ?_|refine eF (c0) ?_|refine oF (c1) ?_|refine eF (c1) ?_|refine zC (cn) ?_|refine oF (c2) ?_|refine eF (c2) ?_|(refine zE ?_;(skip))|(((first|refine Yt ?_|skip);exact⟨trivial,_,_,rfl,rfl,.refl,(by repeat' (first|exact trivial|refine⟨.refl,?_⟩|refine⟨.gone,?_⟩|refine⟨.box (by repeat' (first|exact trivial|refine⟨.inr rfl,?_⟩|refine⟨.inl rfl,?_⟩)),?_⟩))⟩))|((exfalso;(simp at h<;>omega)))|fail)
    |false =>
     rw [hv,if_neg (by simp),if_neg (by simp)] at cn
     rw [if_neg (by simp)]
     have c2:=failP s { q with l:=l } 2 x.a
     refine acallP_of_run (fnAt Tryz.func98 (by kernel_rfl) (by kernel_rfl):FnAt _ _ (mkFn Tryz.f98 [])) rfl rfl rfl rfl ?_
     repeat' (first|refine oX (frz:=[]) (v:=.d (.bool false)) Yo ?_ (he:=(hkk))|refine eX (v:=.d (.bool false)) ?_ (he:=(hkk))|refine zW [] ?_|((refine zB [] (fun h=>?_) (fun h=>?_))<;>(first|exact zk h|skip))|refine zX [] ?_|refine oF (c0) ?_|refine eF (c0) ?_|refine oF (c1) ?_|refine eF (c1) ?_|refine zC (cn) ?_|refine oFP (c2) ?_|(refine zE ?_;(skip))|(exact⟨rfl,rfl,(by repeat' (first|exact trivial|refine⟨.refl,?_⟩|refine⟨.gone,?_⟩|refine⟨.box (by repeat' (first|exact trivial|refine⟨.inr rfl,?_⟩|refine⟨.inl rfl,?_⟩)),?_⟩))⟩)|((exfalso;(simp at h<;>omega)))|fail)
   ·have c2:=failP s { q with l:=l } 3 x.a
    rw [if_pos hk]
    refine acallP_of_run (fnAt Tryz.func98 (by kernel_rfl) (by kernel_rfl):FnAt _ _ (mkFn Tryz.f98 [])) rfl rfl rfl rfl ?_
    repeat' (first|refine zW [] ?_|((refine zB [] (fun h=>?_) (fun h=>?_))<;>(first|exact zk h|skip))|refine zX [] ?_|refine oF (c0) ?_|refine eF (c0) ?_|refine oF (c1) ?_|refine eF (c1) ?_|refine oFP (c2) ?_|(refine zE ?_;(skip))|(exact⟨rfl,rfl,(by repeat' (first|exact trivial|refine⟨.refl,?_⟩|refine⟨.gone,?_⟩|refine⟨.box (by repeat' (first|exact trivial|refine⟨.inr rfl,?_⟩|refine⟨.inl rfl,?_⟩)),?_⟩))⟩)|((exfalso;(simp at h<;>omega)))|fail)
theorem sepC (s:List Nat) (p:PS) (hb:PB p):ACall Tryz.prog 100 [.bp 0 0] (pO s p) (endR (sepQ s p)) (endG s (sepQ s p)):=by
 have c0:=headC s p wSep
 unfold sepQ
 cases h0:wantP s 1 wSep p with
 |error e =>
  rw [h0] at c0
  simp only [Except.bind]
  refine acallP_of_run (fnAt Tryz.func100 (by kernel_rfl) (by kernel_rfl):FnAt _ _ (mkFn Tryz.f100 [])) rfl rfl rfl rfl ?_
  repeat' (first|refine zW [] ?_|((refine zB [] (fun h=>?_) (fun h=>?_))<;>(first|exact zk h|skip))|refine zX [] ?_|refine oFP (c0) ?_|(refine zE ?_;(skip))|(exact⟨rfl,rfl,(by repeat' (first|exact trivial|refine⟨.refl,?_⟩|refine⟨.gone,?_⟩|refine⟨.box (by repeat' (first|exact trivial|refine⟨.inr rfl,?_⟩|refine⟨.inl rfl,?_⟩)),?_⟩))⟩)|((exfalso;(simp at h<;>omega)))|fail)
 |ok q =>
  rw [h0] at c0
  obtain⟨e1,e2,e3⟩:=wantP_x h0
  simp only [Except.bind]
  have c1:=terminalC s q true (hb.l' e1 e3 (by omega))
  cases h1:terminalP s true q with
  |error e =>
   rw [h1] at c1
   refine acallP_of_run (fnAt Tryz.func100 (by kernel_rfl) (by kernel_rfl):FnAt _ _ (mkFn Tryz.f100 [])) rfl rfl rfl rfl ?_
   repeat' (first|refine zW [] ?_|((refine zB [] (fun h=>?_) (fun h=>?_))<;>(first|exact zk h|skip))|refine zX [] ?_|refine oF (c0) ?_|refine eF (c0) ?_|refine oFP (c1) ?_|(refine zE ?_;(skip))|(exact⟨rfl,rfl,(by repeat' (first|exact trivial|refine⟨.refl,?_⟩|refine⟨.gone,?_⟩|refine⟨.box (by repeat' (first|exact trivial|refine⟨.inr rfl,?_⟩|refine⟨.inl rfl,?_⟩)),?_⟩))⟩)|((exfalso;(simp at h<;>omega)))|fail)
  |ok v =>
   rw [h1] at c1
   obtain⟨t,v⟩:=v
   have c2:=endC s { v with x:={ v.x with sep:=t } }
   simp only
   cases h2:wantP s 3 sSemi { v with x:={ v.x with sep:=t } } with
   |error e =>
    rw [h2] at c2
    refine acallP_of_run (fnAt Tryz.func100 (by kernel_rfl) (by kernel_rfl):FnAt _ _ (mkFn Tryz.f100 [])) rfl rfl rfl rfl ?_
    repeat' (first|refine zW [] ?_|((refine zB [] (fun h=>?_) (fun h=>?_))<;>(first|exact zk h|skip))|refine zX [] ?_|refine oF (c0) ?_|refine eF (c0) ?_|refine oF (c1) ?_|refine eF (c1) ?_|refine oFP (c2) ?_|(refine zE ?_;(skip))|(exact⟨rfl,rfl,(by repeat' (first|exact trivial|refine⟨.refl,?_⟩|refine⟨.gone,?_⟩|refine⟨.box (by repeat' (first|exact trivial|refine⟨.inr rfl,?_⟩|refine⟨.inl rfl,?_⟩)),?_⟩))⟩)|((exfalso;(simp at h<;>omega)))|fail)
   |ok q3 =>
    rw [h2] at c2
    refine acallW_of_run Yo (fnAt Tryz.func100 (by kernel_rfl) (by kernel_rfl):FnAt _ _ (mkFn Tryz.f100 [])) rfl rfl rfl rfl rfl ?_
    repeat' (first|refine zW [] ?_|((refine zB [] (fun h=>?_) (fun h=>?_))<;>(first|exact zk h|skip))|refine zX [] ?_|refine oF (c0) ?_|refine eF (c0) ?_|refine oF (c1) ?_|refine eF (c1) ?_|refine oF (c2) ?_|refine eF (c2) ?_|(refine zE ?_;(skip))|(((first|refine Yt ?_|skip);exact⟨trivial,_,_,rfl,rfl,.refl,(by repeat' (first|exact trivial|refine⟨.refl,?_⟩|refine⟨.gone,?_⟩|refine⟨.box (by repeat' (first|exact trivial|refine⟨.inr rfl,?_⟩|refine⟨.inl rfl,?_⟩)),?_⟩))⟩))|((exfalso;(simp at h<;>omega)))|fail)
end Go.Av
end
noncomputable section
namespace Go.Av
open Go Go.Proofs
set_option maxRecDepth 10000
theorem tokenP_x {s:List Nat} {p q:PS} (h:tokenP s p=.ok q):∃ t v,terminalP s false p=.ok (t,v)∧q={ v with x:={ v.x with tokens:=v.x.tokens++[t] } }:=by
 unfold tokenP at h
 cases hv:terminalP s false p with
 |error e=>rw [hv] at h;cases h
 |ok v =>
  rw [hv] at h
  simp only [Except.bind,Except.ok.injEq] at h
  exact⟨v.1,v.2,rfl,h.symm⟩
abbrev pOt (s:List Nat) (v:PS) (t:List Nat):List Ob:=[.box [.d (.str s),.d (.sl 3 (v.l.map encL)),.d (.int .i64 v.x.k),.sr 1 1 (v.x.tokens.map .str++[.str t]),.d (.str v.x.sep),.d (.str v.x.start),.sr 2 2 (v.x.rules.map encR),.mp 3,.sr 4 2 (v.uses.map encU),.d (.int .i64 (v.total:Nat))],.room (v.x.tokens.length+1) 1,.room v.x.rules.length 2,.map (kvN v.names),.room v.uses.length 2]
theorem pOt_eq (s:List Nat) (v:PS) (t:List Nat):pO s { v with x:={ v.x with tokens:=v.x.tokens++[t] } }=pOt s v t:=by
 unfold pO pBox pOt;simp only [List.map_append,List.map_cons,List.map_nil,List.length_append,List.length_cons,List.length_nil]
def KXu (s:List Nat) (rv:Array ResultVar) (R:Except Fa PS):Ex→S→Prop:=fun e st=>match R with
 |.ok q=>(match e with|.normal=>True|.ret=>True|_=>False)∧∃ objs2 r0,evLeave H0 st.dl none st.objs=some (none,objs2)∧evResults Et ⟨st.tm,objs2,[]⟩ rv=some r0∧AvR r0 (.tup [])∧WkObs objs2 (pO s q)
 |.error x=>e=.pan (refD x)∧st.dl=[]∧WkObs st.objs pG
theorem acallU {f:FuncId} {i:FnI} (hF:FnAt Tryz.prog f i) {args:List AV} {s:List Nat} {p:PS} {R:Except Fa PS} (hlen:args.length=i.np) (hle:Nat.ble i.np i.nt=true)
  (h:Run Tryz.prog i.nt (pO s p).length none i.body ⟨initTm 0 args .nil,pO s p,[]⟩ (KXu s i.results R)):ACall Tryz.prog f args (pO s p) (endR R) (endG s R):=by
 cases R with
 |ok q=>exact acallW_of_run Yo hF hlen hle rfl rfl rfl h
 |error x=>exact acallP_of_run hF hlen hle rfl rfl h
theorem terminalP_v {s:List Nat} {sep:Bool} {p:PS} {t:List Nat} {v:PS} (h:terminalP s sep p=.ok (t,v)):∃ l n,v=⟨l,p.x,n,p.uses,p.total⟩:=by
 have:=(terminalP_x h).1
 exact⟨v.l,v.names,this⟩
set_option maxHeartbeats 8000000 in
theorem tokensC (s:List Nat) (p:PS) (hb:PB p) (h8:p.x.tokens.length≤8):ACall Tryz.prog 99 [.bp 0 0] (pO s p) (endR (tokensP s p)) (endG s (tokensP s p)):=by
 have c0:=headC s p wToken
 unfold tokensP
 cases h0:wantP s 1 wToken p with
 |error e =>
  rw [h0] at c0
  simp only [Except.bind]
  refine acallP_of_run (fnAt Tryz.func99 (by kernel_rfl) (by kernel_rfl):FnAt _ _ (mkFn Tryz.f99 [12,29])) rfl rfl rfl rfl ?_
  repeat' (first|refine zW [12,29] ?_|((refine zB [12,29] (fun h=>?_) (fun h=>?_))<;>(first|exact zk h|skip))|refine zX [12,29] ?_|refine oFP (c0) ?_|(refine zE ?_;(skip))|(exact⟨rfl,rfl,(by repeat' (first|exact trivial|refine⟨.refl,?_⟩|refine⟨.gone,?_⟩|refine⟨.box (by repeat' (first|exact trivial|refine⟨.inr rfl,?_⟩|refine⟨.inl rfl,?_⟩)),?_⟩))⟩)|((exfalso;(simp at h<;>omega)))|fail)
 |ok q =>
  rw [h0] at c0
  obtain⟨e1,e2,e3⟩:=wantP_x h0
  have hbq:=hb.l' e1 e3 (by omega)
  simp only [Except.bind]
  have ct:=terminalC s q false hbq
  have htq:=hbq.toks
  unfold tokenP
  cases h1:terminalP s false q with
  |error e =>
   rw [h1] at ct
   simp only [Except.bind]
   refine acallP_of_run (fnAt Tryz.func99 (by kernel_rfl) (by kernel_rfl):FnAt _ _ (mkFn Tryz.f99 [12,29])) rfl rfl rfl rfl ?_
   repeat' (first|refine zRn [12,29] ?_|refine oF (c0) ?_|refine eF (c0) ?_|fail)
   refine Run.drawP (frz:=[12,29]) Yo (by kernel_rfl) [(5,7)] 7 [8,9,13,10,11,12] (x:=refD e) (obP:=pE q) (by rfl) (by kernel_rfl) ?_ ?_
   ·iterate 7 refine cX ?_
    refine cP ct ?_
    iterate 6 refine cD ?_
    refine EvC.nil ⟨by kernel_rfl,⟨⟨_,_,_,_,_,_,_,rfl,rfl,rfl,rfl,rfl,rfl⟩,trivial⟩⟩
   ·exact⟨rfl,rfl,(by repeat' (first|exact trivial|refine⟨.refl,?_⟩|refine⟨.gone,?_⟩|refine⟨.box (by repeat' (first|exact trivial|refine⟨.inr rfl,?_⟩|refine⟨.inl rfl,?_⟩)),?_⟩))⟩
  |ok v =>
   rw [h1] at ct
   obtain⟨t,v⟩:=v
   obtain⟨y1,y2,y3,y4⟩:=terminalP_x h1
   have y4:=y4 rfl
   obtain⟨vl,vn,rfl⟩:=terminalP_v h1
   simp only [Except.bind] at y2 y3 ⊢
   obtain⟨p1,hp1⟩:∃ p1:PS,p1=⟨vl,{ q.x with tokens:=q.x.tokens++[t] },vn,q.uses,q.total⟩:=⟨_,rfl⟩
   have hO1:pO s p1=pOt s ⟨vl,q.x,vn,q.uses,q.total⟩ t:=by rw [hp1];exact pOt_eq s ⟨vl,q.x,vn,q.uses,q.total⟩ t
   have hq8:q.x.tokens.length≤100000:=by omega
   have h8q:q.x.tokens.length≤8:=by rw [e1];exact h8
   have hbV:∀ (l:List Lx) (X:Src) (n:List (List Nat × Bool × Bool × Bool)) (u:List (List Nat × Nat)) (k:Nat) (t:List Nat),(∀ x ∈ l,x ∈ q.l)→l.length≤q.l.length→X.tokens.length≤8→X.rules.length≤1000→u.length≤q.uses.length→k≤1000→PB ⟨l,{ X with tokens:=X.tokens++[t] },n,u,k⟩:=fun l X n u k t g1 g2 g3 g4 g5 g6 =>
    ⟨fun x hx=>hbq.len x (g1 x hx),by have:=hbq.l;simp only;omega,by simp;omega,g4,by have:=hbq.uses;simp only;omega,g6⟩
   have hb1:PB p1:=by rw [hp1];exact hbV vl q.x vn q.uses q.total t y3 (by omega) h8q hbq.rules (Nat.le_refl _) hbq.total
   obtain⟨R,hR⟩:∃ R,R=(tokensLP s (vl.length+1) p1).bind fun p=>wantP s 3 sSemi p:=⟨_,rfl⟩
   rw [hp1] at hR
   simp only [Except.bind] at hR
   rw [← hR]
   refine acallU (fnAt Tryz.func99 (by kernel_rfl) (by kernel_rfl):FnAt _ _ (mkFn Tryz.f99 [12,29])) rfl rfl ?_
   repeat' (first|refine zRn [12,29] ?_|refine oF (c0) ?_|refine eF (c0) ?_|fail)
   refine Run.drawC (frz:=[12,29]) Yo (by kernel_rfl) [(5,7)] ?_
   iterate 7 refine cX ?_
   refine cCall ct ?_
   refine cX ?_
   refine cX ?_ (hv:=app1) (hf:=rfl) (he:=rfl)
   iterate 4 refine cX ?_
   refine EvC.nil ⟨by kernel_rfl,⟨⟨_,_,_,_,_,_,_,rfl,rfl,rfl,rfl,rfl,rfl⟩,trivial⟩,?_⟩
   refine Yq ?_
   refine Yb ?_
   refine Run.loopT (fun y:Nat × PS=>⟨PT.ofList [(0,.bp 0 0)],pO s y.2,[]⟩) (fun y=>((tokensLP s y.1 y.2).bind fun p=>wantP s 3 sSemi p)=R∧PB y.2∧y.2.x.tokens.length≤8∧y.2.l.length<y.1∧y.2.l.length≤q.l.length∧(∀ x ∈ y.2.l,x ∈ q.l)∧y.2.uses.length≤q.uses.length) (fun y=>y.1) (vl.length+1,p1)
    ⟨by rw [hR,hp1];rfl,hb1,by rw [hp1];simp;omega,by rw [hp1];simp only;omega,by rw [hp1];simp only;omega,by rw [hp1];exact y3,by rw [hp1];exact Nat.le_refl _⟩ (by show Tidy _ _ ⟨_,pO s p1,_⟩;rw [hO1];exact(tidy_of (objs:=_) _ 5 (by rfl) rfl (by repeat' (first|exact trivial|refine⟨(Or.inl rfl),?_⟩|refine⟨(Or.inr rfl),?_⟩|fail)) (by repeat' (first|exact trivial|refine⟨rfl,?_⟩|fail)) rfl rfl)) (fun y hy=>?_)
   obtain⟨n,y⟩:=y
   obtain⟨i1,i2,i3,i4,i5,i6,i7⟩:=hy
   simp only at i1 i2 i3 i4 i5 i6 i7 ⊢
   obtain⟨n,rfl⟩:∃ j,n=j+1:=⟨n-1,by omega⟩
   have ci:=isCP s y sComma
   unfold tokensLP at i1
   cases hc:isL sComma y.l with
   |false =>
    rw [hc] at ci i1
    simp only [Bool.false_eq_true,if_false,Except.bind] at i1
    have ce:=endC s y
    rw [i1] at ce
    cases R with
    |ok q9 =>
     repeat' (first|refine zW [12,29] ?_|((refine zB [12,29] (fun h=>?_) (fun h=>?_))<;>(first|exact zk h|skip))|refine zX [12,29] ?_|refine oF (ci) ?_|refine eF (ci) ?_|refine oF (ce) ?_|refine eF (ce) ?_|(refine zE ?_;(skip))|(((first|refine Yt ?_|skip);exact⟨trivial,_,_,rfl,rfl,.refl,(by repeat' (first|exact trivial|refine⟨.refl,?_⟩|refine⟨.gone,?_⟩|refine⟨.box (by repeat' (first|exact trivial|refine⟨.inr rfl,?_⟩|refine⟨.inl rfl,?_⟩)),?_⟩))⟩))|((exfalso;(simp at h<;>omega)))|fail)
    |error e9 =>
     repeat' (first|refine zW [12,29] ?_|((refine zB [12,29] (fun h=>?_) (fun h=>?_))<;>(first|exact zk h|skip))|refine zX [12,29] ?_|refine oF (ci) ?_|refine eF (ci) ?_|refine oFP (ce) ?_|(refine zE ?_;(skip))|(exact⟨rfl,rfl,(by repeat' (first|exact trivial|refine⟨.refl,?_⟩|refine⟨.gone,?_⟩|refine⟨.box (by repeat' (first|exact trivial|refine⟨.inr rfl,?_⟩|refine⟨.inl rfl,?_⟩)),?_⟩))⟩)|((exfalso;(simp at h<;>omega)))|fail)
   |true =>
    rw [hc,if_pos rfl] at i1
    rw [hc] at ci
    obtain⟨x,l,hl,_,_⟩:=isL_cons hc
    have cn:=nextOkP s y x l hl
    rw [show nextP s y=.ok (x,{ y with l:=l }) by simp [nextP,hl]] at i1
    simp only [Except.bind] at i1
    have hby:PB { y with l:=l }:=i2.of (fun z hz=>by rw [hl];exact List.mem_cons_of_mem _ hz) (by rw [hl];simp) i2.toks i2.rules (by have:=i2.uses;rw [hl] at this;simp at this ⊢;omega) i2.total
    have cz:=terminalC s { y with l:=l } false hby
    have hty:=i2.toks
    unfold tokenP at i1
    cases hz:terminalP s false { y with l:=l } with
    |error e9 =>
     rw [hz] at cz i1
     simp only [Except.bind] at i1
     subst i1
     repeat' (first|refine zN [12,29] ?_|((refine zB [12,29] (fun h=>?_) (fun h=>?_))<;>(first|exact zk h|skip))|refine zX [12,29] ?_|refine oF (ci) ?_|refine eF (ci) ?_|refine oF (cn) ?_|refine eF (cn) ?_|(refine zE ?_;(skip))|((exfalso;(simp at h<;>omega)))|fail)
     refine Run.drawP (frz:=[12,29]) Yo (by kernel_rfl) [(5,7)] 7 [8,9,13,10,11,12] (x:=refD e9) (obP:=pE { y with l:=l }) (by rfl) (by kernel_rfl) ?_ ?_
     ·iterate 7 refine cX ?_
      refine cP cz ?_
      iterate 6 refine cD ?_
      refine EvC.nil ⟨by kernel_rfl,⟨⟨_,_,_,_,_,_,_,rfl,rfl,rfl,rfl,rfl,rfl⟩,trivial⟩⟩
     ·exact⟨rfl,rfl,(by repeat' (first|exact trivial|refine⟨.refl,?_⟩|refine⟨.gone,?_⟩|refine⟨.box (by repeat' (first|exact trivial|refine⟨.inr rfl,?_⟩|refine⟨.inl rfl,?_⟩)),?_⟩))⟩
    |ok w =>
     rw [hz] at cz i1
     obtain⟨tz,w⟩:=w
     obtain⟨z1,z2,z3,z4⟩:=terminalP_x hz
     have z4:=z4 rfl
     obtain⟨wl,wn,rfl⟩:=terminalP_v hz
     simp only [Except.bind] at i1 z2 z3 z4
     have hlq:l.length<q.l.length∧l.length+1=y.l.length:=by rw [hl] at i5 ⊢;simp at i5 ⊢;omega
     have hmem:∀ x ∈ wl,x ∈ q.l:=fun x hx=>i6 x (by rw [hl];exact List.mem_cons_of_mem _ (z3 x hx))
     have h7:y.x.tokens.length≤7:=by omega
     have fin:∀ s1:S,Tidy 5 s1 ⟨PT.ofList [(0,.bp 0 0)],pOt s ⟨wl,y.x,wn,y.uses,y.total⟩ tz,[]⟩ →
       ∃ x':Nat × PS,(((tokensLP s x'.1 x'.2).bind fun p=>wantP s 3 sSemi p)=R∧PB x'.2∧x'.2.x.tokens.length≤8∧x'.2.l.length<x'.1∧x'.2.l.length≤q.l.length∧(∀ x ∈ x'.2.l,x ∈ q.l)∧x'.2.uses.length≤q.uses.length)∧x'.1<n+1∧Tidy 5 s1 ⟨PT.ofList [(0,.bp 0 0)],pO s x'.2,[]⟩:=fun s1 ht =>
      ⟨(n,⟨wl,{ y.x with tokens:=y.x.tokens++[tz] },wn,y.uses,y.total⟩),⟨i1,hbV wl y.x wn y.uses y.total tz hmem (by omega) (by omega) i2.rules i7 i2.total,by simp;omega,by simp only;omega,by simp only;omega,hmem,i7⟩,Nat.lt_succ_self _,by
       show Tidy 5 s1 ⟨PT.ofList [(0,.bp 0 0)],pO s ⟨wl,{ y.x with tokens:=y.x.tokens++[tz] },wn,y.uses,y.total⟩,[]⟩
       rw [pOt_eq s ⟨wl,y.x,wn,y.uses,y.total⟩ tz];exact ht⟩
     repeat' (first|refine zN [12,29] ?_|((refine zB [12,29] (fun h=>?_) (fun h=>?_))<;>(first|exact zk h|skip))|refine zX [12,29] ?_|refine oF (ci) ?_|refine eF (ci) ?_|refine oF (cn) ?_|refine eF (cn) ?_|(refine zE ?_;(skip))|((exfalso;(simp at h<;>omega)))|fail)
     refine Run.drawC (frz:=[12,29]) Yo (by kernel_rfl) [(5,7)] ?_
     iterate 7 refine cX ?_
     refine cCall cz ?_
     refine cX ?_
     refine cX ?_ (hv:=app1) (hf:=rfl) (he:=rfl)
     iterate 4 refine cX ?_
     refine EvC.nil ⟨by kernel_rfl,⟨⟨_,_,_,_,_,_,_,rfl,rfl,rfl,rfl,rfl,rfl⟩,trivial⟩,?_⟩
     repeat' (first|refine zW [12,29] ?_|((refine zB [12,29] (fun h=>?_) (fun h=>?_))<;>(first|exact zk h|skip))|refine zX [12,29] ?_|(refine zE ?_;(skip))|(exact fin _ (tidy_of (objs:=_) _ 5 (by rfl) rfl (by repeat' (first|exact trivial|refine⟨(Or.inl rfl),?_⟩|refine⟨(Or.inr rfl),?_⟩|fail)) (by repeat' (first|exact trivial|refine⟨rfl,?_⟩|fail)) rfl rfl))|((exfalso;(simp at h<;>omega)))|fail)
end Go.Av
end

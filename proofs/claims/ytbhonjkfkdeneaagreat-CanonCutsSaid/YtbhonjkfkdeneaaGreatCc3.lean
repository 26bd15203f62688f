/-
  Parts of the way to the law, joined: rules for code over data, and what the functions return. Conditions stand at each.
-/
import Derived.Test.YtbhonjkfkdeneaaGreatCc2
import Derived.Test.YtbhonjkfkdeneaaGreatRows
set_option linter.all false
namespace Go.Av
open Go Go.Proofs
def ty1:Ty:=⟨.func #[] #[] false,1,8,[.nilfunc]⟩
def ty3:Ty:=⟨.int .i64,1,8,[(.int .i64 0)]⟩
def ty4:Ty:=⟨.bool,1,1,[(.bool false)]⟩
def ty5:Ty:=⟨.int .u8,1,1,[(.int .u8 0)]⟩
def ty9:Ty:=⟨.string,1,16,[(.str [])]⟩
def ty20:Ty:=⟨.interface #[],1,16,[.niliface]⟩
def ty21:Ty:=⟨.int .i32,1,4,[(.int .i32 0)]⟩
def ty22:Ty:=⟨.slice 9,1,24,[.nilsl]⟩
def ty23:Ty:=⟨.slice 82,1,24,[.nilsl]⟩
def ty25:Ty:=⟨.struct #[⟨ "K",3,0,false, "", "",0⟩,⟨ "Tokens",22,1,false, "", "",8⟩,⟨ "Sep",9,2,false, "", "",32⟩,⟨ "Names",22,3,false, "", "",48⟩,⟨ "Start",3,4,false, "", "",72⟩,⟨ "Prods",23,5,false, "", "",80⟩],6,104,[(.int .i64 0),.nilsl,(.str []),.nilsl,(.int .i64 0),.nilsl]⟩
def ty29:Ty:=⟨.slice 96,1,24,[.nilsl]⟩
def ty31:Ty:=⟨.struct #[⟨ "K",3,0,false, "", "",0⟩,⟨ "Tokens",22,1,false, "", "",8⟩,⟨ "Sep",9,2,false, "", "",32⟩,⟨ "Start",9,3,false, "", "",48⟩,⟨ "Rules",29,4,false, "", "",64⟩],5,88,[(.int .i64 0),.nilsl,(.str []),(.str []),.nilsl]⟩
def ty32:Ty:=⟨.int .i64,1,8,[(.int .i64 0)]⟩
def ty37:Ty:=⟨.func #[25] #[32] false,1,8,[.nilfunc]⟩
def ty41:Ty:=⟨.struct #[⟨ "Err",32,0,false, "", "",0⟩,⟨ "At",3,1,false, "", "",8⟩],2,16,[(.int .i64 0),(.int .i64 0)]⟩
def ty44:Ty:=⟨.func #[9] #[4] false,1,8,[.nilfunc]⟩
def ty55:Ty:=⟨.func #[22,22] #[4] false,1,8,[.nilfunc]⟩
def ty60:Ty:=⟨.func #[3] #[4] false,1,8,[.nilfunc]⟩
def ty61:Ty:=⟨.int .u64,1,8,[(.int .u64 0)]⟩
def ty66:Ty:=⟨.slice 3,1,24,[.nilsl]⟩
def ty69:Ty:=⟨.slice 25,1,24,[.nilsl]⟩
def ty75:Ty:=⟨.slice 5,1,24,[.nilsl]⟩
def ty82:Ty:=⟨.struct #[⟨ "Left",3,0,false, "", "",0⟩,⟨ "Right",66,1,false, "", "",8⟩],2,32,[(.int .i64 0),.nilsl]⟩
def ty94:Ty:=⟨.slice 22,1,24,[.nilsl]⟩
def ty96:Ty:=⟨.struct #[⟨ "Name",9,0,false, "", "",0⟩,⟨ "Alts",94,1,false, "", "",16⟩],2,40,[(.str []),.nilsl]⟩
def ty97:Ty:=⟨.func #[230] #[] false,1,8,[.nilfunc]⟩
def ty98:Ty:=⟨.func #[230] #[] false,1,8,[.nilfunc]⟩
def ty100:Ty:=⟨.pointer 96,1,8,[.nilptr]⟩
def ty102:Ty:=⟨.slice 37,1,24,[.nilsl]⟩
def ty105:Ty:=⟨.func #[96,96] #[4] false,1,8,[.nilfunc]⟩
def ty107:Ty:=⟨.func #[82,82] #[4] false,1,8,[.nilfunc]⟩
def ty109:Ty:=⟨.slice 126,1,24,[.nilsl]⟩
def ty113:Ty:=⟨.struct #[⟨ "Fault",41,0,true, "", "",0⟩],2,16,[(.int .i64 0),(.int .i64 0)]⟩
def ty115:Ty:=⟨.pointer 119,1,8,[.nilptr]⟩
def ty116:Ty:=⟨.map 9 200,1,8,[.nilmap]⟩
def ty117:Ty:=⟨.slice 198,1,24,[.nilsl]⟩
def ty119:Ty:=⟨.struct #[⟨ "s",9,0,false, "", "stenotype/source",0⟩,⟨ "l",109,1,false, "", "stenotype/source",16⟩,⟨ "x",31,2,false, "", "stenotype/source",40⟩,⟨ "names",116,7,false, "", "stenotype/source",128⟩,⟨ "uses",117,8,false, "", "stenotype/source",136⟩,⟨ "total",3,9,false, "", "stenotype/source",160⟩],10,168,[(.str []),.nilsl,(.int .i64 0),.nilsl,(.str []),(.str []),.nilsl,.nilmap,.nilsl,(.int .i64 0)]⟩
def ty120:Ty:=⟨.func #[115] #[] false,1,8,[.nilfunc]⟩
def ty121:Ty:=⟨.array 6 120,6,48,[.nilfunc,.nilfunc,.nilfunc,.nilfunc,.nilfunc,.nilfunc]⟩
def ty122:Ty:=⟨.pointer 124,1,8,[.nilptr]⟩
def ty124:Ty:=⟨.struct #[⟨ "text",9,0,false, "", "stenotype/stenotyperef08",0⟩,⟨ "l",109,1,false, "", "stenotype/stenotyperef08",16⟩,⟨ "at",3,2,false, "", "stenotype/stenotyperef08",40⟩,⟨ "f",41,3,false, "", "stenotype/stenotyperef08",48⟩,⟨ "alts",3,5,false, "", "stenotype/stenotyperef08",64⟩,⟨ "x",31,6,false, "", "stenotype/stenotyperef08",72⟩],11,160,[(.str []),.nilsl,(.int .i64 0),(.int .i64 0),(.int .i64 0),(.int .i64 0),(.int .i64 0),.nilsl,(.str []),(.str []),.nilsl]⟩
def ty126:Ty:=⟨.struct #[⟨ "Kind",3,0,false, "", "",0⟩,⟨ "Text",9,1,false, "", "",8⟩,⟨ "At",3,2,false, "", "",24⟩],3,32,[(.int .i64 0),(.str []),(.int .i64 0)]⟩
def ty131:Ty:=⟨.pointer 136,1,8,[.nilptr]⟩
def ty132:Ty:=⟨.pointer 134,1,8,[.nilptr]⟩
def ty134:Ty:=⟨.struct #[⟨ "addr",132,0,false, "", "strings",0⟩,⟨ "buf",75,1,false, "", "strings",8⟩],2,32,[.nilptr,.nilsl]⟩
def ty136:Ty:=⟨.struct #[⟨ "Builder",134,0,true, "", "",0⟩],2,32,[.nilptr,.nilsl]⟩
def ty143:Ty:=⟨.func #[96] #[4] false,1,8,[.nilfunc]⟩
def ty148:Ty:=⟨.pointer 153,1,8,[.nilptr]⟩
def ty150:Ty:=⟨.struct #[⟨ "S",9,0,false, "", "",0⟩,⟨ "Most",3,1,false, "", "",16⟩,⟨ "Err",32,2,false, "", "",24⟩],3,32,[(.str []),(.int .i64 0),(.int .i64 0)]⟩
def ty153:Ty:=⟨.struct #[⟨ "Writer",150,0,true, "", "",0⟩],3,32,[(.str []),(.int .i64 0),(.int .i64 0)]⟩
def ty164:Ty:=⟨.int .u64,1,8,[(.int .u64 0)]⟩
def ty165:Ty:=⟨.map 9 3,1,8,[.nilmap]⟩
def ty166:Ty:=⟨.struct #[⟨ "Fault",41,0,true, "", "",0⟩],2,16,[(.int .i64 0),(.int .i64 0)]⟩
def ty168:Ty:=⟨.pointer 173,1,8,[.nilptr]⟩
def ty170:Ty:=⟨.struct #[⟨ "S",9,0,false, "", "",0⟩,⟨ "At",3,1,false, "", "",16⟩,⟨ "Fault",41,2,false, "", "",24⟩],4,40,[(.str []),(.int .i64 0),(.int .i64 0),(.int .i64 0)]⟩
def ty173:Ty:=⟨.struct #[⟨ "Reader",170,0,true, "", "",0⟩],4,40,[(.str []),(.int .i64 0),(.int .i64 0),(.int .i64 0)]⟩
def ty185:Ty:=⟨.map 9 4,1,8,[.nilmap]⟩
def ty188:Ty:=⟨.func #[82] #[4] false,1,8,[.nilfunc]⟩
def ty189:Ty:=⟨.func #[233] #[] false,1,8,[.nilfunc]⟩
def ty190:Ty:=⟨.func #[233] #[] false,1,8,[.nilfunc]⟩
def ty198:Ty:=⟨.struct #[⟨ "name",9,0,false, "", "stenotype/source",0⟩,⟨ "at",3,1,false, "", "stenotype/source",16⟩],2,24,[(.str []),(.int .i64 0)]⟩
def ty200:Ty:=⟨.struct #[⟨ "token",4,0,false, "", "stenotype/source",0⟩,⟨ "sep",4,1,false, "", "stenotype/source",1⟩,⟨ "rule",4,2,false, "", "stenotype/source",2⟩],3,3,[(.bool false),(.bool false),(.bool false)]⟩
def ty207:Ty:=⟨.interface #[("Error",139)],1,16,[.niliface]⟩
def ty211:Ty:=⟨.pointer 5,1,8,[.nilptr]⟩
def ty215:Ty:=⟨.struct #[⟨ "Writer",150,0,true, "", "",0⟩],3,32,[(.str []),(.int .i64 0),(.int .i64 0)]⟩
def ty216:Ty:=⟨.pointer 215,1,8,[.nilptr]⟩
def ty222:Ty:=⟨.struct #[⟨ "Reader",170,0,true, "", "",0⟩],4,40,[(.str []),(.int .i64 0),(.int .i64 0),(.int .i64 0)]⟩
def ty223:Ty:=⟨.pointer 222,1,8,[.nilptr]⟩
def ty230:Ty:=⟨.func #[3,82] #[4] false,1,8,[.nilfunc]⟩
def ty233:Ty:=⟨.func #[126,41] #[4] false,1,8,[.nilfunc]⟩
def ty234:Ty:=⟨.pointer 238,1,8,[.nilptr]⟩
def ty236:Ty:=⟨.struct #[⟨ "s",9,0,false, "", "stenotype/text",0⟩,⟨ "at",3,1,false, "", "stenotype/text",16⟩],2,24,[(.str []),(.int .i64 0)]⟩
def ty238:Ty:=⟨.struct #[⟨ "cursor",236,0,true, "", "stenotype/text",0⟩],2,24,[(.str []),(.int .i64 0)]⟩
def ty247:Ty:=⟨.slice 61,1,24,[.nilsl]⟩
def ty253:Ty:=⟨.int .i64,1,8,[(.int .i64 0)]⟩
def ty256:Ty:=⟨.func #[5] #[4] false,1,8,[.nilfunc]⟩
def ty257:Ty:=⟨.unsafePointer,1,8,[.nilptr]⟩
def ty261:Ty:=⟨.array 4 9,4,64,[(.str []),(.str []),(.str []),(.str [])]⟩
def ty262:Ty:=⟨.func #[256] #[] false,1,8,[.nilfunc]⟩
def ty263:Ty:=⟨.func #[256] #[] false,1,8,[.nilfunc]⟩
def ty266:Ty:=⟨.pointer 236,1,8,[.nilptr]⟩
def ty268:Ty:=⟨.slice 253,1,24,[.nilsl]⟩
def ty269:Ty:=⟨.array 4 5,4,4,[(.int .u8 0),(.int .u8 0),(.int .u8 0),(.int .u8 0)]⟩
noncomputable def Et:PT Ty:=(.node (.node (.node (.node (.node (.node .nil (some ty31) (.node .nil none (.node .nil (some ty223) .nil))) none (.node (.node (.node .nil (some ty143) .nil) none (.node .nil (some ty207) .nil)) none .nil)) none (.node (.node (.node (.node (.node .nil (some ty263) .nil) none .nil) none .nil) none .nil) (some ty23) (.node (.node .nil none (.node .nil (some ty215) .nil)) (some ty55) (.node .nil (some ty119) (.node .nil (some ty247) .nil))))) (some ty3) (.node (.node (.node (.node (.node .nil (some ty131) .nil) none .nil) none .nil) none (.node (.node .nil none (.node .nil (some ty211) .nil)) none (.node .nil (some ty115) .nil))) none (.node (.node (.node .nil (some ty75) .nil) none (.node .nil (some ty107) .nil)) none .nil))) (some ty1) (.node (.node (.node (.node (.node (.node (.node .nil (some ty257) .nil) none .nil) none .nil) none (.node .nil (some ty97) .nil)) none (.node .nil none (.node .nil (some ty113) .nil))) (some ty9) (.node (.node .nil (some ty41) (.node .nil (some ty105) (.node .nil (some ty233) .nil))) (some ty25) (.node (.node (.node .nil (some ty153) .nil) none .nil) none (.node (.node .nil (some ty185) .nil) (some ty121) .nil)))) (some ty5) (.node (.node (.node (.node (.node (.node .nil (some ty261) .nil) none .nil) (some ty69) .nil) (some ty37) (.node (.node .nil (some ty165) .nil) none .nil)) (some ty21) (.node .nil none (.node .nil (some ty117) .nil))) none (.node (.node (.node (.node (.node .nil (some ty269) .nil) none .nil) none .nil) none (.node (.node .nil (some ty173) .nil) (some ty109) .nil)) (some ty29) (.node .nil (some ty61) (.node (.node .nil (some ty189) .nil) none (.node .nil (some ty253) .nil))))))) none (.node (.node (.node (.node (.node (.node (.node (.node .nil (some ty256) .nil) none .nil) none .nil) (some ty32) (.node .nil (some ty96) .nil)) none .nil) none (.node (.node (.node (.node .nil (some ty136) .nil) none (.node .nil (some ty200) .nil)) none (.node (.node .nil (some ty168) .nil) none .nil)) none (.node (.node .nil none (.node .nil (some ty216) .nil)) none (.node .nil (some ty120) .nil)))) (some ty4) (.node (.node (.node (.node (.node .nil (some ty132) .nil) none .nil) none (.node (.node .nil (some ty164) .nil) (some ty100) .nil)) (some ty20) (.node (.node (.node .nil (some ty148) .nil) none .nil) none (.node .nil (some ty116) .nil))) none (.node (.node (.node (.node (.node .nil (some ty268) .nil) none .nil) none .nil) (some ty44) (.node .nil none (.node .nil (some ty236) .nil))) none (.node .nil (some ty60) (.node (.node .nil (some ty188) .nil) (some ty124) .nil))))) none (.node (.node (.node (.node (.node .nil (some ty66) .nil) none (.node .nil (some ty98) .nil)) none (.node (.node .nil (some ty82) .nil) none .nil)) none (.node (.node (.node (.node (.node .nil (some ty266) .nil) none .nil) none .nil) none (.node (.node .nil (some ty170) .nil) none (.node .nil (some ty234) .nil))) none (.node .nil none (.node .nil (some ty122) .nil)))) none (.node (.node (.node (.node (.node (.node .nil (some ty262) .nil) (some ty134) .nil) none (.node .nil (some ty198) .nil)) none (.node (.node .nil (some ty166) .nil) (some ty102) (.node .nil (some ty230) .nil))) (some ty22) (.node (.node (.node .nil (some ty150) .nil) none .nil) none .nil)) none (.node (.node .nil none (.node .nil none (.node .nil (some ty238) .nil))) none (.node (.node .nil (some ty94) (.node .nil (some ty222) .nil)) none (.node (.node .nil (some ty190) .nil) (some ty126) .nil)))))))
noncomputable def Ft:PT FnI:=(.node (.node (.node (.node (.node (.node (.node (.node (.node .nil (some (mkFn Tryz.f255 [])) .nil) (some (mkFn Tryz.f127 [1])) .nil) (some (mkFn Tryz.f63 [])) (.node .nil (some (mkFn Tryz.f191 [])) .nil)) (some (mkFn Tryz.f31 [1,24,33,45,58,68,73])) (.node (.node .nil (some (mkFn Tryz.f159 [])) .nil) (some (mkFn Tryz.f95 [1,2,3,4,6])) (.node .nil (some (mkFn Tryz.f223 [])) .nil))) (some (mkFn Tryz.f15 [35])) (.node (.node (.node .nil (some (mkFn Tryz.f143 [22])) .nil) (some (mkFn Tryz.f79 [1,18])) (.node .nil (some (mkFn Tryz.f207 [2,9])) .nil)) (some (mkFn Tryz.f47 [1])) (.node (.node .nil (some (mkFn Tryz.f175 [2])) .nil) (some (mkFn Tryz.f111 [])) (.node .nil (some (mkFn Tryz.f239 [])) .nil)))) (some (mkFn Tryz.f7 [])) (.node (.node (.node (.node (.node .nil (some (mkFn Tryz.f263 [])) .nil) (some (mkFn Tryz.f135 [])) .nil) (some (mkFn Tryz.f71 [])) (.node .nil (some (mkFn Tryz.f199 [])) .nil)) (some (mkFn Tryz.f39 [131084,1,15])) (.node (.node .nil (some (mkFn Tryz.f167 [1])) .nil) (some (mkFn Tryz.f103 [])) (.node .nil (some (mkFn Tryz.f231 [])) .nil))) (some (mkFn Tryz.f23 [2,3])) (.node (.node (.node .nil (some (mkFn Tryz.f151 [])) .nil) (some (mkFn Tryz.f87 [])) (.node .nil (some (mkFn Tryz.f215 [2,3])) .nil)) (some (mkFn Tryz.f55 [48,55])) (.node (.node .nil (some (mkFn Tryz.f183 [])) .nil) (some (mkFn Tryz.f119 [1])) (.node .nil (some (mkFn Tryz.f247 [3])) .nil))))) (some (mkFn Tryz.f3 [2,3])) (.node (.node (.node (.node (.node (.node .nil (some (extFn 76)) .nil) (some (mkFn Tryz.f131 [1,19])) .nil) (some (mkFn Tryz.f67 [2,200001])) (.node .nil (some (mkFn Tryz.f195 [])) .nil)) (some (mkFn Tryz.f35 [131080,1,11])) (.node (.node .nil (some (mkFn Tryz.f163 [])) .nil) (some (mkFn Tryz.f99 [12,29])) (.node .nil (some (mkFn Tryz.f227 [])) .nil))) (some (mkFn Tryz.f19 [1])) (.node (.node (.node .nil (some (mkFn Tryz.f147 [2,200001])) .nil) (some (mkFn Tryz.f83 [1])) (.node .nil (some (mkFn Tryz.f211 [11,19])) .nil)) (some (mkFn Tryz.f51 [73,101,102,114,134,131181])) (.node (.node .nil (some (mkFn Tryz.f179 [])) .nil) (some (mkFn Tryz.f115 [1,16])) (.node .nil (some (mkFn Tryz.f243 [])) .nil)))) (some (mkFn Tryz.f11 [41])) (.node (.node (.node (.node (.node .nil (some (mkFn Tryz.f267 [])) .nil) (some (mkFn Tryz.f139 [])) .nil) (some (mkFn Tryz.f75 [2])) (.node .nil (some (mkFn Tryz.f203 [])) .nil)) (some (mkFn Tryz.f43 [1,42,94,100])) (.node (.node .nil (some (mkFn Tryz.f171 [2])) .nil) (some (mkFn Tryz.f107 [48,60])) (.node .nil (some (mkFn Tryz.f235 [131085,131085])) .nil))) (some (mkFn Tryz.f27 [])) (.node (.node (.node .nil (some (mkFn Tryz.f155 [])) .nil) (some (mkFn Tryz.f91 [2,3])) (.node .nil (some (mkFn Tryz.f219 [1])) .nil)) (some (mkFn Tryz.f59 [])) (.node (.node .nil (some (mkFn Tryz.f187 [33,45])) .nil) (some (mkFn Tryz.f123 [])) (.node .nil (some (mkFn Tryz.f251 [5,15])) .nil)))))) none (.node (.node (.node (.node (.node (.node (.node .nil (some (mkFn Tryz.f257 [])) .nil) (some (mkFn Tryz.f129 [1])) .nil) (some (mkFn Tryz.f65 [65537,65538,65539,65542,65544])) (.node .nil (some (mkFn Tryz.f193 [])) .nil)) (some (mkFn Tryz.f33 [48,53])) (.node (.node .nil (some (mkFn Tryz.f161 [])) .nil) (some (mkFn Tryz.f97 [])) (.node .nil (some (mkFn Tryz.f225 [])) .nil))) (some (mkFn Tryz.f17 [1,77,82,88])) (.node (.node (.node .nil (some (mkFn Tryz.f145 [])) .nil) (some (mkFn Tryz.f81 [1])) (.node .nil (some (mkFn Tryz.f209 [])) .nil)) (some (mkFn Tryz.f49 [])) (.node (.node .nil (some (mkFn Tryz.f177 [1])) .nil) (some (mkFn Tryz.f113 [])) (.node .nil (some (mkFn Tryz.f241 [])) .nil)))) (some (mkFn Tryz.f9 [27])) (.node (.node (.node (.node (.node .nil (some (mkFn Tryz.f265 [])) .nil) (some (mkFn Tryz.f137 [7])) .nil) (some (mkFn Tryz.f73 [2])) (.node .nil (some (mkFn Tryz.f201 [])) .nil)) (some (mkFn Tryz.f41 [])) (.node (.node .nil (some (mkFn Tryz.f169 [])) .nil) (some (mkFn Tryz.f105 [87])) (.node .nil (some (mkFn Tryz.f233 [1])) .nil))) (some (mkFn Tryz.f25 [2,3])) (.node (.node (.node .nil (some (mkFn Tryz.f153 [])) .nil) (some (mkFn Tryz.f89 [])) (.node .nil (some (mkFn Tryz.f217 [3])) .nil)) (some (mkFn Tryz.f57 [89,95])) (.node (.node .nil (some (mkFn Tryz.f185 [])) .nil) (some (mkFn Tryz.f121 [])) (.node .nil (some (mkFn Tryz.f249 [])) .nil))))) (some (mkFn Tryz.f5 [])) (.node (.node (.node (.node (.node (.node .nil (some (mkFn Tryz.f261 [])) .nil) (some (mkFn Tryz.f133 [1])) .nil) (some (mkFn Tryz.f69 [])) (.node .nil (some (mkFn Tryz.f197 [65])) .nil)) (some (mkFn Tryz.f37 [1])) (.node (.node .nil (some (mkFn Tryz.f165 [])) .nil) (some (mkFn Tryz.f101 [23])) (.node .nil (some (mkFn Tryz.f229 [])) .nil))) (some (mkFn Tryz.f21 [1])) (.node (.node (.node .nil (some (mkFn Tryz.f149 [])) .nil) (some (mkFn Tryz.f85 [1])) (.node .nil (some (mkFn Tryz.f213 [])) .nil)) (some (mkFn Tryz.f53 [])) (.node (.node .nil (some (mkFn Tryz.f181 [3])) .nil) (some (mkFn Tryz.f117 [])) (.node .nil (some (mkFn Tryz.f245 [])) .nil)))) (some (mkFn Tryz.f13 [1])) (.node (.node (.node (.node (.node .nil (some (mkFn Tryz.f269 [])) .nil) (some (mkFn Tryz.f141 [2])) .nil) (some (mkFn Tryz.f77 [1])) (.node .nil (some (mkFn Tryz.f205 [])) .nil)) (some (mkFn Tryz.f45 [1,21,34,49,65,77])) (.node (.node .nil (some (mkFn Tryz.f173 [])) .nil) (some (mkFn Tryz.f109 [])) (.node .nil (some (mkFn Tryz.f237 [])) .nil))) (some (mkFn Tryz.f29 [2,3])) (.node (.node (.node .nil (some (mkFn Tryz.f157 [1])) .nil) (some (mkFn Tryz.f93 [])) (.node .nil (some (mkFn Tryz.f221 [])) .nil)) (some (mkFn Tryz.f61 [])) (.node (.node .nil (some (mkFn Tryz.f189 [])) .nil) (some (mkFn Tryz.f125 [])) (.node .nil (some (mkFn Tryz.f253 [])) .nil))))))) none (.node (.node (.node (.node (.node (.node (.node (.node .nil (some (mkFn Tryz.f256 [])) .nil) (some (mkFn Tryz.f128 [1])) .nil) (some (mkFn Tryz.f64 [2,200001])) (.node .nil (some (mkFn Tryz.f192 [3])) .nil)) (some (mkFn Tryz.f32 [1])) (.node (.node .nil (some (mkFn Tryz.f160 [30])) .nil) (some (mkFn Tryz.f96 [22])) (.node .nil (some (mkFn Tryz.f224 [])) .nil))) (some (mkFn Tryz.f16 [1,43,62,77])) (.node (.node (.node .nil (some (mkFn Tryz.f144 [2])) .nil) (some (mkFn Tryz.f80 [1])) (.node .nil (some (mkFn Tryz.f208 [4])) .nil)) (some (mkFn Tryz.f48 [1])) (.node (.node .nil (some (mkFn Tryz.f176 [2])) .nil) (some (mkFn Tryz.f112 [])) (.node .nil (some (mkFn Tryz.f240 [18])) .nil)))) (some (mkFn Tryz.f8 [2])) (.node (.node (.node (.node (.node .nil (some (mkFn Tryz.f264 [])) .nil) (some (mkFn Tryz.f136 [])) .nil) (some (mkFn Tryz.f72 [])) (.node .nil (some (mkFn Tryz.f200 [131096])) .nil)) (some (mkFn Tryz.f40 [1,17])) (.node (.node .nil (some (mkFn Tryz.f168 [])) .nil) (some (mkFn Tryz.f104 [31])) (.node .nil (some (mkFn Tryz.f232 [3])) .nil))) (some (mkFn Tryz.f24 [2,3])) (.node (.node (.node .nil (some (mkFn Tryz.f152 [])) .nil) (some (mkFn Tryz.f88 [2,3])) (.node .nil (some (mkFn Tryz.f216 [1])) .nil)) (some (mkFn Tryz.f56 [])) (.node (.node .nil (some (mkFn Tryz.f184 [])) .nil) (some (mkFn Tryz.f120 [3])) (.node .nil (some (mkFn Tryz.f248 [])) .nil))))) (some (mkFn Tryz.f4 [])) (.node (.node (.node (.node (.node (.node .nil (some (mkFn Tryz.f260 [])) .nil) (some (mkFn Tryz.f132 [2])) .nil) (some (mkFn Tryz.f68 [])) (.node .nil (some (mkFn Tryz.f196 [])) .nil)) (some (mkFn Tryz.f36 [1,28])) (.node (.node .nil (some (mkFn Tryz.f164 [2])) .nil) (some (mkFn Tryz.f100 [])) (.node .nil (some (mkFn Tryz.f228 [1])) .nil))) (some (mkFn Tryz.f20 [1,13,200001])) (.node (.node (.node .nil (some (mkFn Tryz.f148 [2,200001])) .nil) (some (mkFn Tryz.f84 [1,12])) (.node .nil (some (mkFn Tryz.f212 [1])) .nil)) (some (mkFn Tryz.f52 [19,40,42,96,105,111])) (.node (.node .nil (some (mkFn Tryz.f180 [])) .nil) (some (mkFn Tryz.f116 [1])) (.node .nil (some (mkFn Tryz.f244 [])) .nil)))) (some (mkFn Tryz.f12 [])) (.node (.node (.node (.node (.node .nil (some (mkFn Tryz.f268 [])) .nil) (some (mkFn Tryz.f140 [1])) .nil) (some (mkFn Tryz.f76 [2,24])) (.node .nil (some (mkFn Tryz.f204 [])) .nil)) (some (mkFn Tryz.f44 [])) (.node (.node .nil (some (mkFn Tryz.f172 [])) .nil) (some (mkFn Tryz.f108 [4])) (.node .nil (some (mkFn Tryz.f236 [65558,200000])) .nil))) (some (mkFn Tryz.f28 [])) (.node (.node (.node .nil (some (mkFn Tryz.f156 [])) .nil) (some (mkFn Tryz.f92 [])) (.node .nil (some (mkFn Tryz.f220 [])) .nil)) (some (mkFn Tryz.f60 [])) (.node (.node .nil (some (mkFn Tryz.f188 [])) .nil) (some (mkFn Tryz.f124 [])) (.node .nil (some (mkFn Tryz.f252 [])) .nil)))))) none (.node (.node (.node (.node (.node (.node (.node .nil (some (extFn 0)) .nil) (some (mkFn Tryz.f130 [])) .nil) (some (mkFn Tryz.f66 [2,3,30])) (.node .nil (some (mkFn Tryz.f194 [])) .nil)) (some (mkFn Tryz.f34 [1])) (.node (.node .nil (some (mkFn Tryz.f162 [])) .nil) (some (mkFn Tryz.f98 [])) (.node .nil (some (mkFn Tryz.f226 [33,40])) .nil))) (some (mkFn Tryz.f18 [1])) (.node (.node (.node .nil (some (mkFn Tryz.f146 [])) .nil) (some (mkFn Tryz.f82 [1])) (.node .nil (some (mkFn Tryz.f210 [])) .nil)) (some (mkFn Tryz.f50 [])) (.node (.node .nil (some (mkFn Tryz.f178 [])) .nil) (some (mkFn Tryz.f114 [])) (.node .nil (some (mkFn Tryz.f242 [])) .nil)))) (some (mkFn Tryz.f10 [])) (.node (.node (.node (.node (.node .nil (some (mkFn Tryz.f266 [])) .nil) (some (mkFn Tryz.f138 [2,20])) .nil) (some (mkFn Tryz.f74 [1])) (.node .nil (some (mkFn Tryz.f202 [])) .nil)) (some (mkFn Tryz.f42 [])) (.node (.node .nil (some (mkFn Tryz.f170 [])) .nil) (some (mkFn Tryz.f106 [])) (.node .nil (some (mkFn Tryz.f234 [131082])) .nil))) (some (mkFn Tryz.f26 [])) (.node (.node (.node .nil (some (mkFn Tryz.f154 [14])) .nil) (some (mkFn Tryz.f90 [])) (.node .nil (some (mkFn Tryz.f218 [])) .nil)) (some (mkFn Tryz.f58 [])) (.node (.node .nil (some (mkFn Tryz.f186 [3])) .nil) (some (mkFn Tryz.f122 [])) (.node .nil (some (mkFn Tryz.f250 [])) .nil))))) (some (mkFn Tryz.f6 [2,3])) (.node (.node (.node (.node (.node (.node .nil (some (mkFn Tryz.f262 [])) .nil) (some (mkFn Tryz.f134 [2])) .nil) (some (mkFn Tryz.f70 [])) (.node .nil (some (mkFn Tryz.f198 [65550])) .nil)) (some (mkFn Tryz.f38 [1])) (.node (.node .nil (some (mkFn Tryz.f166 [2])) .nil) (some (mkFn Tryz.f102 [88,100])) (.node .nil (some (mkFn Tryz.f230 [])) .nil))) (some (mkFn Tryz.f22 [2,3])) (.node (.node (.node .nil (some (mkFn Tryz.f150 [])) .nil) (some (mkFn Tryz.f86 [])) (.node .nil (some (mkFn Tryz.f214 [3,4,5])) .nil)) (some (mkFn Tryz.f54 [1,57,95,102])) (.node (.node .nil (some (mkFn Tryz.f182 [])) .nil) (some (mkFn Tryz.f118 [1])) (.node .nil (some (mkFn Tryz.f246 [])) .nil)))) (some (mkFn Tryz.f14 [39])) (.node (.node (.node (.node .nil (some (mkFn Tryz.f142 [])) .nil) (some (mkFn Tryz.f78 [1,28])) (.node .nil (some (mkFn Tryz.f206 [])) .nil)) (some (mkFn Tryz.f46 [1,26])) (.node (.node .nil (some (mkFn Tryz.f174 [])) .nil) (some (mkFn Tryz.f110 [7])) (.node .nil (some (mkFn Tryz.f238 [])) .nil))) (some (mkFn Tryz.f30 [40,54])) (.node (.node (.node .nil (some (mkFn Tryz.f158 [])) .nil) (some (mkFn Tryz.f94 [])) (.node .nil (some (mkFn Tryz.f222 [])) .nil)) (some (mkFn Tryz.f62 [])) (.node (.node .nil (some (mkFn Tryz.f190 [])) .nil) (some (mkFn Tryz.f126 [])) (.node .nil (some (mkFn Tryz.f254 [])) .nil))))))))
theorem Yo:EnvOK Tryz.prog Et:=envOK_of ⟨trivial,⟨⟨by kernel_rfl,by kernel_rfl⟩,⟨⟨by kernel_rfl,by kernel_rfl⟩,⟨trivial,⟨trivial,⟨⟨by kernel_rfl,by kernel_rfl⟩,trivial,⟨trivial,trivial,⟨⟨by kernel_rfl,by kernel_rfl⟩,trivial,trivial⟩⟩⟩,⟨trivial,⟨trivial,⟨⟨by kernel_rfl,by kernel_rfl⟩,trivial,trivial⟩,⟨⟨by kernel_rfl,by kernel_rfl⟩,trivial,trivial⟩⟩,trivial⟩⟩,⟨⟨by kernel_rfl,by kernel_rfl⟩,⟨trivial,⟨trivial,⟨trivial,⟨⟨by kernel_rfl,by kernel_rfl⟩,trivial,trivial⟩,trivial⟩,trivial⟩,trivial⟩,⟨⟨by kernel_rfl,by kernel_rfl⟩,⟨trivial,trivial,⟨⟨by kernel_rfl,by kernel_rfl⟩,trivial,trivial⟩⟩,⟨⟨by kernel_rfl,by kernel_rfl⟩,trivial,⟨⟨by kernel_rfl,by kernel_rfl⟩,trivial,trivial⟩⟩⟩⟩⟩,⟨trivial,⟨trivial,⟨trivial,⟨trivial,⟨⟨by kernel_rfl,by kernel_rfl⟩,trivial,trivial⟩,trivial⟩,trivial⟩,⟨trivial,⟨trivial,trivial,⟨⟨by kernel_rfl,by kernel_rfl⟩,trivial,trivial⟩⟩,⟨⟨by kernel_rfl,by kernel_rfl⟩,trivial,trivial⟩⟩⟩,⟨trivial,⟨trivial,⟨⟨by kernel_rfl,by kernel_rfl⟩,trivial,trivial⟩,⟨⟨by kernel_rfl,by kernel_rfl⟩,trivial,trivial⟩⟩,trivial⟩⟩⟩,⟨⟨by kernel_rfl,by kernel_rfl⟩,⟨⟨by kernel_rfl,by kernel_rfl⟩,⟨trivial,⟨trivial,⟨trivial,⟨trivial,⟨⟨by kernel_rfl,by kernel_rfl⟩,trivial,trivial⟩,trivial⟩,trivial⟩,⟨⟨by kernel_rfl,by kernel_rfl⟩,trivial,trivial⟩⟩,⟨trivial,trivial,⟨⟨by kernel_rfl,by kernel_rfl⟩,trivial,trivial⟩⟩⟩,⟨⟨by kernel_rfl,by kernel_rfl⟩,⟨⟨by kernel_rfl,by kernel_rfl⟩,trivial,⟨⟨by kernel_rfl,by kernel_rfl⟩,trivial,⟨⟨by kernel_rfl,by kernel_rfl⟩,trivial,trivial⟩⟩⟩,⟨trivial,⟨trivial,⟨⟨by kernel_rfl,by kernel_rfl⟩,trivial,trivial⟩,trivial⟩,⟨⟨by kernel_rfl,by kernel_rfl⟩,⟨⟨by kernel_rfl,by kernel_rfl⟩,trivial,trivial⟩,trivial⟩⟩⟩⟩,⟨trivial,⟨⟨by kernel_rfl,by kernel_rfl⟩,⟨⟨by kernel_rfl,by kernel_rfl⟩,⟨⟨by kernel_rfl,by kernel_rfl⟩,⟨trivial,⟨⟨by kernel_rfl,by kernel_rfl⟩,trivial,trivial⟩,trivial⟩,trivial⟩,⟨trivial,⟨⟨by kernel_rfl,by kernel_rfl⟩,trivial,trivial⟩,trivial⟩⟩,⟨trivial,trivial,⟨⟨by kernel_rfl,by kernel_rfl⟩,trivial,trivial⟩⟩⟩,⟨⟨by kernel_rfl,by kernel_rfl⟩,⟨trivial,⟨trivial,⟨trivial,⟨⟨by kernel_rfl,by kernel_rfl⟩,trivial,trivial⟩,trivial⟩,trivial⟩,⟨⟨by kernel_rfl,by kernel_rfl⟩,⟨⟨by kernel_rfl,by kernel_rfl⟩,trivial,trivial⟩,trivial⟩⟩,⟨⟨by kernel_rfl,by kernel_rfl⟩,trivial,⟨trivial,⟨⟨by kernel_rfl,by kernel_rfl⟩,trivial,trivial⟩,⟨⟨by kernel_rfl,by kernel_rfl⟩,trivial,trivial⟩⟩⟩⟩⟩⟩⟩,⟨trivial,⟨⟨by kernel_rfl,by kernel_rfl⟩,⟨trivial,⟨trivial,⟨⟨by kernel_rfl,by kernel_rfl⟩,⟨trivial,⟨trivial,⟨⟨by kernel_rfl,by kernel_rfl⟩,trivial,trivial⟩,trivial⟩,trivial⟩,⟨⟨by kernel_rfl,by kernel_rfl⟩,trivial,trivial⟩⟩,trivial⟩,⟨trivial,⟨trivial,⟨trivial,⟨⟨by kernel_rfl,by kernel_rfl⟩,trivial,trivial⟩,⟨⟨by kernel_rfl,by kernel_rfl⟩,trivial,trivial⟩⟩,⟨trivial,⟨⟨by kernel_rfl,by kernel_rfl⟩,trivial,trivial⟩,trivial⟩⟩,⟨trivial,⟨trivial,trivial,⟨⟨by kernel_rfl,by kernel_rfl⟩,trivial,trivial⟩⟩,⟨⟨by kernel_rfl,by kernel_rfl⟩,trivial,trivial⟩⟩⟩⟩,⟨trivial,⟨⟨by kernel_rfl,by kernel_rfl⟩,⟨trivial,⟨trivial,⟨⟨by kernel_rfl,by kernel_rfl⟩,trivial,trivial⟩,trivial⟩,⟨⟨by kernel_rfl,by kernel_rfl⟩,⟨⟨by kernel_rfl,by kernel_rfl⟩,trivial,trivial⟩,trivial⟩⟩,⟨trivial,⟨trivial,⟨⟨by kernel_rfl,by kernel_rfl⟩,trivial,trivial⟩,trivial⟩,⟨⟨by kernel_rfl,by kernel_rfl⟩,trivial,trivial⟩⟩⟩,⟨trivial,⟨⟨by kernel_rfl,by kernel_rfl⟩,⟨trivial,⟨trivial,⟨⟨by kernel_rfl,by kernel_rfl⟩,trivial,trivial⟩,trivial⟩,trivial⟩,⟨trivial,trivial,⟨⟨by kernel_rfl,by kernel_rfl⟩,trivial,trivial⟩⟩⟩,⟨⟨by kernel_rfl,by kernel_rfl⟩,trivial,⟨⟨by kernel_rfl,by kernel_rfl⟩,⟨⟨by kernel_rfl,by kernel_rfl⟩,trivial,trivial⟩,trivial⟩⟩⟩⟩⟩,⟨trivial,⟨trivial,⟨trivial,⟨trivial,⟨⟨by kernel_rfl,by kernel_rfl⟩,trivial,trivial⟩,⟨⟨by kernel_rfl,by kernel_rfl⟩,trivial,trivial⟩⟩,⟨trivial,⟨⟨by kernel_rfl,by kernel_rfl⟩,trivial,trivial⟩,trivial⟩⟩,⟨trivial,⟨trivial,⟨trivial,⟨trivial,⟨⟨by kernel_rfl,by kernel_rfl⟩,trivial,trivial⟩,trivial⟩,trivial⟩,⟨trivial,⟨⟨by kernel_rfl,by kernel_rfl⟩,trivial,trivial⟩,⟨⟨by kernel_rfl,by kernel_rfl⟩,trivial,trivial⟩⟩⟩,⟨trivial,trivial,⟨⟨by kernel_rfl,by kernel_rfl⟩,trivial,trivial⟩⟩⟩⟩,⟨trivial,⟨⟨by kernel_rfl,by kernel_rfl⟩,⟨trivial,⟨trivial,⟨⟨by kernel_rfl,by kernel_rfl⟩,⟨⟨by kernel_rfl,by kernel_rfl⟩,trivial,trivial⟩,trivial⟩,⟨⟨by kernel_rfl,by kernel_rfl⟩,trivial,trivial⟩⟩,⟨⟨by kernel_rfl,by kernel_rfl⟩,⟨⟨by kernel_rfl,by kernel_rfl⟩,trivial,trivial⟩,⟨⟨by kernel_rfl,by kernel_rfl⟩,trivial,trivial⟩⟩⟩,⟨trivial,⟨trivial,⟨⟨by kernel_rfl,by kernel_rfl⟩,trivial,trivial⟩,trivial⟩,trivial⟩⟩,⟨trivial,⟨trivial,trivial,⟨trivial,trivial,⟨⟨by kernel_rfl,by kernel_rfl⟩,trivial,trivial⟩⟩⟩,⟨trivial,⟨⟨by kernel_rfl,by kernel_rfl⟩,trivial,⟨⟨by kernel_rfl,by kernel_rfl⟩,trivial,trivial⟩⟩,⟨⟨by kernel_rfl,by kernel_rfl⟩,⟨⟨by kernel_rfl,by kernel_rfl⟩,trivial,trivial⟩,trivial⟩⟩⟩⟩⟩⟩⟩
theorem Ft_ok:FnsOK Tryz.prog Ft.get?:=fnsOK_of ⟨trivial,⟨trivial,⟨(fnAt Tryz.func3 (by kernel_rfl) (by kernel_rfl)),⟨(fnAt Tryz.func7 (by kernel_rfl) (by kernel_rfl)),⟨(fnAt Tryz.func15 (by kernel_rfl) (by kernel_rfl)),⟨(fnAt Tryz.func31 (by kernel_rfl) (by kernel_rfl)),⟨(fnAt Tryz.func63 (by kernel_rfl) (by kernel_rfl)),⟨(fnAt Tryz.func127 (by kernel_rfl) (by kernel_rfl)),⟨(fnAt Tryz.func255 (by kernel_rfl) (by kernel_rfl)),trivial,trivial⟩,trivial⟩,⟨(fnAt Tryz.func191 (by kernel_rfl) (by kernel_rfl)),trivial,trivial⟩⟩,⟨(fnAt Tryz.func95 (by kernel_rfl) (by kernel_rfl)),⟨(fnAt Tryz.func159 (by kernel_rfl) (by kernel_rfl)),trivial,trivial⟩,⟨(fnAt Tryz.func223 (by kernel_rfl) (by kernel_rfl)),trivial,trivial⟩⟩⟩,⟨(fnAt Tryz.func47 (by kernel_rfl) (by kernel_rfl)),⟨(fnAt Tryz.func79 (by kernel_rfl) (by kernel_rfl)),⟨(fnAt Tryz.func143 (by kernel_rfl) (by kernel_rfl)),trivial,trivial⟩,⟨(fnAt Tryz.func207 (by kernel_rfl) (by kernel_rfl)),trivial,trivial⟩⟩,⟨(fnAt Tryz.func111 (by kernel_rfl) (by kernel_rfl)),⟨(fnAt Tryz.func175 (by kernel_rfl) (by kernel_rfl)),trivial,trivial⟩,⟨(fnAt Tryz.func239 (by kernel_rfl) (by kernel_rfl)),trivial,trivial⟩⟩⟩⟩,⟨(fnAt Tryz.func23 (by kernel_rfl) (by kernel_rfl)),⟨(fnAt Tryz.func39 (by kernel_rfl) (by kernel_rfl)),⟨(fnAt Tryz.func71 (by kernel_rfl) (by kernel_rfl)),⟨(fnAt Tryz.func135 (by kernel_rfl) (by kernel_rfl)),⟨(fnAt Tryz.func263 (by kernel_rfl) (by kernel_rfl)),trivial,trivial⟩,trivial⟩,⟨(fnAt Tryz.func199 (by kernel_rfl) (by kernel_rfl)),trivial,trivial⟩⟩,⟨(fnAt Tryz.func103 (by kernel_rfl) (by kernel_rfl)),⟨(fnAt Tryz.func167 (by kernel_rfl) (by kernel_rfl)),trivial,trivial⟩,⟨(fnAt Tryz.func231 (by kernel_rfl) (by kernel_rfl)),trivial,trivial⟩⟩⟩,⟨(fnAt Tryz.func55 (by kernel_rfl) (by kernel_rfl)),⟨(fnAt Tryz.func87 (by kernel_rfl) (by kernel_rfl)),⟨(fnAt Tryz.func151 (by kernel_rfl) (by kernel_rfl)),trivial,trivial⟩,⟨(fnAt Tryz.func215 (by kernel_rfl) (by kernel_rfl)),trivial,trivial⟩⟩,⟨(fnAt Tryz.func119 (by kernel_rfl) (by kernel_rfl)),⟨(fnAt Tryz.func183 (by kernel_rfl) (by kernel_rfl)),trivial,trivial⟩,⟨(fnAt Tryz.func247 (by kernel_rfl) (by kernel_rfl)),trivial,trivial⟩⟩⟩⟩⟩,⟨(fnAt Tryz.func11 (by kernel_rfl) (by kernel_rfl)),⟨(fnAt Tryz.func19 (by kernel_rfl) (by kernel_rfl)),⟨(fnAt Tryz.func35 (by kernel_rfl) (by kernel_rfl)),⟨(fnAt Tryz.func67 (by kernel_rfl) (by kernel_rfl)),⟨(fnAt Tryz.func131 (by kernel_rfl) (by kernel_rfl)),⟨(extAt1 (ps:=#[3]) Tryz.func259 (by kernel_rfl) (by kernel_rfl) (by kernel_rfl) (by kernel_rfl)),trivial,trivial⟩,trivial⟩,⟨(fnAt Tryz.func195 (by kernel_rfl) (by kernel_rfl)),trivial,trivial⟩⟩,⟨(fnAt Tryz.func99 (by kernel_rfl) (by kernel_rfl)),⟨(fnAt Tryz.func163 (by kernel_rfl) (by kernel_rfl)),trivial,trivial⟩,⟨(fnAt Tryz.func227 (by kernel_rfl) (by kernel_rfl)),trivial,trivial⟩⟩⟩,⟨(fnAt Tryz.func51 (by kernel_rfl) (by kernel_rfl)),⟨(fnAt Tryz.func83 (by kernel_rfl) (by kernel_rfl)),⟨(fnAt Tryz.func147 (by kernel_rfl) (by kernel_rfl)),trivial,trivial⟩,⟨(fnAt Tryz.func211 (by kernel_rfl) (by kernel_rfl)),trivial,trivial⟩⟩,⟨(fnAt Tryz.func115 (by kernel_rfl) (by kernel_rfl)),⟨(fnAt Tryz.func179 (by kernel_rfl) (by kernel_rfl)),trivial,trivial⟩,⟨(fnAt Tryz.func243 (by kernel_rfl) (by kernel_rfl)),trivial,trivial⟩⟩⟩⟩,⟨(fnAt Tryz.func27 (by kernel_rfl) (by kernel_rfl)),⟨(fnAt Tryz.func43 (by kernel_rfl) (by kernel_rfl)),⟨(fnAt Tryz.func75 (by kernel_rfl) (by kernel_rfl)),⟨(fnAt Tryz.func139 (by kernel_rfl) (by kernel_rfl)),⟨(fnAt Tryz.func267 (by kernel_rfl) (by kernel_rfl)),trivial,trivial⟩,trivial⟩,⟨(fnAt Tryz.func203 (by kernel_rfl) (by kernel_rfl)),trivial,trivial⟩⟩,⟨(fnAt Tryz.func107 (by kernel_rfl) (by kernel_rfl)),⟨(fnAt Tryz.func171 (by kernel_rfl) (by kernel_rfl)),trivial,trivial⟩,⟨(fnAt Tryz.func235 (by kernel_rfl) (by kernel_rfl)),trivial,trivial⟩⟩⟩,⟨(fnAt Tryz.func59 (by kernel_rfl) (by kernel_rfl)),⟨(fnAt Tryz.func91 (by kernel_rfl) (by kernel_rfl)),⟨(fnAt Tryz.func155 (by kernel_rfl) (by kernel_rfl)),trivial,trivial⟩,⟨(fnAt Tryz.func219 (by kernel_rfl) (by kernel_rfl)),trivial,trivial⟩⟩,⟨(fnAt Tryz.func123 (by kernel_rfl) (by kernel_rfl)),⟨(fnAt Tryz.func187 (by kernel_rfl) (by kernel_rfl)),trivial,trivial⟩,⟨(fnAt Tryz.func251 (by kernel_rfl) (by kernel_rfl)),trivial,trivial⟩⟩⟩⟩⟩⟩,⟨(fnAt Tryz.func5 (by kernel_rfl) (by kernel_rfl)),⟨(fnAt Tryz.func9 (by kernel_rfl) (by kernel_rfl)),⟨(fnAt Tryz.func17 (by kernel_rfl) (by kernel_rfl)),⟨(fnAt Tryz.func33 (by kernel_rfl) (by kernel_rfl)),⟨(fnAt Tryz.func65 (by kernel_rfl) (by kernel_rfl)),⟨(fnAt Tryz.func129 (by kernel_rfl) (by kernel_rfl)),⟨(fnAt Tryz.func257 (by kernel_rfl) (by kernel_rfl)),trivial,trivial⟩,trivial⟩,⟨(fnAt Tryz.func193 (by kernel_rfl) (by kernel_rfl)),trivial,trivial⟩⟩,⟨(fnAt Tryz.func97 (by kernel_rfl) (by kernel_rfl)),⟨(fnAt Tryz.func161 (by kernel_rfl) (by kernel_rfl)),trivial,trivial⟩,⟨(fnAt Tryz.func225 (by kernel_rfl) (by kernel_rfl)),trivial,trivial⟩⟩⟩,⟨(fnAt Tryz.func49 (by kernel_rfl) (by kernel_rfl)),⟨(fnAt Tryz.func81 (by kernel_rfl) (by kernel_rfl)),⟨(fnAt Tryz.func145 (by kernel_rfl) (by kernel_rfl)),trivial,trivial⟩,⟨(fnAt Tryz.func209 (by kernel_rfl) (by kernel_rfl)),trivial,trivial⟩⟩,⟨(fnAt Tryz.func113 (by kernel_rfl) (by kernel_rfl)),⟨(fnAt Tryz.func177 (by kernel_rfl) (by kernel_rfl)),trivial,trivial⟩,⟨(fnAt Tryz.func241 (by kernel_rfl) (by kernel_rfl)),trivial,trivial⟩⟩⟩⟩,⟨(fnAt Tryz.func25 (by kernel_rfl) (by kernel_rfl)),⟨(fnAt Tryz.func41 (by kernel_rfl) (by kernel_rfl)),⟨(fnAt Tryz.func73 (by kernel_rfl) (by kernel_rfl)),⟨(fnAt Tryz.func137 (by kernel_rfl) (by kernel_rfl)),⟨(fnAt Tryz.func265 (by kernel_rfl) (by kernel_rfl)),trivial,trivial⟩,trivial⟩,⟨(fnAt Tryz.func201 (by kernel_rfl) (by kernel_rfl)),trivial,trivial⟩⟩,⟨(fnAt Tryz.func105 (by kernel_rfl) (by kernel_rfl)),⟨(fnAt Tryz.func169 (by kernel_rfl) (by kernel_rfl)),trivial,trivial⟩,⟨(fnAt Tryz.func233 (by kernel_rfl) (by kernel_rfl)),trivial,trivial⟩⟩⟩,⟨(fnAt Tryz.func57 (by kernel_rfl) (by kernel_rfl)),⟨(fnAt Tryz.func89 (by kernel_rfl) (by kernel_rfl)),⟨(fnAt Tryz.func153 (by kernel_rfl) (by kernel_rfl)),trivial,trivial⟩,⟨(fnAt Tryz.func217 (by kernel_rfl) (by kernel_rfl)),trivial,trivial⟩⟩,⟨(fnAt Tryz.func121 (by kernel_rfl) (by kernel_rfl)),⟨(fnAt Tryz.func185 (by kernel_rfl) (by kernel_rfl)),trivial,trivial⟩,⟨(fnAt Tryz.func249 (by kernel_rfl) (by kernel_rfl)),trivial,trivial⟩⟩⟩⟩⟩,⟨(fnAt Tryz.func13 (by kernel_rfl) (by kernel_rfl)),⟨(fnAt Tryz.func21 (by kernel_rfl) (by kernel_rfl)),⟨(fnAt Tryz.func37 (by kernel_rfl) (by kernel_rfl)),⟨(fnAt Tryz.func69 (by kernel_rfl) (by kernel_rfl)),⟨(fnAt Tryz.func133 (by kernel_rfl) (by kernel_rfl)),⟨(fnAt Tryz.func261 (by kernel_rfl) (by kernel_rfl)),trivial,trivial⟩,trivial⟩,⟨(fnAt Tryz.func197 (by kernel_rfl) (by kernel_rfl)),trivial,trivial⟩⟩,⟨(fnAt Tryz.func101 (by kernel_rfl) (by kernel_rfl)),⟨(fnAt Tryz.func165 (by kernel_rfl) (by kernel_rfl)),trivial,trivial⟩,⟨(fnAt Tryz.func229 (by kernel_rfl) (by kernel_rfl)),trivial,trivial⟩⟩⟩,⟨(fnAt Tryz.func53 (by kernel_rfl) (by kernel_rfl)),⟨(fnAt Tryz.func85 (by kernel_rfl) (by kernel_rfl)),⟨(fnAt Tryz.func149 (by kernel_rfl) (by kernel_rfl)),trivial,trivial⟩,⟨(fnAt Tryz.func213 (by kernel_rfl) (by kernel_rfl)),trivial,trivial⟩⟩,⟨(fnAt Tryz.func117 (by kernel_rfl) (by kernel_rfl)),⟨(fnAt Tryz.func181 (by kernel_rfl) (by kernel_rfl)),trivial,trivial⟩,⟨(fnAt Tryz.func245 (by kernel_rfl) (by kernel_rfl)),trivial,trivial⟩⟩⟩⟩,⟨(fnAt Tryz.func29 (by kernel_rfl) (by kernel_rfl)),⟨(fnAt Tryz.func45 (by kernel_rfl) (by kernel_rfl)),⟨(fnAt Tryz.func77 (by kernel_rfl) (by kernel_rfl)),⟨(fnAt Tryz.func141 (by kernel_rfl) (by kernel_rfl)),⟨(fnAt Tryz.func269 (by kernel_rfl) (by kernel_rfl)),trivial,trivial⟩,trivial⟩,⟨(fnAt Tryz.func205 (by kernel_rfl) (by kernel_rfl)),trivial,trivial⟩⟩,⟨(fnAt Tryz.func109 (by kernel_rfl) (by kernel_rfl)),⟨(fnAt Tryz.func173 (by kernel_rfl) (by kernel_rfl)),trivial,trivial⟩,⟨(fnAt Tryz.func237 (by kernel_rfl) (by kernel_rfl)),trivial,trivial⟩⟩⟩,⟨(fnAt Tryz.func61 (by kernel_rfl) (by kernel_rfl)),⟨(fnAt Tryz.func93 (by kernel_rfl) (by kernel_rfl)),⟨(fnAt Tryz.func157 (by kernel_rfl) (by kernel_rfl)),trivial,trivial⟩,⟨(fnAt Tryz.func221 (by kernel_rfl) (by kernel_rfl)),trivial,trivial⟩⟩,⟨(fnAt Tryz.func125 (by kernel_rfl) (by kernel_rfl)),⟨(fnAt Tryz.func189 (by kernel_rfl) (by kernel_rfl)),trivial,trivial⟩,⟨(fnAt Tryz.func253 (by kernel_rfl) (by kernel_rfl)),trivial,trivial⟩⟩⟩⟩⟩⟩⟩,⟨trivial,⟨(fnAt Tryz.func4 (by kernel_rfl) (by kernel_rfl)),⟨(fnAt Tryz.func8 (by kernel_rfl) (by kernel_rfl)),⟨(fnAt Tryz.func16 (by kernel_rfl) (by kernel_rfl)),⟨(fnAt Tryz.func32 (by kernel_rfl) (by kernel_rfl)),⟨(fnAt Tryz.func64 (by kernel_rfl) (by kernel_rfl)),⟨(fnAt Tryz.func128 (by kernel_rfl) (by kernel_rfl)),⟨(fnAt Tryz.func256 (by kernel_rfl) (by kernel_rfl)),trivial,trivial⟩,trivial⟩,⟨(fnAt Tryz.func192 (by kernel_rfl) (by kernel_rfl)),trivial,trivial⟩⟩,⟨(fnAt Tryz.func96 (by kernel_rfl) (by kernel_rfl)),⟨(fnAt Tryz.func160 (by kernel_rfl) (by kernel_rfl)),trivial,trivial⟩,⟨(fnAt Tryz.func224 (by kernel_rfl) (by kernel_rfl)),trivial,trivial⟩⟩⟩,⟨(fnAt Tryz.func48 (by kernel_rfl) (by kernel_rfl)),⟨(fnAt Tryz.func80 (by kernel_rfl) (by kernel_rfl)),⟨(fnAt Tryz.func144 (by kernel_rfl) (by kernel_rfl)),trivial,trivial⟩,⟨(fnAt Tryz.func208 (by kernel_rfl) (by kernel_rfl)),trivial,trivial⟩⟩,⟨(fnAt Tryz.func112 (by kernel_rfl) (by kernel_rfl)),⟨(fnAt Tryz.func176 (by kernel_rfl) (by kernel_rfl)),trivial,trivial⟩,⟨(fnAt Tryz.func240 (by kernel_rfl) (by kernel_rfl)),trivial,trivial⟩⟩⟩⟩,⟨(fnAt Tryz.func24 (by kernel_rfl) (by kernel_rfl)),⟨(fnAt Tryz.func40 (by kernel_rfl) (by kernel_rfl)),⟨(fnAt Tryz.func72 (by kernel_rfl) (by kernel_rfl)),⟨(fnAt Tryz.func136 (by kernel_rfl) (by kernel_rfl)),⟨(fnAt Tryz.func264 (by kernel_rfl) (by kernel_rfl)),trivial,trivial⟩,trivial⟩,⟨(fnAt Tryz.func200 (by kernel_rfl) (by kernel_rfl)),trivial,trivial⟩⟩,⟨(fnAt Tryz.func104 (by kernel_rfl) (by kernel_rfl)),⟨(fnAt Tryz.func168 (by kernel_rfl) (by kernel_rfl)),trivial,trivial⟩,⟨(fnAt Tryz.func232 (by kernel_rfl) (by kernel_rfl)),trivial,trivial⟩⟩⟩,⟨(fnAt Tryz.func56 (by kernel_rfl) (by kernel_rfl)),⟨(fnAt Tryz.func88 (by kernel_rfl) (by kernel_rfl)),⟨(fnAt Tryz.func152 (by kernel_rfl) (by kernel_rfl)),trivial,trivial⟩,⟨(fnAt Tryz.func216 (by kernel_rfl) (by kernel_rfl)),trivial,trivial⟩⟩,⟨(fnAt Tryz.func120 (by kernel_rfl) (by kernel_rfl)),⟨(fnAt Tryz.func184 (by kernel_rfl) (by kernel_rfl)),trivial,trivial⟩,⟨(fnAt Tryz.func248 (by kernel_rfl) (by kernel_rfl)),trivial,trivial⟩⟩⟩⟩⟩,⟨(fnAt Tryz.func12 (by kernel_rfl) (by kernel_rfl)),⟨(fnAt Tryz.func20 (by kernel_rfl) (by kernel_rfl)),⟨(fnAt Tryz.func36 (by kernel_rfl) (by kernel_rfl)),⟨(fnAt Tryz.func68 (by kernel_rfl) (by kernel_rfl)),⟨(fnAt Tryz.func132 (by kernel_rfl) (by kernel_rfl)),⟨(fnAt Tryz.func260 (by kernel_rfl) (by kernel_rfl)),trivial,trivial⟩,trivial⟩,⟨(fnAt Tryz.func196 (by kernel_rfl) (by kernel_rfl)),trivial,trivial⟩⟩,⟨(fnAt Tryz.func100 (by kernel_rfl) (by kernel_rfl)),⟨(fnAt Tryz.func164 (by kernel_rfl) (by kernel_rfl)),trivial,trivial⟩,⟨(fnAt Tryz.func228 (by kernel_rfl) (by kernel_rfl)),trivial,trivial⟩⟩⟩,⟨(fnAt Tryz.func52 (by kernel_rfl) (by kernel_rfl)),⟨(fnAt Tryz.func84 (by kernel_rfl) (by kernel_rfl)),⟨(fnAt Tryz.func148 (by kernel_rfl) (by kernel_rfl)),trivial,trivial⟩,⟨(fnAt Tryz.func212 (by kernel_rfl) (by kernel_rfl)),trivial,trivial⟩⟩,⟨(fnAt Tryz.func116 (by kernel_rfl) (by kernel_rfl)),⟨(fnAt Tryz.func180 (by kernel_rfl) (by kernel_rfl)),trivial,trivial⟩,⟨(fnAt Tryz.func244 (by kernel_rfl) (by kernel_rfl)),trivial,trivial⟩⟩⟩⟩,⟨(fnAt Tryz.func28 (by kernel_rfl) (by kernel_rfl)),⟨(fnAt Tryz.func44 (by kernel_rfl) (by kernel_rfl)),⟨(fnAt Tryz.func76 (by kernel_rfl) (by kernel_rfl)),⟨(fnAt Tryz.func140 (by kernel_rfl) (by kernel_rfl)),⟨(fnAt Tryz.func268 (by kernel_rfl) (by kernel_rfl)),trivial,trivial⟩,trivial⟩,⟨(fnAt Tryz.func204 (by kernel_rfl) (by kernel_rfl)),trivial,trivial⟩⟩,⟨(fnAt Tryz.func108 (by kernel_rfl) (by kernel_rfl)),⟨(fnAt Tryz.func172 (by kernel_rfl) (by kernel_rfl)),trivial,trivial⟩,⟨(fnAt Tryz.func236 (by kernel_rfl) (by kernel_rfl)),trivial,trivial⟩⟩⟩,⟨(fnAt Tryz.func60 (by kernel_rfl) (by kernel_rfl)),⟨(fnAt Tryz.func92 (by kernel_rfl) (by kernel_rfl)),⟨(fnAt Tryz.func156 (by kernel_rfl) (by kernel_rfl)),trivial,trivial⟩,⟨(fnAt Tryz.func220 (by kernel_rfl) (by kernel_rfl)),trivial,trivial⟩⟩,⟨(fnAt Tryz.func124 (by kernel_rfl) (by kernel_rfl)),⟨(fnAt Tryz.func188 (by kernel_rfl) (by kernel_rfl)),trivial,trivial⟩,⟨(fnAt Tryz.func252 (by kernel_rfl) (by kernel_rfl)),trivial,trivial⟩⟩⟩⟩⟩⟩,⟨(fnAt Tryz.func6 (by kernel_rfl) (by kernel_rfl)),⟨(fnAt Tryz.func10 (by kernel_rfl) (by kernel_rfl)),⟨(fnAt Tryz.func18 (by kernel_rfl) (by kernel_rfl)),⟨(fnAt Tryz.func34 (by kernel_rfl) (by kernel_rfl)),⟨(fnAt Tryz.func66 (by kernel_rfl) (by kernel_rfl)),⟨(fnAt Tryz.func130 (by kernel_rfl) (by kernel_rfl)),⟨(extAt0 Tryz.func258 (by kernel_rfl) (by kernel_rfl) (by kernel_rfl) (by kernel_rfl)),trivial,trivial⟩,trivial⟩,⟨(fnAt Tryz.func194 (by kernel_rfl) (by kernel_rfl)),trivial,trivial⟩⟩,⟨(fnAt Tryz.func98 (by kernel_rfl) (by kernel_rfl)),⟨(fnAt Tryz.func162 (by kernel_rfl) (by kernel_rfl)),trivial,trivial⟩,⟨(fnAt Tryz.func226 (by kernel_rfl) (by kernel_rfl)),trivial,trivial⟩⟩⟩,⟨(fnAt Tryz.func50 (by kernel_rfl) (by kernel_rfl)),⟨(fnAt Tryz.func82 (by kernel_rfl) (by kernel_rfl)),⟨(fnAt Tryz.func146 (by kernel_rfl) (by kernel_rfl)),trivial,trivial⟩,⟨(fnAt Tryz.func210 (by kernel_rfl) (by kernel_rfl)),trivial,trivial⟩⟩,⟨(fnAt Tryz.func114 (by kernel_rfl) (by kernel_rfl)),⟨(fnAt Tryz.func178 (by kernel_rfl) (by kernel_rfl)),trivial,trivial⟩,⟨(fnAt Tryz.func242 (by kernel_rfl) (by kernel_rfl)),trivial,trivial⟩⟩⟩⟩,⟨(fnAt Tryz.func26 (by kernel_rfl) (by kernel_rfl)),⟨(fnAt Tryz.func42 (by kernel_rfl) (by kernel_rfl)),⟨(fnAt Tryz.func74 (by kernel_rfl) (by kernel_rfl)),⟨(fnAt Tryz.func138 (by kernel_rfl) (by kernel_rfl)),⟨(fnAt Tryz.func266 (by kernel_rfl) (by kernel_rfl)),trivial,trivial⟩,trivial⟩,⟨(fnAt Tryz.func202 (by kernel_rfl) (by kernel_rfl)),trivial,trivial⟩⟩,⟨(fnAt Tryz.func106 (by kernel_rfl) (by kernel_rfl)),⟨(fnAt Tryz.func170 (by kernel_rfl) (by kernel_rfl)),trivial,trivial⟩,⟨(fnAt Tryz.func234 (by kernel_rfl) (by kernel_rfl)),trivial,trivial⟩⟩⟩,⟨(fnAt Tryz.func58 (by kernel_rfl) (by kernel_rfl)),⟨(fnAt Tryz.func90 (by kernel_rfl) (by kernel_rfl)),⟨(fnAt Tryz.func154 (by kernel_rfl) (by kernel_rfl)),trivial,trivial⟩,⟨(fnAt Tryz.func218 (by kernel_rfl) (by kernel_rfl)),trivial,trivial⟩⟩,⟨(fnAt Tryz.func122 (by kernel_rfl) (by kernel_rfl)),⟨(fnAt Tryz.func186 (by kernel_rfl) (by kernel_rfl)),trivial,trivial⟩,⟨(fnAt Tryz.func250 (by kernel_rfl) (by kernel_rfl)),trivial,trivial⟩⟩⟩⟩⟩,⟨(fnAt Tryz.func14 (by kernel_rfl) (by kernel_rfl)),⟨(fnAt Tryz.func22 (by kernel_rfl) (by kernel_rfl)),⟨(fnAt Tryz.func38 (by kernel_rfl) (by kernel_rfl)),⟨(fnAt Tryz.func70 (by kernel_rfl) (by kernel_rfl)),⟨(fnAt Tryz.func134 (by kernel_rfl) (by kernel_rfl)),⟨(fnAt Tryz.func262 (by kernel_rfl) (by kernel_rfl)),trivial,trivial⟩,trivial⟩,⟨(fnAt Tryz.func198 (by kernel_rfl) (by kernel_rfl)),trivial,trivial⟩⟩,⟨(fnAt Tryz.func102 (by kernel_rfl) (by kernel_rfl)),⟨(fnAt Tryz.func166 (by kernel_rfl) (by kernel_rfl)),trivial,trivial⟩,⟨(fnAt Tryz.func230 (by kernel_rfl) (by kernel_rfl)),trivial,trivial⟩⟩⟩,⟨(fnAt Tryz.func54 (by kernel_rfl) (by kernel_rfl)),⟨(fnAt Tryz.func86 (by kernel_rfl) (by kernel_rfl)),⟨(fnAt Tryz.func150 (by kernel_rfl) (by kernel_rfl)),trivial,trivial⟩,⟨(fnAt Tryz.func214 (by kernel_rfl) (by kernel_rfl)),trivial,trivial⟩⟩,⟨(fnAt Tryz.func118 (by kernel_rfl) (by kernel_rfl)),⟨(fnAt Tryz.func182 (by kernel_rfl) (by kernel_rfl)),trivial,trivial⟩,⟨(fnAt Tryz.func246 (by kernel_rfl) (by kernel_rfl)),trivial,trivial⟩⟩⟩⟩,⟨(fnAt Tryz.func30 (by kernel_rfl) (by kernel_rfl)),⟨(fnAt Tryz.func46 (by kernel_rfl) (by kernel_rfl)),⟨(fnAt Tryz.func78 (by kernel_rfl) (by kernel_rfl)),⟨(fnAt Tryz.func142 (by kernel_rfl) (by kernel_rfl)),trivial,trivial⟩,⟨(fnAt Tryz.func206 (by kernel_rfl) (by kernel_rfl)),trivial,trivial⟩⟩,⟨(fnAt Tryz.func110 (by kernel_rfl) (by kernel_rfl)),⟨(fnAt Tryz.func174 (by kernel_rfl) (by kernel_rfl)),trivial,trivial⟩,⟨(fnAt Tryz.func238 (by kernel_rfl) (by kernel_rfl)),trivial,trivial⟩⟩⟩,⟨(fnAt Tryz.func62 (by kernel_rfl) (by kernel_rfl)),⟨(fnAt Tryz.func94 (by kernel_rfl) (by kernel_rfl)),⟨(fnAt Tryz.func158 (by kernel_rfl) (by kernel_rfl)),trivial,trivial⟩,⟨(fnAt Tryz.func222 (by kernel_rfl) (by kernel_rfl)),trivial,trivial⟩⟩,⟨(fnAt Tryz.func126 (by kernel_rfl) (by kernel_rfl)),⟨(fnAt Tryz.func190 (by kernel_rfl) (by kernel_rfl)),trivial,trivial⟩,⟨(fnAt Tryz.func254 (by kernel_rfl) (by kernel_rfl)),trivial,trivial⟩⟩⟩⟩⟩⟩⟩⟩
end Go.Av
noncomputable section
namespace Go.Av
open Go Go.Proofs
def Fz (_:List Nat):Prop:=True
section
variable {frz:List Nat} {nt m:Nat} {ro':Option Nat} {K:Ex→S→Prop} {ops:Array Oper} {l:List Oper} {o:Oper} {tm tm' tm1 tm0:PT AV} {objs objs':List Ob} {dl:List Dl} {b:Bool} {ob:Option (List Ob)} {fl:Bool} {s s0:S} {i:Nat} {acc:List Eff} {G:S→Prop} {P A B X Y Q:Prop} {g:FuncId} {ds:List DV} {r:AV}
theorem oXw (_:Fz frz) {v v':AV} (k:RunOps Tryz.prog nt m ro' ops l ⟨tm',objs',dl⟩ K) (hg:guardA ops (rd tm) o=some true:=by rfl) (hv:evAny Et H0 frz (rd tm) objs o=some (v',ob,fl):=by rfl) (hf:fl=true:=by rfl)
  (he:v'=v:=by first|(conv=>lhs;dsimp only)|rfl) (ho:ob.getD objs=objs':=by first|(conv=>lhs;dsimp only [Option.getD])|rfl) (hp:isPan v=false:=by rfl) (ht:setD nt tm o.dst v=some tm':=by rfl) :
  RunOps Tryz.prog nt m ro' ops (o :: l) ⟨tm,objs,dl⟩ K:=RunOps.x Yo hg hv hf he ho hp ht k
theorem oXn (_:Fz frz) {v v':AV} (k:RunOps Tryz.prog nt m ro' ops l ⟨tm',objs',dl⟩ K) (_:boolOp o.op=false:=by rfl) (hg:guardA ops (rd tm) o=some true:=by rfl) (hv:evAny Et H0 frz (rd tm) objs o=some (v',ob,fl):=by rfl) (hf:fl=true:=by rfl)
  (he:v'=v:=by first|(conv=>lhs;dsimp only)|rfl) (ho:ob.getD objs=objs':=by first|(conv=>lhs;dsimp only [Option.getD])|rfl) (hp:isPan v=false:=by rfl) (ht:setD nt tm o.dst v=some tm':=by rfl) :
  RunOps Tryz.prog nt m ro' ops (o :: l) ⟨tm,objs,dl⟩ K:=RunOps.x Yo hg hv hf he ho hp ht k
theorem eXn {v v':AV} (k:EvD Tryz.prog Et frz nt ops s0 (i+1) (acc++[effOf (rd tm) objs o ob]) l ⟨tm',objs',dl⟩ G) (_:boolOp o.op=false:=by rfl) (hg:guardA ops (rd tm) o=some true:=by rfl) (hv:evAny Et H0 frz (rd tm) objs o=some (v',ob,fl):=by rfl) (hf:fl=true:=by rfl)
  (he:v'=v:=by first|(conv=>lhs;dsimp only)|rfl) (ho:ob.getD objs=objs':=by first|(conv=>lhs;dsimp only [Option.getD])|rfl) (hp:isPan v=false:=by rfl) (ht:setD nt tm o.dst v=some tm':=by rfl) :
  EvD Tryz.prog Et frz nt ops s0 i acc (o :: l) ⟨tm,objs,dl⟩ G:=EvD.x hg hv hf he ho hp ht k
theorem oBw (_:Fz frz) (k1:b=true→RunOps Tryz.prog nt m ro' ops l ⟨tm1,objs',dl⟩ K) (k0:b=false→RunOps Tryz.prog nt m ro' ops l ⟨tm0,objs',dl⟩ K) (hb:boolOp o.op=true:=by rfl) (hg:guardA ops (rd tm) o=some true:=by rfl)
  (hv:evAny Et H0 frz (rd tm) objs o=some (.d (.bool b),ob,fl):=by rfl) (hf:fl=true:=by rfl) (ho:ob.getD objs=objs':=by first|(conv=>lhs;dsimp only [Option.getD])|rfl) (ht1:setD nt tm o.dst (.d (.bool true))=some tm1:=by rfl) (ht0:setD nt tm o.dst (.d (.bool false))=some tm0:=by rfl) :
  RunOps Tryz.prog nt m ro' ops (o :: l) ⟨tm,objs,dl⟩ K:=RunOps.xb Yo hb hg hv hf ho ht1 ht0 k1 k0
theorem dW (_:Fz frz) {id:Nat} (h:EvD Tryz.prog Et frz nt ops s 0 [] ops.toList s (fun s'=>K .normal s')):Run Tryz.prog nt m ro' (.region id ops true) s K:=Yd Yo (by kernel_rfl) h
theorem zX (f:List Nat) (q:Q) (h:Fz f→Q→P:=by intro w q;first|exact oXw w q|exact eX q):P:=h trivial q
theorem zW (f:List Nat) (q:Q) (h:Fz f→Q→P:=by intro w q;first|exact Yg q|exact Yq q|exact oXn w q|exact oS q|exact Yn q|exact Yk q|exact cT q|exact cF q|exact Yb q|exact Ye q|exact dW w q|exact eXn q|exact eS q|exact eN q):P:=h trivial q
theorem zN (f:List Nat) (q:Q) (h:Fz f→Q→P:=by intro w q;first|exact Yg q|exact Yq q|exact oXn w q|exact oS q|exact Yn q|exact Yk q|exact cT q|exact cF q|exact Yb q|exact Ye q|exact eXn q|exact eS q|exact eN q):P:=h trivial q
theorem zG (f:List Nat) (q:Q) (h:Fz f→Q→P:=by intro w q;first|exact Yg q|exact Yq q|exact Yn q|exact Yk q|exact cT q|exact cF q|exact Yb q|exact Ye q|exact eN q|exact dW w q):P:=h trivial q
theorem zS (q:Q) (h:Q→P:=by intro q;first|exact Yq q|exact Yg q|exact Yn q|exact Yk q|exact cT q|exact cF q|exact Yb q|exact Ye q):P:=h q
theorem zA (f:List Nat) (q:Q) (h:Fz f→Q→P:=by intro w q;first|exact oXw w q|exact oS q|exact Yn q|exact Yg q|exact Yq q|exact Yk q|exact Yb q|exact Ye q|exact dW w q|exact eX q|exact eS q|exact eN q):P:=h trivial q
theorem zB (f:List Nat) (x:A→X) (y:B→Y) (h:Fz f→(A→X)→(B→Y)→P:=by intro w x y;first|exact oBw w x y|exact eB x y):P:=h trivial x y
theorem zk (a:A) (h:A→P:=by intro h;exfalso;simp at h;first|done|omega):P:=h a
theorem zC (c:KnownCall Tryz.prog g ds r) (q:Q) (h:KnownCall Tryz.prog g ds r→Q→P:=by intro c q;first|exact oC c q|exact eC c q):P:=h c q
theorem zK (c:KnownCall Tryz.prog g ds (.d (.bool b))) (x:A→X) (y:B→Y) (h:KnownCall Tryz.prog g ds (.d (.bool b))→(A→X)→(B→Y)→P:=by intro c x y;first|exact oK c x y|exact eK c x y):P:=h c x y
theorem zE (q:Q) (h:Q→P:=by intro q;refine Yt ?_;first|exact rB q|exact rI q|exact rA q|exact rII q|exact rSI q|exact rT q|exact rS q):P:=h q
end
end Go.Av
end
noncomputable section
namespace Go.Av
open Go Go.Proofs
set_option maxRecDepth 10000
abbrev strs (l:List (List Nat)):DV:=.sl 1 (l.map .str)
abbrev ints (l:List Int):DV:=.sl 1 (l.map (.int .i64))
theorem get_ok {α:Type} {l:List α} {i:Nat} (h:i<l.length):∃ x,l[i]?=some x:=⟨l[i],by simp [h]⟩
theorem sameTexts0 (a b:List (List Nat)) (hal:a.length≤1099511627776):ACall Tryz.prog 41 [.d (strs a),.d (strs b)] [] (.d (.bool (decide (a=b)))) []:=by
 refine acall_of_run Yo (fnAt Tryz.func41 (by kernel_rfl) (by kernel_rfl):FnAt _ _ (mkFn Tryz.f41 [])) rfl rfl ?_
 repeat refine zA [] ?_
 refine Run.cond (by rfl) (fun h=>?_) (fun h=>?_)
 ·have hne:a≠b:=fun e=>by subst e;simp at h
  repeat refine zA [] ?_
  refine Yt ?_
  refine⟨trivial,rfl,Eq.trans (b:=some (.d (.bool false))) (by kernel_rfl) ?_⟩
  rw [decide_eq_false hne]
 ·have hlen:a.length=b.length:=by simp at h;omega
  repeat refine zA [] ?_
  refine Run.loop (fun i:Nat=>⟨PT.ofList [(0,.d (strs a)),(1,.d (strs b)),(5,.d (.int .i64 i))],[],[]⟩) (fun i=>i≤a.length∧a.take i=b.take i) (fun i=>a.length-i) 0 ⟨Nat.zero_le _,rfl⟩ (weak_of ⟨rfl,rfl,rfl,trivial⟩) (fun i hi=>?_)
  repeat refine zA [] ?_
  refine Run.cond (by rfl) (fun h=>?_) (fun h=>?_)
  ·have hlt:i<a.length:=by simpa using h
   obtain⟨x,hx⟩:=get_ok hlt
   obtain⟨y,hy⟩:=get_ok (show i<b.length by omega)
   repeat refine zA [] ?_
   first|refine oX (frz:=[]) (v:=.d (.ep [.str x])) Yo ?_ (hf:=(by first|(simp [inB]<;>fail)|(simp [inB];omega))) (he:=(by first|(simp [List.getD_eq_getElem?_getD,cellsD,hx]<;>fail)|fail))|refine eX (v:=.d (.ep [.str x])) ?_ (hf:=(by first|(simp [inB]<;>fail)|(simp [inB];omega))) (he:=(by first|(simp [List.getD_eq_getElem?_getD,cellsD,hx]<;>fail)|fail))
   repeat refine zA [] ?_
   first|refine oX (frz:=[]) (v:=.d (.ep [.str y])) Yo ?_ (hf:=(by first|(simp [inB]<;>fail)|(simp [inB];omega))) (he:=(by first|(simp [List.getD_eq_getElem?_getD,cellsD,hy]<;>fail)|fail))|refine eX (v:=.d (.ep [.str y])) ?_ (hf:=(by first|(simp [inB]<;>fail)|(simp [inB];omega))) (he:=(by first|(simp [List.getD_eq_getElem?_getD,cellsD,hy]<;>fail)|fail))
   repeat refine zA [] ?_
   refine Run.cond (by rfl) (fun h=>?_) (fun h=>?_)
   ·have hne:a≠b:=fun e=>by subst e;rw [hx] at hy;cases hy;simp at h
    repeat refine zA [] ?_
    refine Yt ?_
    refine⟨trivial,rfl,Eq.trans (b:=some (.d (.bool false))) (by kernel_rfl) ?_⟩
    rw [decide_eq_false hne]
   ·have hxy:x=y:=by simpa using h
    subst hxy
    refine Yk ?_
    refine Yg ?_
    iterate 1 refine zX [] ?_
    first|refine oX (frz:=[]) (v:=.d (.int .i64 (i+1:Nat))) Yo ?_ (he:=(congrArg (fun n=>AV.d (.int .i64 n)) (wrap_nat (n:=i+1) (by omega))))|refine eX (v:=.d (.int .i64 (i+1:Nat))) ?_ (he:=(congrArg (fun n=>AV.d (.int .i64 n)) (wrap_nat (n:=i+1) (by omega))))
    iterate 1 refine zX [] ?_
    refine Yn ?_
    refine⟨i+1,⟨by omega,?_⟩,by omega,weak_of ⟨rfl,rfl,rfl,trivial⟩⟩
    rw [List.take_add_one,List.take_add_one,hi.2,hx,hy]
  ·have hge:i=a.length:=by have:=hi.1;simp at h;omega
   have hab:a=b:=by have:=hi.2;rw [hge,List.take_length,hlen,List.take_length] at this;exact this
   repeat refine zA [] ?_
   refine Yt ?_
   refine⟨trivial,rfl,Eq.trans (b:=some (.d (.bool true))) (by kernel_rfl) ?_⟩
   rw [decide_eq_true hab]
theorem sameTexts (a b:List (List Nat)) (hal:a.length≤1099511627776):KnownCall Tryz.prog 41 [strs a,strs b] (.d (.bool (decide (a=b)))):=fun o=>pure_call (k:=8) rfl (sameTexts0 a b hal) rfl o
end Go.Av
end
noncomputable section
namespace Go.Av
open Go Go.Proofs
set_option maxRecDepth 10000
structure GProd where
 left:Int
 right:List Int
structure Gram where
 k:Int
 tokens:List (List Nat)
 sep:List Nat
 names:List (List Nat)
 start:Int
 prods:List GProd
def encP (p:GProd):DV:=.agg [.int .i64 p.left,ints p.right]
abbrev encG (g:Gram):DV:=.agg [.int .i64 g.k,strs g.tokens,.str g.sep,strs g.names,.int .i64 g.start,.sl 2 (g.prods.map encP)]
structure Fits (g:Gram):Prop where
 tokens:g.tokens.length≤1048576
 names:g.names.length≤1048576
 prods:g.prods.length≤1048576
 sep:g.sep.length≤1048576
 tokenS:∀ s ∈ g.tokens,s.length≤1048576
 nameS:∀ s ∈ g.names,s.length≤1048576
 rights:∀ p ∈ g.prods,p.right.length≤1048576
def isTerm (g:Gram) (s:Int):Bool:=decide (0≤s) && decide (s<g.tokens.length)
def isNonterm (g:Gram) (s:Int):Bool:=decide (16≤s) && decide (s<16+g.names.length)
theorem terminal0 (g:Gram) (s:Int):ACall Tryz.prog 166 [.d (encG g),.d (.int .i64 s)] [] (.d (.bool (isTerm g s))) []:=by
 refine acall_of_run Yo (fnAt Tryz.func166 (by kernel_rfl) (by kernel_rfl):FnAt _ _ (mkFn Tryz.f166 [2])) rfl rfl ?_
 by_cases h:0≤s
 ·refine Yq (Yg ?_)
  iterate 2 refine zX [2] ?_
  refine Yn ?_
  refine Yq (Yg ?_)
  iterate 1 refine zX [2] ?_
  first|refine oX (frz:=[2]) (v:=.d (.bool true)) Yo ?_ (he:=(by simp [h]))|refine eX (v:=.d (.bool true)) ?_ (he:=(by simp [h]))
  repeat refine zA [2] ?_
  refine Yt ?_
  refine⟨trivial,rfl,Eq.trans (b:=some (.d (.bool (decide (s<((g.tokens.map DV.str).length:Nat)))))) (by kernel_rfl) ?_⟩
  simp [isTerm,h]
 ·refine Yq (Yg ?_)
  iterate 2 refine zX [2] ?_
  refine Yn ?_
  refine Yq (Yg ?_)
  iterate 1 refine zX [2] ?_
  first|refine oX (frz:=[2]) (v:=.d (.bool false)) Yo ?_ (he:=(by simp [h]))|refine eX (v:=.d (.bool false)) ?_ (he:=(by simp [h]))
  iterate 1 refine zX [2] ?_
  iterate 5 refine RunOps.skip (by rfl) (by rfl) ?_
  repeat refine zA [2] ?_
  refine Yt ?_
  refine⟨trivial,rfl,Eq.trans (b:=some (.d (.bool false))) (by kernel_rfl) ?_⟩
  simp [isTerm,h]
theorem terminal (g:Gram) (s:Int):KnownCall Tryz.prog 166 [encG g,.int .i64 s] (.d (.bool (isTerm g s))):=fun o=>pure_call (k:=8) rfl (terminal0 g s) rfl o
end Go.Av
end
noncomputable section
namespace Go.Av
open Go Go.Proofs
set_option maxRecDepth 10000
theorem allProds0 (ps:List GProd) (hl:ps.length≤1099511627776) (yi L:Nat) (B:Nat→List Ob) (hyi:Nat.blt yi L=true) (hL:∀ k,(B k).length=L) (hR:∀ k,(B k).all (refOb L)=true) (n:Nat) (hn:n≤ps.length)
  (hy:∀ k p,k<n→ps[k]?=some p→AYield Tryz.prog yi [.d (.int .i64 k),.d (encP p)] (B k) (.d (.bool true)) (B (k+1))) (obs:List Ob)
  (hend:n=ps.length∧obs=B n∨∃ p,ps[n]?=some p∧AYield Tryz.prog yi [.d (.int .i64 n),.d (encP p)] (B n) (.d (.bool false)) obs) :
  ACall Tryz.prog 221 [.yl yi,.d (.ep [.sl 2 (ps.map encP)])] (B 0) (.tup []) obs:=by
 refine acall_of_run Yo (fnAt Tryz.func221 (by kernel_rfl) (by kernel_rfl):FnAt _ _ (mkFn Tryz.f221 [])) rfl rfl ?_
 repeat refine zA [] ?_
 refine Run.loop (fun k:Nat=>⟨PT.ofList [(0,.yl yi),(5,.d (.sl 2 (ps.map encP))),(6,.d (.int .i64 (ps.map encP).length)),(7,.d (.int .i64 k))],B k,[]⟩) (fun k=>k≤n) (fun k=>ps.length-k) 0 (Nat.zero_le _) (weak_of ⟨rfl,rfl,rfl,rfl,trivial⟩) (fun k hk=>?_)
 repeat refine zA [] ?_
 refine Run.cond (by rfl) (fun h=>?_) (fun h=>?_)
 ·have hlt:k<ps.length:=by simpa using h
  obtain⟨p,hp⟩:=get_ok hlt
  repeat refine zA [] ?_
  first|refine oX (frz:=[]) (v:=.d (.ep [.int .i64 p.left,ints p.right])) Yo ?_ (hf:=(by first|(simp [inB]<;>fail)|(simp [inB];omega))) (he:=(by first|(simp [List.getD_eq_getElem?_getD,cellsD,hp,encP]<;>fail)|fail))|refine eX (v:=.d (.ep [.int .i64 p.left,ints p.right])) ?_ (hf:=(by first|(simp [inB]<;>fail)|(simp [inB];omega))) (he:=(by first|(simp [List.getD_eq_getElem?_getD,cellsD,hp,encP]<;>fail)|fail))
  repeat refine zA [] ?_
  refine RunOps.x (frz:=[]) (v:=.d .any) (ob:=some (B k++[.box [.d (.int .i64 p.left),.d (ints p.right)]])) (fl:=true) Yo (by rfl)
   (Eq.trans (b:=Option.map (fun(p:AV × List Ob × Bool)=>(p.1,some p.2.1,p.2.2)) (storeR Et 82 (.bp (B k).length 0) (.d (.agg [.int .i64 p.left,ints p.right])) (B k++[.box [.d (.int .i64 0),.d .nilsl]]))) rfl (by rw [store_last (y:=ty82) (by rfl) (B k) _ (by rfl) (by rfl) (by rfl)];rfl)) rfl rfl rfl rfl (by rfl) ?_
  repeat refine zA [] ?_
  refine RunOps.x (frz:=[]) (v:=.d (.agg [.int .i64 p.left,ints p.right])) (ob:=none) (fl:=true) Yo (by rfl)
   (Eq.trans (b:=Option.map (fun(p:AV × List Ob × Bool)=>(p.1,none,p.2.2)) (loadR Et 82 (.bp (B k).length 0) (B k++[.box [.d (.int .i64 p.left),.d (ints p.right)]]))) rfl (by rw [load_last (y:=ty82) (by rfl) (by rfl) (B k) _ (by rfl)];rfl)) rfl rfl rfl rfl (by rfl) ?_
  have hLk:=hL k
  have hb:Nat.blt yi (B k).length=true:=by rw [hLk];exact hyi
  refine RunOps.less (less_of [(5,.d (.sl 2 (ps.map encP))),(6,.d (.int .i64 (ps.map encP).length)),(7,.d (.int .i64 k)),(12,.yl yi),(0,.yl yi),(13,.d (.int .i64 k)),(14,.d (encP p))] (B k).length (List.take_left) (by rw [hL,hL];exact Nat.ble_eq_true_of_le (Nat.le_refl _))
   ⟨by kernel_rfl,by kernel_rfl,by kernel_rfl,by kernel_rfl,by kernel_rfl,by kernel_rfl,by kernel_rfl,trivial⟩ ⟨rfl,rfl,rfl,hb,hb,rfl,rfl,trivial⟩ (by rw [hLk];exact hR k) rfl) ?_
  rcases Nat.lt_or_ge k n with hkn|hkn
  ·refine RunOps.yield (by rfl) (by rfl) (hy k p hkn hp) (by rfl) (by rfl) ?_
   repeat refine zA [] ?_
   refine Run.cond (b:=false) (by rfl) (fun h=>by cases h) (fun _=>?_)
   repeat refine zA [] ?_
   exact⟨k+1,hkn,by omega,weak_of ⟨(by kernel_rfl),(by kernel_rfl),(by kernel_rfl),(inc_get (k:=k) (by kernel_rfl) (by omega)),trivial⟩⟩
  ·have hkn:k=n:=by omega
   subst hkn
   rcases hend with⟨h1,_⟩|⟨p',hp',hA⟩
   ·omega
   ·rw [hp] at hp';cases hp'
    refine RunOps.yield (by rfl) (by rfl) hA (by rfl) (by rfl) ?_
    repeat refine zA [] ?_
    refine Run.cond (b:=true) (by rfl) (fun _=>?_) (fun h=>by cases h)
    refine Yt ?_
    exact⟨trivial,rfl,by kernel_rfl⟩
 ·have hge:ps.length≤k:=by simpa using h
  have hkn:k=n:=by omega
  subst hkn
  rcases hend with⟨_,rfl⟩|⟨p',hp',_⟩
  ·repeat refine zA [] ?_
   exact⟨trivial,rfl,by kernel_rfl⟩
  ·rw [List.getElem?_eq_none (by omega)] at hp';cases hp'
abbrev allProdsF (ps:List GProd):DV:=.fn (.func 221) [] [.ep [.sl 2 (ps.map encP)]]
theorem Run.rangeProds {nt m:Nat} {frz:List Nat} {K:Ex→S→Prop} {tm:PT AV} {dl:List Dl} {f:Operand} {qs:Array Tmp} {assign body:Code} (L:Nat) (Bs:Nat→List Ob) (ps:List GProd) (hl:ps.length≤1099511627776)
  (hf:rd tm f=.d (allProdsF ps)) (hBL:∀ k,(Bs k).length=L) (hBr:∀ k,(Bs k).all (refOb (L+2))=true) (hT:ptAll (refA 8 (L+2)) tm=true) (n:Nat) (hn:n≤ps.length)
  (hround:∀ k p,k<n→ps[k]?=some p→AYield Tryz.prog (L+1) [.d (.int .i64 k),.d (encP p)] (rangeObs (Bs k) tm nt frz qs assign body .ready none) (.d (.bool true)) (rangeObs (Bs (k+1)) tm nt frz qs assign body .ready none))
  (hend:(n=ps.length∧K .normal ⟨tm,rangeObs (Bs n) tm nt frz qs assign body .exhausted none,.mark L :: dl⟩) ∨
   ∃ p Be,ps[n]?=some p∧(Be.length=L)∧((AYield Tryz.prog (L+1) [.d (.int .i64 n),.d (encP p)] (rangeObs (Bs n) tm nt frz qs assign body .ready none) (.d (.bool false)) (rangeObs Be tm nt frz qs assign body .done (some .ret)) ∧
     K .ret ⟨tm,rangeObs Be tm nt frz qs assign body .exhausted (some .ret),.mark L :: dl⟩) ∨
    ∃ id,AYield Tryz.prog (L+1) [.d (.int .i64 n),.d (encP p)] (rangeObs (Bs n) tm nt frz qs assign body .ready none) (.d (.bool false)) (rangeObs Be tm nt frz qs assign body .done (some (.exit id))) ∧
     K (.exit id) ⟨tm,rangeObs Be tm nt frz qs assign body .exhausted (some (.exit id)),.mark L :: dl⟩)) :
  Run Tryz.prog nt m none (.rangeFunc f qs assign body) ⟨tm,Bs 0,dl⟩ K:=by
 have hlen:∀ B:List Ob,B.length=L→∀ st pend,(rangeObs B tm nt frz qs assign body st pend).length=L+2:=fun B h st pend=>by simp [rangeObs,h]
 have hrefs:∀ k,(rangeObs (Bs k) tm nt frz qs assign body .ready none).all (refOb (L+2))=true:=fun k=>by
  simp only [rangeObs,List.all_append,hBr k,Bool.true_and,List.all_cons,List.all_nil,Bool.and_true]
  simp only [refOb,hT,Bool.and_self]
 have hget:∀ B:List Ob,B.length=L→∀ st pend,(rangeObs B tm nt frz qs assign body st pend)[L+1]?=some (.loop tm nt frz qs assign body st pend):=fun B h st pend=>by
  subst h;simp [rangeObs]
 have hset:∀ B:List Ob,B.length=L→∀ st pend st' pend',(rangeObs B tm nt frz qs assign body st pend).set (L+1) (.loop tm nt frz qs assign body st' pend')=rangeObs B tm nt frz qs assign body st' pend':=fun B h st pend st' pend'=>by
  subst h
  unfold rangeObs
  rw [List.set_append_right _ _ (by simp)]
  simp
 have hyi:Nat.blt (L+1) (L+2)=true:=by rw [Nat.blt_eq];omega
 have hm:Tryz.prog.follows .mixedOrders=true:=by kernel_rfl
 rcases hend with⟨h1,h2⟩|⟨p,Be,hp,hBe,⟨h1,h2⟩|⟨id,h1,h2⟩⟩
 ·have hA:=allProds0 ps hl (L+1) (L+2) (fun k=>rangeObs (Bs k) tm nt frz qs assign body .ready none) hyi (fun k=>hlen _ (hBL k) _ _) hrefs n hn hround (rangeObs (Bs n) tm nt frz qs assign body .ready none) (.inl ⟨h1,rfl⟩)
  rw [← hBL 0] at hA
  have:=Run.range (m:=m) (s:=⟨tm,Bs 0,dl⟩) (K:=K) Yo hm hf hA rfl (by rw [hBL 0];exact hget _ (hBL n) _ _) (by simp) (by
   simp only [hBL 0]
   rw [hset _ (hBL n)]
   exact h2)
  exact this
 ·have hA:=allProds0 ps hl (L+1) (L+2) (fun k=>rangeObs (Bs k) tm nt frz qs assign body .ready none) hyi (fun k=>hlen _ (hBL k) _ _) hrefs n hn hround (rangeObs Be tm nt frz qs assign body .done (some .ret)) (.inr ⟨p,hp,h1⟩)
  rw [← hBL 0] at hA
  have:=Run.range (m:=m) (s:=⟨tm,Bs 0,dl⟩) (K:=K) Yo hm hf hA rfl (by rw [hBL 0];exact hget _ hBe _ _) (by simp) (by
   simp only [hBL 0]
   rw [hset _ hBe]
   exact h2)
  exact this
 ·have hA:=allProds0 ps hl (L+1) (L+2) (fun k=>rangeObs (Bs k) tm nt frz qs assign body .ready none) hyi (fun k=>hlen _ (hBL k) _ _) hrefs n hn hround (rangeObs Be tm nt frz qs assign body .done (some (.exit id))) (.inr ⟨p,hp,h1⟩)
  rw [← hBL 0] at hA
  have:=Run.range (m:=m) (s:=⟨tm,Bs 0,dl⟩) (K:=K) Yo hm hf hA rfl (by rw [hBL 0];exact hget _ hBe _ _) (by simp) (by
   simp only [hBL 0]
   rw [hset _ hBe]
   exact h2)
  exact this
end Go.Av
end
noncomputable section
namespace Go.Av
open Go Go.Proofs
set_option maxRecDepth 10000
theorem wrap64 {n:Int} (h1:-9223372036854775808≤n) (h2:n≤9223372036854775807):IntKind.i64.wrap n=n:=IntWalk.i64_in n ⟨h1,h2⟩
theorem nonterminal (g:Gram) (s:Int) (hf:Fits g):KnownCall Tryz.prog 164 [encG g,.int .i64 s] (.d (.bool (isNonterm g s))):=by
 have hn:=hf.names
 have hw:IntKind.i64.wrap (16+(g.names.length:Int))=16+g.names.length:=wrap64 (by omega) (by omega)
 refine knownE Yo (fnAt Tryz.func164 (by kernel_rfl) (by kernel_rfl):FnAt _ _ (mkFn Tryz.f164 [2])) ?_
 repeat' (first|refine zW [2] ?_|((refine zB [2] (fun h=>?_) (fun h=>?_))<;>(first|exact zk h|skip))|refine zX [2] ?_|(refine zE ?_;(first|(simp_all [isNonterm];done)|(simp_all [isNonterm];omega)))|fail)
end Go.Av
end
noncomputable section
namespace Go.Av
open Go Go.Proofs
set_option maxRecDepth 10000
def letterF (c:Int):Bool:=(decide (97≤c) && decide (c≤122)) || (decide (65≤c) && decide (c≤90))
def digitF (c:Int):Bool:=decide (48≤c) && decide (c≤57)
def badAt (s:List Nat) (i:Nat):Prop:=∃ c:Nat,s[i]?=some c∧letterF c=false∧(i=0∨(digitF c=false∧(c:Int)≠95))
open Classical in
def wordF (s:List Nat):Int:=if s=[] then 5 else if ∃ i,badAt s i then 3 else if 12<s.length then 4 else 0
def wLook:List Nat:=[108,111,111,107,97,104,101,97,100]
def wToken:List Nat:=[116,111,107,101,110]
def wSep:List Nat:=[115,101,112,97,114,97,116,111,114]
def wStart:List Nat:=[115,116,97,114,116]
def languageF (s:List Nat):Bool:=decide (s=wLook∨s=wToken∨s=wSep∨s=wStart)
def nameF (s:List Nat):Int:=if wordF s=0∧languageF s=true then 12 else wordF s
theorem letter (c:Int):KnownCall Tryz.prog 260 [.int .i32 c] (.d (.bool (letterF c))):=by
 refine knownE Yo (fnAt Tryz.func260 (by kernel_rfl) (by kernel_rfl):FnAt _ _ (mkFn Tryz.f260 [])) ?_
 repeat' (first|refine zW [] ?_|((refine zB [] (fun h=>?_) (fun h=>?_))<;>(first|exact zk h|skip))|refine zX [] ?_|(refine zE ?_;(first|(simp_all [letterF];done)|(simp_all [letterF];omega)))|fail)
theorem digit (c:Int):KnownCall Tryz.prog 261 [.int .i32 c] (.d (.bool (digitF c))):=by
 refine knownE Yo (fnAt Tryz.func261 (by kernel_rfl) (by kernel_rfl):FnAt _ _ (mkFn Tryz.f261 [])) ?_
 repeat' (first|refine zW [] ?_|((refine zB [] (fun h=>?_) (fun h=>?_))<;>(first|exact zk h|skip))|refine zX [] ?_|(refine zE ?_;(first|(simp_all [digitF];done)|(simp_all [digitF];omega)))|fail)
theorem wordF_bad {s:List Nat} (hs:s≠[]) {i:Nat} (h:badAt s i):wordF s=3:=by
 unfold wordF
 rw [if_neg hs,if_pos ⟨i,h⟩]
theorem wordF_good {s:List Nat} (hs:s≠[]) (h:∀ i,¬ badAt s i):wordF s=if 12<s.length then 4 else 0:=by
 unfold wordF
 rw [if_neg hs,if_neg (fun⟨i,hi⟩=>h i hi)]
theorem word (s:List Nat) (hl:s.length≤1099511627776):KnownCall Tryz.prog 238 [.str s] (.d (.int .i64 (wordF s))):=by
 refine knownE Yo (fnAt Tryz.func238 (by kernel_rfl) (by kernel_rfl):FnAt _ _ (mkFn Tryz.f238 [])) ?_
 repeat' (first|refine zW [] ?_|((refine zB [] (fun h=>?_) (fun h=>?_))<;>(first|exact zk h|skip))|refine zX [] ?_|(refine zE ?_;(simp_all [wordF]))|fail)
 have hs:s≠[]:=by simpa using h
 refine Run.loop (fun i:Nat=>⟨PT.ofList [(0,.d (.str s)),(8,.bp 0 0)],[.sit s i],[]⟩) (fun i=>i≤s.length∧∀ j,j<i→¬ badAt s j) (fun i=>s.length-i) 0 ⟨Nat.zero_le _,fun j hj=>by omega⟩ (weak_of ⟨rfl,rfl,trivial⟩) (fun i hi=>?_)
 obtain⟨hi1,hi2⟩:=hi
 rcases Nat.lt_or_ge i s.length with hlt|hge
 ·obtain⟨c,hc⟩:=get_ok hlt
  have hbad:badAt s i ↔ letterF c=false∧(i=0∨(digitF c=false∧(c:Int)≠95)):=⟨fun⟨c',h1,h2⟩=>by rw [hc] at h1;cases h1;exact h2,fun h=>⟨c,hc,h⟩⟩
  rcases Nat.lt_or_ge c 128 with h8|h8
  ·have hd:=decL_ascii hc h8
   repeat' (first|refine zW [] ?_|((refine zB [] (fun h=>?_) (fun h=>?_))<;>(first|exact zk h|skip))|refine zX [] ?_|refine RunOps.next Yo (by rfl) (by rfl) (by rfl) hlt hd (by rfl) (by rfl) (by rfl) ?_|((refine zK (letter _) (fun h=>?_) (fun h=>?_))<;>(first|exact zk h|skip))|refine zC (letter _) ?_|((refine zK (digit _) (fun h=>?_) (fun h=>?_))<;>(first|exact zk h|skip))|refine zC (digit _) ?_|(refine zE ?_;(rw [wordF_bad hs (i:=i) (hbad.2 (by simp_all))]))|(exact⟨i+1,⟨by omega,fun j hj=>by rcases Nat.lt_succ_iff_lt_or_eq.1 hj with h|h;exact hi2 j h;subst h;rw [hbad];simp_all⟩,by omega,weak_of' (by rfl) rfl ⟨(by kernel_rfl),(by kernel_rfl),trivial⟩⟩)|fail)
  ·have hd:=decL_high hc h8
   obtain⟨r,n,hrn⟩:∃ r n,decL s i=(r,n):=⟨_,_,rfl⟩
   rw [hrn] at hd
   have hb:badAt s i:=hbad.2 ⟨by simp [letterF];omega,.inr ⟨by simp [digitF];omega,by omega⟩⟩
   have hr1:letterF r=false:=by simp [letterF];simp at hd;omega
   have hr2:digitF r=false:=by simp [digitF];simp at hd;omega
   have hr3:(r:Int)≠95:=by simp at hd;omega
   repeat' (first|refine zW [] ?_|((refine zB [] (fun h=>?_) (fun h=>?_))<;>(first|exact zk h|skip))|refine zX [] ?_|refine RunOps.next Yo (by rfl) (by rfl) (by rfl) hlt hrn (by rfl) (by rfl) (by rfl) ?_|((refine zK (letter _) (fun h=>?_) (fun h=>?_))<;>(first|exact zk h|skip))|refine zC (letter _) ?_|((refine zK (digit _) (fun h=>?_) (fun h=>?_))<;>(first|exact zk h|skip))|refine zC (digit _) ?_|(refine zE ?_;(rw [wordF_bad hs (i:=i) hb]))|(exfalso;simp_all)|fail)
 ·have hge:i=s.length:=by omega
  have hall:∀ j,¬ badAt s j:=fun j hj=>by
   by_cases hlt:j<i
   ·exact hi2 j hlt hj
   ·obtain⟨c,h1,_⟩:=hj
    rw [List.getElem?_eq_none (by omega)] at h1;cases h1
  repeat' (first|refine zW [] ?_|((refine zB [] (fun h=>?_) (fun h=>?_))<;>(first|exact zk h|skip))|refine zX [] ?_|refine RunOps.nextEnd Yo (by rfl) (by rfl) (by rfl) (Nat.le_of_eq hge.symm) (by rfl) (by rfl) ?_|(refine zE ?_;(rw [wordF_good hs hall];first|(simp_all []<;>fail)|(simp_all [];omega)))|fail)
end Go.Av
end
noncomputable section
namespace Go.Av
open Go Go.Proofs
set_option maxRecDepth 10000
theorem all_succ {p:Nat→Prop} {i:Nat} (h:∀ j,j<i→p j) (h':p i):∀ j,j<i+1→p j:=fun j hj=>by
 rcases Nat.lt_succ_iff_lt_or_eq.1 hj with h1|h1
 ·exact h j h1
 ·exact h1 ▸ h'
def findF (l:List (List Nat)) (s:List Nat):Int:=if s ∈ l then(l.idxOf s:Nat) else -1
theorem findF_at {l:List (List Nat)} {s:List Nat} {i:Nat} (h:l[i]?=some s) (hb:∀ j,j<i→l[j]?≠some s):findF l s=i:=by
 have hm:s ∈ l:=List.mem_of_getElem? h
 have hi:i<l.length:=(List.getElem?_eq_some_iff.1 h).1
 have h1:l.idxOf s<l.length:=List.idxOf_lt_length_iff.2 hm
 have h2:l[l.idxOf s]?=some s:=by rw [List.getElem?_eq_getElem h1,List.getElem_idxOf h1]
 have h3:¬ l.idxOf s<i:=fun hlt=>hb _ hlt h2
 have h4:¬ i<l.idxOf s:=fun hlt=>by
  have:=List.not_of_lt_findIdx hlt
  have e:l[i]=s:=(List.getElem?_eq_some_iff.1 h).2
  simp [e] at this
 rw [findF,if_pos hm];omega
theorem findF_none {l:List (List Nat)} {s:List Nat} (hb:∀ j,j<l.length→l[j]?≠some s):findF l s=-1:=by
 rw [findF,if_neg]
 intro hm
 obtain⟨i,hi,e⟩:=List.getElem_of_mem hm
 exact hb i hi (by rw [List.getElem?_eq_getElem hi,e])
theorem index (l:List (List Nat)) (s:List Nat) (hl:l.length≤1099511627776):KnownCall Tryz.prog 165 [strs l,.str s] (.d (.int .i64 (findF l s))):=by
 refine knownE Yo (fnAt Tryz.func165 (by kernel_rfl) (by kernel_rfl):FnAt _ _ (mkFn Tryz.f165 [])) ?_
 repeat' (first|refine zW [] ?_|((refine zB [] (fun h=>?_) (fun h=>?_))<;>(first|exact zk h|skip))|refine zX [] ?_|(refine zE ?_;(skip))|fail)
 refine Run.loop (fun i:Nat=>⟨PT.ofList [(7,.d (.int .i64 ((l.map DV.str).length:Nat))),(0,.d (strs l)),(1,.d (.str s)),(8,.d (.int .i64 i))],[],[]⟩) (fun i=>i≤l.length∧∀ j,j<i→l[j]?≠some s) (fun i=>l.length-i) 0 ⟨Nat.zero_le _,fun j hj=>by omega⟩ (weak_of (by repeat' (first|exact trivial|refine⟨rfl,?_⟩))) (fun i hi=>?_)
 obtain⟨hi1,hi2⟩:=hi
 rcases Nat.lt_or_ge i l.length with hlt|hge
 ·obtain⟨x,hx⟩:=get_ok hlt
  repeat' (first|refine zW [] ?_|((refine zB [] (fun h=>?_) (fun h=>?_))<;>(first|exact zk h|skip))|refine zX [] ?_|refine oX (frz:=[]) (v:=.d (.ep [.str x])) Yo ?_ (hf:=(by first|(simp [inB]<;>fail)|(simp [inB];omega))) (he:=(by first|(simp [List.getD_eq_getElem?_getD,cellsD,hx]<;>fail)|fail))|refine eX (v:=.d (.ep [.str x])) ?_ (hf:=(by first|(simp [inB]<;>fail)|(simp [inB];omega))) (he:=(by first|(simp [List.getD_eq_getElem?_getD,cellsD,hx]<;>fail)|fail))|(refine zE ?_;(rw [findF_at (i:=i) (by simp_all) hi2]))|(exact⟨i+1,⟨by omega,all_succ hi2 (by rw [hx];intro e;simp_all)⟩,by omega,weak_of (by repeat' (first|exact trivial|refine⟨rfl,?_⟩|refine⟨(inc_get (k:=i) (by kernel_rfl) (by omega)),?_⟩))⟩)|fail)
 ·have hge:i=l.length:=by omega
  repeat' (first|refine zW [] ?_|((refine zB [] (fun h=>?_) (fun h=>?_))<;>(first|exact zk h|skip))|refine zX [] ?_|(refine zE ?_;(rw [findF_none (fun j hj=>hi2 j (by omega))]))|fail)
end Go.Av
end
noncomputable section
namespace Go.Av
open Go Go.Proofs
set_option maxRecDepth 10000
abbrev wordsA:List AV:=[.d (.str wLook),.d (.str wToken),.d (.str wSep),.d (.str wStart)]
theorem indexW (s:List Nat):ACall Tryz.prog 165 [.bs 0 0 4 4,.d (.str s)] [.box wordsA] (.d (.int .i64 (findF [wLook,wToken,wSep,wStart] s))) [.box wordsA]:=by
 refine acall_of_run Yo (fnAt Tryz.func165 (by kernel_rfl) (by kernel_rfl):FnAt _ _ (mkFn Tryz.f165 [])) rfl rfl ?_
 repeat' (first|refine zW [] ?_|((refine zB [] (fun h=>?_) (fun h=>?_))<;>(first|exact zk h|skip))|refine zX [] ?_|(refine zE ?_;(skip))|fail)
 refine Run.loop (fun i:Nat=>⟨PT.ofList [(0,.bs 0 0 4 4),(1,.d (.str s)),(7,.d (.int .i64 4)),(8,.d (.int .i64 i))],[.box wordsA],[]⟩) (fun i=>i≤4∧∀ j,j<i→[wLook,wToken,wSep,wStart][j]?≠some s) (fun i=>4-i) 0 ⟨Nat.zero_le _,fun j hj=>by omega⟩ (weak_of (by repeat' (first|exact trivial|refine⟨rfl,?_⟩))) (fun i hi=>?_)
 obtain⟨hi1,hi2⟩:=hi
 have hcase:i=0∨i=1∨i=2∨i=3∨i=4:=by omega
 rcases hcase with h|h|h|h|h<;>subst h
 ·repeat' (first|refine zW [] ?_|((refine zB [] (fun h=>?_) (fun h=>?_))<;>(first|exact zk h|skip))|refine zX [] ?_|(refine zE ?_;(skip))|(exact⟨1,⟨by omega,all_succ hi2 (fun e=>by simp at e;subst e;simp at h)⟩,by omega,weak_of (by repeat' (first|exact trivial|refine⟨rfl,?_⟩))⟩)|fail)
  have hs:s=wLook:=by simpa using h
  refine Yt ?_
  refine⟨trivial,rfl,Eq.trans (b:=some (.d (.int .i64 0))) (by rfl) ?_⟩
  rw [findF_at (i:=0) (by rw [hs];rfl) hi2];rfl
 ·repeat' (first|refine zW [] ?_|((refine zB [] (fun h=>?_) (fun h=>?_))<;>(first|exact zk h|skip))|refine zX [] ?_|(refine zE ?_;(skip))|(exact⟨2,⟨by omega,all_succ hi2 (fun e=>by simp at e;subst e;simp at h)⟩,by omega,weak_of (by repeat' (first|exact trivial|refine⟨rfl,?_⟩))⟩)|fail)
  have hs:s=wToken:=by simpa using h
  refine Yt ?_
  refine⟨trivial,rfl,Eq.trans (b:=some (.d (.int .i64 1))) (by rfl) ?_⟩
  rw [findF_at (i:=1) (by rw [hs];rfl) hi2];rfl
 ·repeat' (first|refine zW [] ?_|((refine zB [] (fun h=>?_) (fun h=>?_))<;>(first|exact zk h|skip))|refine zX [] ?_|(refine zE ?_;(skip))|(exact⟨3,⟨by omega,all_succ hi2 (fun e=>by simp at e;subst e;simp at h)⟩,by omega,weak_of (by repeat' (first|exact trivial|refine⟨rfl,?_⟩))⟩)|fail)
  have hs:s=wSep:=by simpa using h
  refine Yt ?_
  refine⟨trivial,rfl,Eq.trans (b:=some (.d (.int .i64 2))) (by rfl) ?_⟩
  rw [findF_at (i:=2) (by rw [hs];rfl) hi2];rfl
 ·repeat' (first|refine zW [] ?_|((refine zB [] (fun h=>?_) (fun h=>?_))<;>(first|exact zk h|skip))|refine zX [] ?_|(refine zE ?_;(skip))|(exact⟨4,⟨by omega,all_succ hi2 (fun e=>by simp at e;subst e;simp at h)⟩,by omega,weak_of (by repeat' (first|exact trivial|refine⟨rfl,?_⟩))⟩)|fail)
  have hs:s=wStart:=by simpa using h
  refine Yt ?_
  refine⟨trivial,rfl,Eq.trans (b:=some (.d (.int .i64 3))) (by rfl) ?_⟩
  rw [findF_at (i:=3) (by rw [hs];rfl) hi2];rfl
 ·repeat' (first|refine zW [] ?_|((refine zB [] (fun h=>?_) (fun h=>?_))<;>(first|exact zk h|skip))|refine zX [] ?_|(refine zE ?_;(skip))|fail)
  refine Yt ?_
  refine⟨trivial,rfl,Eq.trans (b:=some (.d (.int .i64 (-1)))) (by rfl) ?_⟩
  rw [findF_none (l:=[wLook,wToken,wSep,wStart]) hi2]
theorem containsW (s:List Nat):ACall Tryz.prog 125 [.bs 0 0 4 4,.d (.str s)] [.box wordsA] (.d (.bool (languageF s))) [.box wordsA]:=by
 refine acall_of_run Yo (fnAt Tryz.func125 (by kernel_rfl) (by kernel_rfl):FnAt _ _ (mkFn Tryz.f125 [])) rfl rfl ?_
 repeat refine zA [] ?_
 refine RunOps.call (by rfl) (by rfl) (indexW s) (by rfl) (by rfl) ?_
 repeat refine zA [] ?_
 refine Yt ?_
 refine⟨trivial,rfl,Eq.trans (b:=some (.d (.bool (decide (0≤findF [wLook,wToken,wSep,wStart] s))))) (by kernel_rfl) ?_⟩
 by_cases hm:s ∈ [wLook,wToken,wSep,wStart]
 ·simp only [findF,if_pos hm];simp_all [languageF]
 ·simp only [findF,if_neg hm];simp_all [languageF]
theorem language (s:List Nat):KnownCall Tryz.prog 239 [.str s] (.d (.bool (languageF s))):=by
 refine knownE Yo (fnAt Tryz.func239 (by kernel_rfl) (by kernel_rfl):FnAt _ _ (mkFn Tryz.f239 [])) ?_
 repeat refine zA [] ?_
 refine RunOps.call (by rfl) (by rfl) (containsW s) (by rfl) (by rfl) ?_
 repeat' (first|refine zW [] ?_|((refine zB [] (fun h=>?_) (fun h=>?_))<;>(first|exact zk h|skip))|refine zX [] ?_|(refine zE ?_;(rfl))|fail)
theorem check03 (s:List Nat) (hl:s.length≤1099511627776):KnownCall Tryz.prog 204 [.str s] (.d (.int .i64 (nameF s))):=by
 refine knownE Yo (fnAt Tryz.func204 (by kernel_rfl) (by kernel_rfl):FnAt _ _ (mkFn Tryz.f204 [])) ?_
 repeat' (first|refine zW [] ?_|((refine zB [] (fun h=>?_) (fun h=>?_))<;>(first|exact zk h|skip))|refine zX [] ?_|((refine zK (word _ hl) (fun h=>?_) (fun h=>?_))<;>(first|exact zk h|skip))|refine zC (word _ hl) ?_|((refine zK (language _) (fun h=>?_) (fun h=>?_))<;>(first|exact zk h|skip))|refine zC (language _) ?_|(refine zE ?_;(first|(simp_all [nameF]<;>fail)|(simp_all [nameF];omega)))|fail)
def smallF (s:List Nat):Bool:=decide (nameF s=0) && decide (97≤s.getD 0 0)
def capitalF (s:List Nat):Bool:=decide (nameF s=0) && decide (s.getD 0 0<97)
theorem name_first {s:List Nat} (h:nameF s=0):∃ c:Nat,s[0]?=some c∧letterF c=true:=by
 have hw:wordF s=0:=by
  unfold nameF at h
  split at h
  ·omega
  ·exact h
 have hs:s≠[]:=fun e=>by simp [wordF,e] at hw
 obtain⟨c,hc⟩:=get_ok (l:=s) (i:=0) (List.length_pos_iff.2 hs)
 refine⟨c,hc,?_⟩
 cases hl:letterF c with
 |true=>rfl
 |false=>rw [wordF_bad hs ⟨c,hc,hl,.inl rfl⟩] at hw;omega
theorem letter_range {c:Nat} (h:letterF c=true):(97≤c∧c≤122)∨(65≤c∧c≤90):=by simp [letterF] at h;omega
theorem small (s:List Nat) (hl:s.length≤1099511627776):KnownCall Tryz.prog 121 [.str s] (.d (.bool (smallF s))):=by
 refine knownE Yo (fnAt Tryz.func121 (by kernel_rfl) (by kernel_rfl):FnAt _ _ (mkFn Tryz.f121 [])) ?_
 by_cases h0:nameF s=0
 ·obtain⟨c,hc,hlet⟩:=name_first h0
  have hr:=letter_range hlet
  have hlt:0<s.length:=(List.getElem?_eq_some_iff.1 hc).1
  have hg:s.getD 0 0=c:=by simp [List.getD_eq_getElem?_getD,hc]
  repeat' (first|refine zW [] ?_|((refine zB [] (fun h=>?_) (fun h=>?_))<;>(first|exact zk h|skip))|refine zX [] ?_|((refine zK (check03 _ hl) (fun h=>?_) (fun h=>?_))<;>(first|exact zk h|skip))|refine zC (check03 _ hl) ?_|refine oX (frz:=[]) (v:=.d (.int .u8 c)) Yo ?_ (hf:=(by first|(simp [inB]<;>fail)|(simp [inB];omega))) (he:=(by first|(simp [List.getD_eq_getElem?_getD,cellsD,hc]<;>fail)|fail))|refine eX (v:=.d (.int .u8 c)) ?_ (hf:=(by first|(simp [inB]<;>fail)|(simp [inB];omega))) (he:=(by first|(simp [List.getD_eq_getElem?_getD,cellsD,hc]<;>fail)|fail))|(refine zE ?_;(first|(simp_all [smallF]<;>fail)|(simp_all [smallF];omega)))|fail)
 ·repeat' (first|refine zW [] ?_|((refine zB [] (fun h=>?_) (fun h=>?_))<;>(first|exact zk h|skip))|refine zX [] ?_|((refine zK (check03 _ hl) (fun h=>?_) (fun h=>?_))<;>(first|exact zk h|skip))|refine zC (check03 _ hl) ?_|(refine zE ?_;(first|(simp_all [smallF]<;>fail)|(simp_all [smallF];omega)))|fail)
theorem capital (s:List Nat) (hl:s.length≤1099511627776):KnownCall Tryz.prog 122 [.str s] (.d (.bool (capitalF s))):=by
 refine knownE Yo (fnAt Tryz.func122 (by kernel_rfl) (by kernel_rfl):FnAt _ _ (mkFn Tryz.f122 [])) ?_
 by_cases h0:nameF s=0
 ·obtain⟨c,hc,hlet⟩:=name_first h0
  have hr:=letter_range hlet
  have hlt:0<s.length:=(List.getElem?_eq_some_iff.1 hc).1
  have hg:s.getD 0 0=c:=by simp [List.getD_eq_getElem?_getD,hc]
  repeat' (first|refine zW [] ?_|((refine zB [] (fun h=>?_) (fun h=>?_))<;>(first|exact zk h|skip))|refine zX [] ?_|((refine zK (check03 _ hl) (fun h=>?_) (fun h=>?_))<;>(first|exact zk h|skip))|refine zC (check03 _ hl) ?_|refine oX (frz:=[]) (v:=.d (.int .u8 c)) Yo ?_ (hf:=(by first|(simp [inB]<;>fail)|(simp [inB];omega))) (he:=(by first|(simp [List.getD_eq_getElem?_getD,cellsD,hc]<;>fail)|fail))|refine eX (v:=.d (.int .u8 c)) ?_ (hf:=(by first|(simp [inB]<;>fail)|(simp [inB];omega))) (he:=(by first|(simp [List.getD_eq_getElem?_getD,cellsD,hc]<;>fail)|fail))|(refine zE ?_;(first|(simp_all [capitalF]<;>fail)|(simp_all [capitalF];omega)))|fail)
 ·repeat' (first|refine zW [] ?_|((refine zB [] (fun h=>?_) (fun h=>?_))<;>(first|exact zk h|skip))|refine zX [] ?_|((refine zK (check03 _ hl) (fun h=>?_) (fun h=>?_))<;>(first|exact zk h|skip))|refine zC (check03 _ hl) ?_|(refine zE ?_;(first|(simp_all [capitalF]<;>fail)|(simp_all [capitalF];omega)))|fail)
end Go.Av
end
noncomputable section
namespace Go.Av
open Go Go.Proofs
set_option maxRecDepth 10000
def smalls (g:Gram):List (List Nat):=g.tokens++[g.sep]
open Classical in
def namedF (g:Gram):Int:=if(∃ s ∈ smalls g,smallF s=false)∨∃ s ∈ g.names,capitalF s=false then 12 else 0
end Go.Av
end
noncomputable section
namespace Go.Av
open Go Go.Proofs
set_option maxRecDepth 10000
theorem slicesAll (ps:List GProd):KnownCall Tryz.prog 167 [.sl 2 (ps.map encP)] (.d (allProdsF ps)):=by
 refine knownE Yo (fnAt Tryz.func167 (by kernel_rfl) (by kernel_rfl):FnAt _ _ (mkFn Tryz.f167 [1])) ?_
 repeat refine zA [1] ?_
 refine Yt ?_
 refine⟨trivial,_,_,by rfl,by rfl,Eq.trans (b:=some (.d (allProdsF ps))) (by kernel_rfl) ?_⟩
 rfl
theorem prodsOf (g:Gram):KnownCall Tryz.prog 74 [encG g] (.d (allProdsF g.prods)):=by
 refine knownE Yo (fnAt Tryz.func74 (by kernel_rfl) (by kernel_rfl):FnAt _ _ (mkFn Tryz.f74 [1])) ?_
 repeat refine zA [1] ?_
 first|refine RunOps.call (by rfl) (by rfl) (slicesAll g.prods _) (by rfl) (by rfl) ?_|refine EvD.call (by rfl) (by rfl) (by rfl) (slicesAll g.prods) (by rfl) (by rfl) ?_
 repeat refine zA [1] ?_
 refine Yt ?_
 refine⟨trivial,_,_,by rfl,by rfl,Eq.trans (b:=some (.d (allProdsF g.prods))) (by kernel_rfl) ?_⟩
 rfl
def manyF (g:Gram):Int:=if 8<g.tokens.length∨8<g.names.length∨24<g.prods.length∨∃ p ∈ g.prods,6<p.right.length then 6 else 0
theorem many (g:Gram) (hf:Fits g):KnownCall Tryz.prog 77 [encG g] (.d (.int .i64 (manyF g))):=by
 refine knownE Yo (fnAt Tryz.func77 (by kernel_rfl) (by kernel_rfl):FnAt _ _ (mkFn Tryz.f77 [1])) ?_
 refine Yq (Yg ?_)
 iterate 2 refine zX [1] ?_
 refine Yn ?_
 refine Yq (Yq (Yg ?_))
 iterate 3 refine zX [1] ?_
 by_cases h1:8<g.tokens.length
 ·first|refine oX (frz:=[1]) (v:=.d (.bool true)) Yo ?_ (he:=(by simp;omega))|refine eX (v:=.d (.bool true)) ?_ (he:=(by simp;omega))
  repeat refine zA [1] ?_
  refine Run.cond (b:=true) (by rfl) (fun _=>?_) (fun h=>by cases h)
  repeat refine zA [1] ?_
  refine Yt ?_
  refine⟨trivial,_,_,by rfl,by rfl,Eq.trans (b:=some (.d (.int .i64 6))) (by kernel_rfl) ?_⟩
  simp [manyF,h1]
 ·first|refine oX (frz:=[1]) (v:=.d (.bool false)) Yo ?_ (he:=(by simp;omega))|refine eX (v:=.d (.bool false)) ?_ (he:=(by simp;omega))
  iterate 4 refine zX [1] ?_
  by_cases h2:8<g.names.length
  ·first|refine oX (frz:=[1]) (v:=.d (.bool true)) Yo ?_ (he:=(by simp;omega))|refine eX (v:=.d (.bool true)) ?_ (he:=(by simp;omega))
   repeat refine zA [1] ?_
   refine Run.cond (b:=true) (by rfl) (fun _=>?_) (fun h=>by cases h)
   repeat refine zA [1] ?_
   refine Yt ?_
   refine⟨trivial,_,_,by rfl,by rfl,Eq.trans (b:=some (.d (.int .i64 6))) (by kernel_rfl) ?_⟩
   simp [manyF,h2]
  ·first|refine oX (frz:=[1]) (v:=.d (.bool false)) Yo ?_ (he:=(by simp;omega))|refine eX (v:=.d (.bool false)) ?_ (he:=(by simp;omega))
   iterate 5 refine zX [1] ?_
   by_cases h3:24<g.prods.length
   ·first|refine oX (frz:=[1]) (v:=.d (.bool true)) Yo ?_ (he:=(by simp;omega))|refine eX (v:=.d (.bool true)) ?_ (he:=(by simp;omega))
    repeat refine zA [1] ?_
    refine Run.cond (b:=true) (by rfl) (fun _=>?_) (fun h=>by cases h)
    repeat refine zA [1] ?_
    refine Yt ?_
    refine⟨trivial,_,_,by rfl,by rfl,Eq.trans (b:=some (.d (.int .i64 6))) (by kernel_rfl) ?_⟩
    simp [manyF,h3]
   ·first|refine oX (frz:=[1]) (v:=.d (.bool false)) Yo ?_ (he:=(by simp;omega))|refine eX (v:=.d (.bool false)) ?_ (he:=(by simp;omega))
    repeat refine zA [1] ?_
    refine Run.cond (b:=false) (by rfl) (fun h=>by cases h) (fun _=>?_)
    repeat refine zA [1] ?_
    first|refine RunOps.call (by rfl) (by rfl) (prodsOf g _) (by rfl) (by rfl) ?_|refine EvD.call (by rfl) (by rfl) (by rfl) (prodsOf g) (by rfl) (by rfl) ?_
    repeat refine zA [1] ?_
    obtain⟨n,hn⟩:∃ n,n=g.prods.findIdx (fun p=>decide (6<p.right.length)):=⟨_,rfl⟩
    have hidx:n≤g.prods.length:=by rw [hn];exact List.findIdx_le_length
    have hcase:n<g.prods.length∨n=g.prods.length:=by omega
    refine Run.rangeProds (frz:=[1]) 1 (fun _=>[.box [.d (.int .i64 0)]]) g.prods (Nat.le_trans hf.prods (by decide)) (by rfl) (fun _=>rfl) (fun _=>rfl) (by kernel_rfl) n hidx (fun k p hk hp=>?_) ?_
    ·have hgood:¬ 6<p.right.length:=by
      rw [hn] at hk
      have:=List.not_of_lt_findIdx hk
      have e:g.prods[k]=p:=by rw [List.getElem?_eq_some_iff] at hp;exact hp.2
      simpa [e] using this
     refine ayield_of_run (i:=2) (by rfl) (by rfl) (by rfl) ?_
     repeat refine zA [1] ?_
     refine⟨rfl,_,_,_,_,_,_,_,by rfl,?_⟩
     refine Run.less ?_
     repeat refine zA [1] ?_
     refine Run.cond (by rfl) (fun h=>?_) (fun h=>?_)
     ·simp at h;omega
     ·repeat refine zA [1] ?_
      exact⟨rfl,_,less_of [] 3 rfl (by rfl) trivial trivial (by kernel_rfl) rfl,_,_,_,_,_,_,_,_,by rfl,rfl,by rfl⟩
    ·rcases hcase with hlt|hge
     ·obtain⟨p,hp⟩:=get_ok hlt
      have hbad:6<p.right.length:=by
       rw [hn] at hp hlt
       have:=List.findIdx_getElem (p:=fun p:GProd=>decide (6<p.right.length)) (xs:=g.prods) (w:=hlt)
       have e:g.prods[g.prods.findIdx fun p=>decide (6<p.right.length)]=p:=by rw [List.getElem?_eq_some_iff] at hp;exact hp.2
       rw [e] at this
       simpa using this
      refine .inr ⟨p,[.box [.d (.int .i64 6)]],hp,rfl,.inl ⟨?_,?_⟩⟩
      ·refine ayield_of_run (i:=2) (by rfl) (by rfl) (by rfl) ?_
       repeat refine zA [1] ?_
       refine⟨rfl,_,_,_,_,_,_,_,by rfl,?_⟩
       refine Run.less ?_
       repeat refine zA [1] ?_
       refine Run.cond (by rfl) (fun h=>?_) (fun h=>?_)
       ·repeat refine zA [1] ?_
        refine Yt ?_
        exact⟨rfl,_,less_of [] 3 rfl (by rfl) trivial trivial (by kernel_rfl) rfl,_,_,_,_,_,_,_,_,by rfl,rfl,by rfl⟩
       ·simp at h;omega
      ·refine⟨trivial,_,_,by rfl,by rfl,Eq.trans (b:=some (.d (.int .i64 6))) (by kernel_rfl) ?_⟩
       have hm:manyF g=6:=by
        unfold manyF
        rw [if_pos (.inr (.inr (.inr ⟨p,List.mem_of_getElem? hp,hbad⟩)))]
       rw [hm]
     ·refine .inl ⟨hge,?_⟩
      repeat refine zA [1] ?_
      refine Yt ?_
      refine⟨trivial,_,_,by rfl,by rfl,Eq.trans (b:=some (.d (.int .i64 0))) (by kernel_rfl) ?_⟩
      have hm:manyF g=0:=by
       unfold manyF
       rw [if_neg]
       rintro(h|h|h|⟨p,hp,h⟩)
       ·exact h1 h
       ·exact h2 h
       ·exact h3 h
       ·have:=List.findIdx_lt_length_of_exists (xs:=g.prods) (p:=fun p=>decide (6<p.right.length)) ⟨p,hp,by simpa using h⟩
        omega
      rw [hm]
end Go.Av
end
noncomputable section
namespace Go.Av
open Go Go.Proofs
set_option maxRecDepth 10000
theorem many_tok {g:Gram} (h:8<g.tokens.length):manyF g=6:=if_pos (.inl h)
theorem many_nam {g:Gram} (h:8<g.names.length):manyF g=6:=if_pos (.inr (.inl h))
theorem many_pro {g:Gram} (h:24<g.prods.length):manyF g=6:=if_pos (.inr (.inr (.inl h)))
theorem many_rig {g:Gram} {i:Nat} {p:GProd} (h:g.prods[i]?=some p) (h':6<p.right.length):manyF g=6:=if_pos (.inr (.inr (.inr ⟨p,List.mem_of_getElem? h,h'⟩)))
theorem many_no {g:Gram} (h1:¬ 8<g.tokens.length) (h2:¬ 8<g.names.length) (h3:¬ 24<g.prods.length) (h4:∀ (j:Nat) p,j<g.prods.length→g.prods[j]?=some p→¬ 6<p.right.length):manyF g=0:=by
 refine if_neg ?_
 rintro(h|h|h|⟨p,hp,h⟩)
 ·exact h1 h
 ·exact h2 h
 ·exact h3 h
 ·obtain⟨j,hj,e⟩:=List.getElem_of_mem hp
  exact h4 j p hj (by rw [List.getElem?_eq_getElem hj,e]) h
end Go.Av
end
noncomputable section
namespace Go.Av
open Go Go.Proofs
set_option maxRecDepth 10000
def namesF (g:Gram):Int:=if namedF g=0∧(¬ (smalls g).Nodup∨¬ g.names.Nodup) then 8 else namedF g
theorem named_small {g:Gram} {i:Nat} {s:List Nat} (h:(smalls g)[i]?=some s) (h':smallF s=false):namedF g=12:=if_pos (.inl ⟨s,List.mem_of_getElem? h,h'⟩)
theorem named_capital {g:Gram} {i:Nat} {s:List Nat} (h:g.names[i]?=some s) (h':capitalF s=false):namedF g=12:=if_pos (.inr ⟨s,List.mem_of_getElem? h,h'⟩)
theorem named_no {g:Gram} (h1:∀ j:Nat,j<(smalls g).length→∀ s,(smalls g)[j]?=some s→smallF s=true) (h2:∀ j:Nat,j<g.names.length→∀ s,g.names[j]?=some s→capitalF s=true):namedF g=0:=by
 refine if_neg ?_
 rintro(⟨s,hs,h⟩|⟨s,hs,h⟩)
 ·obtain⟨j,hj,e⟩:=List.getElem_of_mem hs
  have:=h1 j hj s (by rw [List.getElem?_eq_getElem hj,e])
  simp [this] at h
 ·obtain⟨j,hj,e⟩:=List.getElem_of_mem hs
  have:=h2 j hj s (by rw [List.getElem?_eq_getElem hj,e])
  simp [this] at h
theorem Fits.small {g:Gram} (hf:Fits g) {i:Nat} {s:List Nat} (h:(smalls g)[i]?=some s):s.length≤1099511627776:=by
 have:=List.mem_of_getElem? h
 simp only [smalls,List.mem_append,List.mem_singleton] at this
 rcases this with h|rfl
 ·exact Nat.le_trans (hf.tokenS _ h) (by decide)
 ·exact Nat.le_trans hf.sep (by decide)
theorem Fits.name {g:Gram} (hf:Fits g) {i:Nat} {s:List Nat} (h:g.names[i]?=some s):s.length≤1099511627776:=Nat.le_trans (hf.nameS _ (List.mem_of_getElem? h)) (by decide)
end Go.Av
end
noncomputable section
namespace Go.Av
open Go Go.Proofs
set_option maxRecDepth 10000
def rowA (k sz:Nat):List DV→AV
 |[]=>.d .nilsl
 |a :: l=>.sr k sz (a :: l)
def rowO (sz:Nat):List DV→List Ob
 |[]=>[]
 |_ :: l=>[.room (l.length+1) sz]
def prodsTo (g:Gram) (s:Int) (i:Nat):List Nat:=((g.prods.take i).zipIdx.filter (fun q=>decide (q.1.left=s))).map (·.2)
def prodsF (g:Gram) (s:Int):List Nat:=prodsTo g s g.prods.length
theorem prodsTo_succ {g:Gram} {s:Int} {i:Nat} {p:GProd} (h:g.prods[i]?=some p):prodsTo g s (i+1)=prodsTo g s i++(if p.left=s then [i] else []):=by
 have hi:=(List.getElem?_eq_some_iff.1 h).1
 have hl:(g.prods.take i).length=i:=by simp;omega
 simp only [prodsTo]
 rw [List.take_add_one,h,List.zipIdx_append,List.filter_append,List.map_append,hl]
 congr 1
 by_cases hp:p.left=s<;>simp [hp]
end Go.Av
end
noncomputable section
namespace Go.Av
open Go Go.Proofs
set_option maxRecDepth 10000
def goodS (g:Gram) (s:Int):Bool:=isTerm g s || isNonterm g s
def goodP (g:Gram) (p:GProd):Prop:=isNonterm g p.left=true∧∀ s ∈ p.right,goodS g s=true
def symbolsOK (g:Gram):Prop:=isNonterm g g.start=true∧∀ p ∈ g.prods,goodP g p
def orderBad (g:Gram):Prop:=∃ (i:Nat) (p q:GProd),g.prods[i]?=some p∧g.prods[i+1]?=some q∧q.left<p.left
def missing (g:Gram):Prop:=∃ i:Nat,i<g.names.length∧prodsF g (16+i)=[]
open Classical in
def symbolsF (g:Gram):Int:=if symbolsOK g then(if orderBad g then 9 else if missing g then 7 else 0) else 14
end Go.Av
end
noncomputable section
namespace Go.Av
open Go Go.Proofs
set_option maxRecDepth 10000
open Classical in
def checkF (g:Gram):Int:=if g.k<1∨4<g.k then 2 else if manyF g≠0 then manyF g else if g.tokens=[]∨g.names=[] then 5 else if namesF g≠0 then namesF g else symbolsF g
def symName (g:Gram) (s:Int):Option (List Nat):=if 16≤s then g.names[(s-16).toNat]? else if 0≤s then g.tokens[s.toNat]? else none
end Go.Av
end
noncomputable section
namespace Go.Av
open Go Go.Proofs
set_option maxRecDepth 10000
theorem check_parts {g:Gram} (h:checkF g=0):manyF g=0∧g.tokens≠[]∧g.names≠[]∧namesF g=0∧symbolsF g=0:=by
 unfold checkF at h
 split at h
 ·omega
 ·split at h
  ·contradiction
  ·split at h
   ·omega
   ·split at h
    ·contradiction
    ·rename_i h1 h2 h3 h4
     rw [not_or] at h3
     exact⟨Classical.byContradiction h2,h3.1,h3.2,Classical.byContradiction h4,h⟩
theorem symbols_zero {g:Gram} (h:symbolsF g=0):symbolsOK g∧¬ orderBad g∧¬ missing g:=by
 unfold symbolsF at h
 split at h
 ·split at h
  ·omega
  ·split at h
   ·omega
   ·exact⟨by assumption,by assumption,by assumption⟩
 ·omega
def nameS (g:Gram) (s:Int):List Nat:=(symName g s).getD []
end Go.Av
end
noncomputable section
namespace Go.Av
open Go Go.Proofs
set_option maxRecDepth 10000
theorem cutL_all {α:Type} (l:List α):cutL none (some (l.length:Int)) l=l:=by simp [cutL]
def namedG (g:Gram):Int:=if g.tokens=[]∨g.names=[] then 5 else namedF g
theorem namedG_of {g:Gram} (h1:g.tokens≠[]) (h2:g.names≠[]):namedG g=namedF g:=if_neg (by simp [h1,h2])
theorem named (g:Gram) (hf:Fits g):KnownCall Tryz.prog 78 [encG g] (.d (.int .i64 (namedG g))):=by
 have hft:=hf.tokens
 have hfn:=hf.names
 have hsl:(smalls g).length=g.tokens.length+1:=by simp [smalls]
 by_cases h1:g.tokens=[]
 ·have e:namedG g=5:=if_pos (.inl h1)
  rw [e]
  refine knownE Yo (fnAt Tryz.func78 (by kernel_rfl) (by kernel_rfl):FnAt _ _ (mkFn Tryz.f78 [1,28])) ?_
  repeat' (first|refine zW [1,28] ?_|((refine zB [1,28] (fun h=>?_) (fun h=>?_))<;>(first|exact zk h|skip))|refine zX [1,28] ?_|(refine zE ?_;(rfl))|(exfalso;(simp_all<;>fail))|fail)
 ·by_cases h2:g.names=[]
  ·have e:namedG g=5:=if_pos (.inr h2)
   rw [e]
   have h1':g.tokens.length≠0:=by simpa using h1
   refine knownE Yo (fnAt Tryz.func78 (by kernel_rfl) (by kernel_rfl):FnAt _ _ (mkFn Tryz.f78 [1,28])) ?_
   repeat' (first|refine zW [1,28] ?_|((refine zB [1,28] (fun h=>?_) (fun h=>?_))<;>(first|exact zk h|skip))|refine zX [1,28] ?_|(refine zE ?_;(rfl))|(exfalso;(simp_all<;>fail))|fail)
  ·rw [namedG_of h1 h2]
   have h1':g.tokens.length≠0:=by simpa using h1
   have h2':g.names.length≠0:=by simpa using h2
   refine knownE Yo (fnAt Tryz.func78 (by kernel_rfl) (by kernel_rfl):FnAt _ _ (mkFn Tryz.f78 [1,28])) ?_
   repeat' (first|refine zW [1,28] ?_|((refine zB [1,28] (fun h=>?_) (fun h=>?_))<;>(first|exact zk h|skip))|refine zX [1,28] ?_|refine oX (frz:=[1,28]) Yo ?_ (hf:=(by first|(simp [cutC]<;>fail)|(simp [cutC];omega)))|refine eX ?_ (hf:=(by first|(simp [cutC]<;>fail)|(simp [cutC];omega)))|refine oX (frz:=[1,28]) Yo ?_ (hv:=app1) (hf:=rfl) (he:=rfl)|refine eX ?_ (hv:=app1) (hf:=rfl) (he:=rfl)|refine oX (frz:=[1,28]) Yo ?_ (hv:=app0) (hf:=rfl) (he:=rfl)|refine eX ?_ (hv:=app0) (hf:=rfl) (he:=rfl)|(refine zE ?_;(exfalso;(simp_all<;>fail)))|fail)
   first|refine Run.tidy (tidy_of (objs:=_) [(1,(.d (.ep [.int .i64 g.k,strs g.tokens,.str g.sep,strs g.names,.int .i64 g.start,.sl 2 (g.prods.map encP)]))),(29,.d (strs (smalls g))),(30,.d (.int .i64 (smalls g).length)),(31,.d (.int .i64 0))] 0 (Eq.trans (b:=[]) rfl rfl) rfl (by repeat' (first|exact trivial|refine⟨(Or.inl rfl),?_⟩|refine⟨(Or.inr rfl),?_⟩|refine⟨rfl,?_⟩|refine⟨(Or.inr (Eq.trans (b:=some (.d (.sl 1 (cutL none (some ((g.tokens.map DV.str).length:Int)) (g.tokens.map DV.str)++[.str g.sep])))) rfl (by rw [cutL_all];simp [smalls]))),?_⟩|refine⟨(Or.inl (Eq.trans (b:=some (.d (.int .i64 ((cutL none (some ((g.tokens.map DV.str).length:Int)) (g.tokens.map DV.str)++[DV.str g.sep]).length:Nat)))) rfl (by rw [cutL_all];simp [smalls]))),?_⟩|fail)) (by repeat' (first|exact trivial|refine⟨(Or.inl rfl),?_⟩|refine⟨(Or.inr rfl),?_⟩|refine⟨rfl,?_⟩|refine⟨(Or.inr (Eq.trans (b:=some (.d (.sl 1 (cutL none (some ((g.tokens.map DV.str).length:Int)) (g.tokens.map DV.str)++[.str g.sep])))) rfl (by rw [cutL_all];simp [smalls]))),?_⟩|refine⟨(Or.inl (Eq.trans (b:=some (.d (.int .i64 ((cutL none (some ((g.tokens.map DV.str).length:Int)) (g.tokens.map DV.str)++[DV.str g.sep]).length:Nat)))) rfl (by rw [cutL_all];simp [smalls]))),?_⟩|fail)) rfl rfl) ?_|refine RunOps.tidy (tidy_of (objs:=_) [(1,(.d (.ep [.int .i64 g.k,strs g.tokens,.str g.sep,strs g.names,.int .i64 g.start,.sl 2 (g.prods.map encP)]))),(29,.d (strs (smalls g))),(30,.d (.int .i64 (smalls g).length)),(31,.d (.int .i64 0))] 0 (Eq.trans (b:=[]) rfl rfl) rfl (by repeat' (first|exact trivial|refine⟨(Or.inl rfl),?_⟩|refine⟨(Or.inr rfl),?_⟩|refine⟨rfl,?_⟩|refine⟨(Or.inr (Eq.trans (b:=some (.d (.sl 1 (cutL none (some ((g.tokens.map DV.str).length:Int)) (g.tokens.map DV.str)++[.str g.sep])))) rfl (by rw [cutL_all];simp [smalls]))),?_⟩|refine⟨(Or.inl (Eq.trans (b:=some (.d (.int .i64 ((cutL none (some ((g.tokens.map DV.str).length:Int)) (g.tokens.map DV.str)++[DV.str g.sep]).length:Nat)))) rfl (by rw [cutL_all];simp [smalls]))),?_⟩|fail)) (by repeat' (first|exact trivial|refine⟨(Or.inl rfl),?_⟩|refine⟨(Or.inr rfl),?_⟩|refine⟨rfl,?_⟩|refine⟨(Or.inr (Eq.trans (b:=some (.d (.sl 1 (cutL none (some ((g.tokens.map DV.str).length:Int)) (g.tokens.map DV.str)++[.str g.sep])))) rfl (by rw [cutL_all];simp [smalls]))),?_⟩|refine⟨(Or.inl (Eq.trans (b:=some (.d (.int .i64 ((cutL none (some ((g.tokens.map DV.str).length:Int)) (g.tokens.map DV.str)++[DV.str g.sep]).length:Nat)))) rfl (by rw [cutL_all];simp [smalls]))),?_⟩|fail)) rfl rfl) ?_
   refine Run.loop (fun i:Nat=>⟨PT.ofList [(1,(.d (.ep [.int .i64 g.k,strs g.tokens,.str g.sep,strs g.names,.int .i64 g.start,.sl 2 (g.prods.map encP)]))),(29,.d (strs (smalls g))),(30,.d (.int .i64 (smalls g).length)),(31,.d (.int .i64 i))],[],[]⟩) (fun i=>i≤(smalls g).length∧∀ j,j<i→∀ s,(smalls g)[j]?=some s→smallF s=true) (fun i=>(smalls g).length-i) 0 ⟨Nat.zero_le _,fun j hj=>by omega⟩ (weak_of (by repeat' (first|exact trivial|refine⟨rfl,?_⟩))) (fun i hi=>?_)
   obtain⟨hi1,hi2⟩:=hi
   rcases Nat.lt_or_ge i (smalls g).length with hlt|hge
   ·obtain⟨s,hs⟩:=get_ok hlt
    repeat' (first|refine zW [1,28] ?_|((refine zB [1,28] (fun h=>?_) (fun h=>?_))<;>(first|exact zk h|skip))|refine zX [1,28] ?_|refine oX (frz:=[1,28]) (v:=.d (.ep [.str s])) Yo ?_ (hf:=(by first|(simp [inB]<;>fail)|(simp [inB];omega))) (he:=(by first|(simp [List.getD_eq_getElem?_getD,cellsD,hs]<;>fail)|fail))|refine eX (v:=.d (.ep [.str s])) ?_ (hf:=(by first|(simp [inB]<;>fail)|(simp [inB];omega))) (he:=(by first|(simp [List.getD_eq_getElem?_getD,cellsD,hs]<;>fail)|fail))|((refine zK (small _ (hf.small hs)) (fun h=>?_) (fun h=>?_))<;>(first|exact zk h|skip))|refine zC (small _ (hf.small hs)) ?_|(refine zE ?_;(rw [named_small hs (by simp_all)]))|(exact⟨i+1,⟨by omega,all_succ hi2 (fun q hq=>by rw [hs] at hq;cases hq;simp_all)⟩,by omega,weak_of (by repeat' (first|exact trivial|refine⟨rfl,?_⟩|refine⟨(inc_get (k:=i) (by kernel_rfl) (by omega)),?_⟩))⟩)|fail)
   ·repeat' (first|refine zW [1,28] ?_|((refine zB [1,28] (fun h=>?_) (fun h=>?_))<;>(first|exact zk h|skip))|refine zX [1,28] ?_|(refine zE ?_;(skip))|fail)
    refine Run.loop (fun i:Nat=>⟨PT.ofList [(1,(.d (.ep [.int .i64 g.k,strs g.tokens,.str g.sep,strs g.names,.int .i64 g.start,.sl 2 (g.prods.map encP)]))),(40,.d (strs g.names)),(41,.d (.int .i64 (g.names.map DV.str).length)),(42,.d (.int .i64 i))],[],[]⟩) (fun i=>i≤g.names.length∧∀ j,j<i→∀ s,g.names[j]?=some s→capitalF s=true) (fun i=>g.names.length-i) 0 ⟨Nat.zero_le _,fun j hj=>by omega⟩ (weak_of (by repeat' (first|exact trivial|refine⟨rfl,?_⟩))) (fun k hk=>?_)
    obtain⟨hk1,hk2⟩:=hk
    rcases Nat.lt_or_ge k g.names.length with hklt|hkge
    ·obtain⟨s,hs⟩:=get_ok hklt
     repeat' (first|refine zW [1,28] ?_|((refine zB [1,28] (fun h=>?_) (fun h=>?_))<;>(first|exact zk h|skip))|refine zX [1,28] ?_|refine oX (frz:=[1,28]) (v:=.d (.ep [.str s])) Yo ?_ (hf:=(by first|(simp [inB]<;>fail)|(simp [inB];omega))) (he:=(by first|(simp [List.getD_eq_getElem?_getD,cellsD,hs]<;>fail)|fail))|refine eX (v:=.d (.ep [.str s])) ?_ (hf:=(by first|(simp [inB]<;>fail)|(simp [inB];omega))) (he:=(by first|(simp [List.getD_eq_getElem?_getD,cellsD,hs]<;>fail)|fail))|((refine zK (capital _ (hf.name hs)) (fun h=>?_) (fun h=>?_))<;>(first|exact zk h|skip))|refine zC (capital _ (hf.name hs)) ?_|(refine zE ?_;(rw [named_capital hs (by simp_all)]))|(exact⟨k+1,⟨by omega,all_succ hk2 (fun q hq=>by rw [hs] at hq;cases hq;simp_all)⟩,by omega,weak_of (by repeat' (first|exact trivial|refine⟨rfl,?_⟩|refine⟨(inc_get (k:=k) (by kernel_rfl) (by omega)),?_⟩))⟩)|fail)
    ·have h0:namedF g=0:=named_no (fun j hj=>hi2 j (by omega)) (fun j hj=>hk2 j (by omega))
     repeat' (first|refine zW [1,28] ?_|((refine zB [1,28] (fun h=>?_) (fun h=>?_))<;>(first|exact zk h|skip))|refine zX [1,28] ?_|(refine zE ?_;(rw [h0]))|fail)
end Go.Av
end
noncomputable section
namespace Go.Av
open Go Go.Proofs
set_option maxRecDepth 10000
def allN (g:Gram):List (List Nat):=smalls g++g.names
def diffF (g:Gram):Int:=if(allN g).Nodup then 0 else 8
def kvs (l:List (List Nat)):List (DV × DV):=l.map fun s=>(.str s,.bool true)
theorem kvs_pairs (l:List (List Nat)):kvs l=(l.map fun s=>((s,DV.bool true):List Nat × DV)).map fun p=>(.str p.1,p.2):=by simp [kvs]
theorem find_not {E:PT Ty} {t:TypeId} {l:List (List Nat)} {s:List Nat} (h:s ∉ l):findKV (eqKey E t) (.str s) (kvs l)=some none:=by
 rw [kvs_pairs,findKV_str]
 have:(l.map fun s=>((s,DV.bool true):List Nat × DV)).findIdx? (fun p=>p.1 == s)=none:=by
  rw [List.findIdx?_eq_none_iff]
  intro p hp
  simp only [List.mem_map] at hp
  obtain⟨x,hx,rfl⟩:=hp
  simp
  exact fun e=>h (e ▸ hx)
 rw [this];rfl
theorem find_in {E:PT Ty} {t:TypeId} {l:List (List Nat)} {s:List Nat} (h:s ∈ l):∃ j,findKV (eqKey E t) (.str s) (kvs l)=some (some (j,.bool true)):=by
 rw [kvs_pairs,findKV_str]
 cases hf:(l.map fun s=>((s,DV.bool true):List Nat × DV)).findIdx? (fun p=>p.1 == s) with
 |none =>
  rw [List.findIdx?_eq_none_iff] at hf
  have:=hf (s,.bool true) (by simp [h])
  simp at this
 |some j =>
  have hj:j<l.length:=by
   rw [List.findIdx?_eq_some_iff_getElem] at hf
   obtain⟨h1,_⟩:=hf
   simpa using h1
  exact⟨j,by simp [hj]⟩
theorem kvs_app (l:List (List Nat)) (s:List Nat):kvs l++[(.str s,.bool true)]=kvs (l++[s]):=by simp [kvs]
theorem nodup_take {l:List (List Nat)} {i:Nat} {s:List Nat} (h:l[i]?=some s) (hn:(l.take i).Nodup) (hs:s ∉ l.take i):(l.take (i+1)).Nodup:=by
 rw [List.take_add_one,h,List.nodup_append]
 refine⟨hn,by simp,fun a ha b hb=>?_⟩
 simp at hb
 subst hb
 exact fun e=>hs (e ▸ ha)
theorem nodup_not {l:List (List Nat)} {i:Nat} {s:List Nat} (h:l[i]?=some s) (hs:s ∈ l.take i):¬ l.Nodup:=fun hn=>by
 obtain⟨j,hj,e⟩:=List.getElem_of_mem hs
 have hji:j<i:=by simp at hj;omega
 have hi:=(List.getElem?_eq_some_iff.1 h).1
 refine List.pairwise_iff_getElem.1 hn j i (by omega) hi hji ?_
 rw [(List.getElem?_eq_some_iff.1 h).2]
 simpa using e
theorem different (g:Gram) (hf:Fits g):KnownCall Tryz.prog 79 [encG g] (.d (.int .i64 (diffF g))):=by
 have hft:=hf.tokens
 have hfn:=hf.names
 have hal:(allN g).length=g.tokens.length+1+g.names.length:=by simp [allN,smalls];omega
 refine knownE Yo (fnAt Tryz.func79 (by kernel_rfl) (by kernel_rfl):FnAt _ _ (mkFn Tryz.f79 [1,18])) ?_
 repeat' (first|refine zW [1,18] ?_|((refine zB [1,18] (fun h=>?_) (fun h=>?_))<;>(first|exact zk h|skip))|refine zX [1,18] ?_|refine oX (frz:=[1,18]) Yo ?_ (hf:=(by first|(simp [cutC]<;>fail)|(simp [cutC];omega)))|refine eX ?_ (hf:=(by first|(simp [cutC]<;>fail)|(simp [cutC];omega)))|refine oX (frz:=[1,18]) Yo ?_ (hv:=app1) (hf:=rfl) (he:=rfl)|refine eX ?_ (hv:=app1) (hf:=rfl) (he:=rfl)|refine oX (frz:=[1,18]) Yo ?_ (hv:=app0) (hf:=rfl) (he:=rfl)|refine eX ?_ (hv:=app0) (hf:=rfl) (he:=rfl)|(refine zE ?_;(skip))|fail)
 first|refine Run.tidy (tidy_of (objs:=_) [(1,(.d (.ep [.int .i64 g.k,strs g.tokens,.str g.sep,strs g.names,.int .i64 g.start,.sl 2 (g.prods.map encP)]))),(3,.mp 0),(22,.d (strs (allN g))),(23,.d (.int .i64 (allN g).length)),(24,.d (.int .i64 0))] 1 (Eq.trans (b:=[.map []]) rfl rfl) rfl (by repeat' (first|exact trivial|refine⟨(Or.inl rfl),?_⟩|refine⟨(Or.inr rfl),?_⟩|refine⟨rfl,?_⟩|refine⟨(Or.inr (Eq.trans (b:=some (.d (.sl 1 (cutL none (some ((g.tokens.map DV.str).length:Int)) (g.tokens.map DV.str)++[.str g.sep]++g.names.map .str)))) rfl (by rw [cutL_all];simp [allN,smalls]))),?_⟩|refine⟨(Or.inl (Eq.trans (b:=some (.d (.int .i64 ((cutL none (some ((g.tokens.map DV.str).length:Int)) (g.tokens.map DV.str)++[DV.str g.sep]++g.names.map DV.str).length:Nat)))) rfl (congrArg (fun n:Nat=>some (AV.d (DV.int .i64 n))) (by rw [cutL_all,hal];simp<;>omega)))),?_⟩|fail)) (by repeat' (first|exact trivial|refine⟨(Or.inl rfl),?_⟩|refine⟨(Or.inr rfl),?_⟩|refine⟨rfl,?_⟩|refine⟨(Or.inr (Eq.trans (b:=some (.d (.sl 1 (cutL none (some ((g.tokens.map DV.str).length:Int)) (g.tokens.map DV.str)++[.str g.sep]++g.names.map .str)))) rfl (by rw [cutL_all];simp [allN,smalls]))),?_⟩|refine⟨(Or.inl (Eq.trans (b:=some (.d (.int .i64 ((cutL none (some ((g.tokens.map DV.str).length:Int)) (g.tokens.map DV.str)++[DV.str g.sep]++g.names.map DV.str).length:Nat)))) rfl (congrArg (fun n:Nat=>some (AV.d (DV.int .i64 n))) (by rw [cutL_all,hal];simp<;>omega)))),?_⟩|fail)) rfl rfl) ?_|refine RunOps.tidy (tidy_of (objs:=_) [(1,(.d (.ep [.int .i64 g.k,strs g.tokens,.str g.sep,strs g.names,.int .i64 g.start,.sl 2 (g.prods.map encP)]))),(3,.mp 0),(22,.d (strs (allN g))),(23,.d (.int .i64 (allN g).length)),(24,.d (.int .i64 0))] 1 (Eq.trans (b:=[.map []]) rfl rfl) rfl (by repeat' (first|exact trivial|refine⟨(Or.inl rfl),?_⟩|refine⟨(Or.inr rfl),?_⟩|refine⟨rfl,?_⟩|refine⟨(Or.inr (Eq.trans (b:=some (.d (.sl 1 (cutL none (some ((g.tokens.map DV.str).length:Int)) (g.tokens.map DV.str)++[.str g.sep]++g.names.map .str)))) rfl (by rw [cutL_all];simp [allN,smalls]))),?_⟩|refine⟨(Or.inl (Eq.trans (b:=some (.d (.int .i64 ((cutL none (some ((g.tokens.map DV.str).length:Int)) (g.tokens.map DV.str)++[DV.str g.sep]++g.names.map DV.str).length:Nat)))) rfl (congrArg (fun n:Nat=>some (AV.d (DV.int .i64 n))) (by rw [cutL_all,hal];simp<;>omega)))),?_⟩|fail)) (by repeat' (first|exact trivial|refine⟨(Or.inl rfl),?_⟩|refine⟨(Or.inr rfl),?_⟩|refine⟨rfl,?_⟩|refine⟨(Or.inr (Eq.trans (b:=some (.d (.sl 1 (cutL none (some ((g.tokens.map DV.str).length:Int)) (g.tokens.map DV.str)++[.str g.sep]++g.names.map .str)))) rfl (by rw [cutL_all];simp [allN,smalls]))),?_⟩|refine⟨(Or.inl (Eq.trans (b:=some (.d (.int .i64 ((cutL none (some ((g.tokens.map DV.str).length:Int)) (g.tokens.map DV.str)++[DV.str g.sep]++g.names.map DV.str).length:Nat)))) rfl (congrArg (fun n:Nat=>some (AV.d (DV.int .i64 n))) (by rw [cutL_all,hal];simp<;>omega)))),?_⟩|fail)) rfl rfl) ?_
 refine Run.loop (fun i:Nat=>⟨PT.ofList [(1,(.d (.ep [.int .i64 g.k,strs g.tokens,.str g.sep,strs g.names,.int .i64 g.start,.sl 2 (g.prods.map encP)]))),(3,.mp 0),(22,.d (strs (allN g))),(23,.d (.int .i64 (allN g).length)),(24,.d (.int .i64 i))],[.map (kvs ((allN g).take i))],[]⟩) (fun i=>i≤(allN g).length∧((allN g).take i).Nodup) (fun i=>(allN g).length-i) 0 ⟨Nat.zero_le _,by simp⟩ (weak_of' rfl rfl (by repeat' (first|exact trivial|refine⟨rfl,?_⟩))) (fun i hi=>?_)
 obtain⟨hi1,hi2⟩:=hi
 rcases Nat.lt_or_ge i (allN g).length with hlt|hge
 ·obtain⟨s,hs⟩:=get_ok hlt
  by_cases hm:s ∈ (allN g).take i
  ·obtain⟨j,hj⟩:=find_in (E:=Et) (t:=9) hm
   repeat' (first|refine zW [1,18] ?_|((refine zB [1,18] (fun h=>?_) (fun h=>?_))<;>(first|exact zk h|skip))|refine zX [1,18] ?_|refine oX (frz:=[1,18]) (v:=.d (.ep [.str s])) Yo ?_ (hf:=(by first|(simp [inB]<;>fail)|(simp [inB];omega))) (he:=(by first|(simp [List.getD_eq_getElem?_getD,cellsD,hs]<;>fail)|fail))|refine eX (v:=.d (.ep [.str s])) ?_ (hf:=(by first|(simp [inB]<;>fail)|(simp [inB];omega))) (he:=(by first|(simp [List.getD_eq_getElem?_getD,cellsD,hs]<;>fail)|fail))|refine RunOps.x (frz:=[1,18]) Yo (by rfl) (evAny_lookup (by rfl) (by rfl) (by rfl) (by rfl) (by rfl) (by rfl) (by rfl) (by rfl) (by rfl) hj (by rfl)) rfl (v:=.d (.bool true)) rfl rfl (by rfl) (by rfl) ?_|(refine zE ?_;(rw [diffF,if_neg (nodup_not hs hm)]))|fail)
  ·have hj:=find_not (E:=Et) (t:=9) hm
   repeat' (first|refine zW [1,18] ?_|((refine zB [1,18] (fun h=>?_) (fun h=>?_))<;>(first|exact zk h|skip))|refine zX [1,18] ?_|refine oX (frz:=[1,18]) (v:=.d (.ep [.str s])) Yo ?_ (hf:=(by first|(simp [inB]<;>fail)|(simp [inB];omega))) (he:=(by first|(simp [List.getD_eq_getElem?_getD,cellsD,hs]<;>fail)|fail))|refine eX (v:=.d (.ep [.str s])) ?_ (hf:=(by first|(simp [inB]<;>fail)|(simp [inB];omega))) (he:=(by first|(simp [List.getD_eq_getElem?_getD,cellsD,hs]<;>fail)|fail))|refine RunOps.x (frz:=[1,18]) Yo (by rfl) (evAny_lookup (by rfl) (by rfl) (by rfl) (by rfl) (by rfl) (by rfl) (by rfl) (by rfl) (by rfl) hj (by rfl)) rfl (v:=.d (.bool false)) rfl rfl (by rfl) (by rfl) ?_|refine RunOps.x (frz:=[1,18]) Yo (by rfl) (evAny_mapUpdate (by rfl) (by rfl) (by rfl) (by rfl) (by rfl) (by rfl) (by rfl) (by rfl) (by rfl) hj) rfl rfl rfl (by rfl) (by rfl) ?_|(refine zE ?_;(skip))|(refine⟨i+1,⟨by omega,nodup_take hs hi2 hm⟩,by omega,weak_of' (by rw [List.take_add_one,hs];exact congrArg (fun q=>[Ob.map q]) (kvs_app _ _).symm) rfl (by repeat' (first|exact trivial|refine⟨rfl,?_⟩|refine⟨(inc_get (k:=i) (by kernel_rfl) (by omega)),?_⟩))⟩)|fail)
 ·have hnd:(allN g).Nodup:=by rw [List.take_of_length_le hge] at hi2;exact hi2
  repeat' (first|refine zW [1,18] ?_|((refine zB [1,18] (fun h=>?_) (fun h=>?_))<;>(first|exact zk h|skip))|refine zX [1,18] ?_|(refine zE ?_;(rw [diffF,if_pos hnd]))|fail)
end Go.Av
end
noncomputable section
namespace Go.Av
open Go Go.Proofs
set_option maxRecDepth 10000
def idxP {α:Type} (l:List α) (p:α→Bool):Int:=if l.any p then(l.findIdx p:Nat) else -1
theorem idxP_at {α:Type} {l:List α} {p:α→Bool} {i:Nat} {x:α} (h:l[i]?=some x) (hx:p x=true) (hb:∀ j,j<i→∀ y,l[j]?=some y→p y=false):idxP l p=i:=by
 have hm:=List.mem_of_getElem? h
 have ha:l.any p=true:=List.any_eq_true.2 ⟨x,hm,hx⟩
 rw [idxP,if_pos ha]
 have h1:l.findIdx p<l.length:=List.findIdx_lt_length_of_exists ⟨x,hm,hx⟩
 have h2:=List.findIdx_getElem (w:=h1)
 have h3:¬ l.findIdx p<i:=fun hlt=>by
  have:=hb _ hlt _ (List.getElem?_eq_getElem h1)
  rw [this] at h2;cases h2
 have h4:¬ i<l.findIdx p:=fun hlt=>by
  have h5:=List.not_of_lt_findIdx hlt
  rw [(List.getElem?_eq_some_iff.1 h).2] at h5
  simp [hx] at h5
 omega
theorem idxP_none {α:Type} {l:List α} {p:α→Bool} (hb:∀ j,j<l.length→∀ y,l[j]?=some y→p y=false):idxP l p=-1:=by
 rw [idxP,if_neg]
 intro ha
 obtain⟨x,hx,hp⟩:=List.any_eq_true.1 ha
 obtain⟨j,hj,e⟩:=List.getElem_of_mem hx
 have:=hb j hj x (by rw [List.getElem?_eq_getElem hj,e])
 rw [this] at hp;cases hp
theorem idxP_any {α:Type} (l:List α) (p:α→Bool):decide (0≤idxP l p)=l.any p:=by
 unfold idxP
 cases h:l.any p<;>simp
theorem indexFuncInts (l:List Int) (hl:l.length≤1099511627776) (F:FuncId) (caps:List DV) (p:Int→Bool) (hp:∀ x ∈ l,KnownCall Tryz.prog F ((.int .i64 x) :: caps) (.d (.bool (p x)))) :
  KnownCall Tryz.prog 222 [(.sl 1 (l.map (.int .i64))),.fn (.func F) [] caps] (.d (.int .i64 (idxP l p))):=by
 refine knownE Yo (fnAt Tryz.func222 (by kernel_rfl) (by kernel_rfl):FnAt _ _ (mkFn Tryz.f222 [])) ?_
 repeat' (first|refine zW [] ?_|((refine zB [] (fun h=>?_) (fun h=>?_))<;>(first|exact zk h|skip))|refine zX [] ?_|(refine zE ?_;(skip))|fail)
 refine Run.loop (fun i:Nat=>⟨PT.ofList [(0,.d (.sl 1 (l.map (.int .i64)))),(1,.d (.fn (.func F) [] caps)),(7,.d (.int .i64 l.length)),(8,.d (.int .i64 i))],[],[]⟩) (fun i=>i≤l.length∧∀ j,j<i→∀ y,l[j]?=some y→p y=false) (fun i=>l.length-i) 0 ⟨Nat.zero_le _,fun j hj=>by omega⟩ (weak_of (by repeat' (first|exact trivial|refine⟨rfl,?_⟩|refine⟨Eq.trans (b:=some (.d (.int .i64 (l.map _).length))) rfl (by rw [List.length_map]),?_⟩|fail))) (fun i hi=>?_)
 obtain⟨hi1,hi2⟩:=hi
 rcases Nat.lt_or_ge i l.length with hlt|hge
 ·obtain⟨x,hx⟩:=get_ok hlt
  have hc:=hp x (List.mem_of_getElem? hx)
  repeat' (first|refine zW [] ?_|((refine zB [] (fun h=>?_) (fun h=>?_))<;>(first|exact zk h|skip))|refine zX [] ?_|refine oX (frz:=[]) (v:=.d (.ep [.int .i64 x])) Yo ?_ (hf:=(by first|(simp [inB]<;>fail)|(simp [inB];omega))) (he:=(by first|(simp [List.getD_eq_getElem?_getD,cellsD,hx]<;>fail)|fail))|refine eX (v:=.d (.ep [.int .i64 x])) ?_ (hf:=(by first|(simp [inB]<;>fail)|(simp [inB];omega))) (he:=(by first|(simp [List.getD_eq_getElem?_getD,cellsD,hx]<;>fail)|fail))|((refine zK (hc) (fun h=>?_) (fun h=>?_))<;>(first|exact zk h|skip))|refine zC (hc) ?_|(refine zE ?_;(rw [idxP_at hx (by simp_all) hi2]))|(exact⟨i+1,⟨by omega,all_succ hi2 (fun q hq=>by rw [hx] at hq;cases hq;simp_all)⟩,by omega,weak_of (by repeat' (first|exact trivial|refine⟨rfl,?_⟩|refine⟨(inc_get (k:=i) (by kernel_rfl) (by omega)),?_⟩))⟩)|fail)
 ·have hge:i=l.length:=by omega
  repeat' (first|refine zW [] ?_|((refine zB [] (fun h=>?_) (fun h=>?_))<;>(first|exact zk h|skip))|refine zX [] ?_|(refine zE ?_;(rw [idxP_none (fun j hj=>hi2 j (by omega))]))|fail)
theorem containsFuncInts (l:List Int) (hl:l.length≤1099511627776) (F:FuncId) (caps:List DV) (p:Int→Bool) (hp:∀ x ∈ l,KnownCall Tryz.prog F ((.int .i64 x) :: caps) (.d (.bool (p x)))) :
  KnownCall Tryz.prog 168 [(.sl 1 (l.map (.int .i64))),.fn (.func F) [] caps] (.d (.bool (l.any p))):=by
 refine knownE Yo (fnAt Tryz.func168 (by kernel_rfl) (by kernel_rfl):FnAt _ _ (mkFn Tryz.f168 [])) ?_
 have e:=idxP_any l p
 repeat' (first|refine zW [] ?_|((refine zB [] (fun h=>?_) (fun h=>?_))<;>(first|exact zk h|skip))|refine zX [] ?_|((refine zK (indexFuncInts _ hl _ _ _ hp) (fun h=>?_) (fun h=>?_))<;>(first|exact zk h|skip))|refine zC (indexFuncInts _ hl _ _ _ hp) ?_|(refine zE ?_;(first|(rw [← e]<;>simp_all<;>fail)|fail))|fail)
end Go.Av
end
noncomputable section
namespace Go.Av
open Go Go.Proofs
set_option maxRecDepth 10000
theorem prodsF_nil (g:Gram) (s:Int):prodsF g s=[] ↔ g.prods.any (fun p=>decide (p.left=s))=false:=by
 simp only [prodsF,prodsTo,List.take_length,List.map_eq_nil_iff,List.filter_eq_nil_iff,List.any_eq_false,decide_eq_true_eq]
 refine⟨fun h p hp=>?_,fun h q hq=>h q.1 (by have:=List.fst_mem_of_mem_zipIdx hq;exact this)⟩
 obtain⟨j,hj,e⟩:=List.getElem_of_mem hp
 exact h (p,j) (by rw [List.mem_zipIdx_iff_getElem?];rw [List.getElem?_eq_getElem hj,e])
theorem indexFuncA (l:List GProd) (hl:l.length≤1099511627776) (F:FuncId) (caps:List AV) (objs:List Ob) (p:GProd→Bool) (hp:∀ x ∈ l,ACall Tryz.prog F (.d (encP x) :: caps) objs (.d (.bool (p x))) objs) :
  ACall Tryz.prog 223 [.d (.sl 2 (l.map encP)),.fn (.func F) [] caps] objs (.d (.int .i64 (idxP l p))) objs:=by
 refine acall_of_run Yo (fnAt Tryz.func223 (by kernel_rfl) (by kernel_rfl):FnAt _ _ (mkFn Tryz.f223 [])) rfl rfl ?_
 repeat' (first|refine zW [] ?_|((refine zB [] (fun h=>?_) (fun h=>?_))<;>(first|exact zk h|skip))|refine zX [] ?_|(refine zE ?_;(skip))|fail)
 refine Run.loop (fun i:Nat=>⟨PT.ofList [(0,.d (.sl 2 (l.map encP))),(1,.fn (.func F) [] caps),(7,.d (.int .i64 l.length)),(8,.d (.int .i64 i))],objs,[]⟩) (fun i=>i≤l.length∧∀ j,j<i→∀ y,l[j]?=some y→p y=false) (fun i=>l.length-i) 0 ⟨Nat.zero_le _,fun j hj=>by omega⟩ (weak_of (by repeat' (first|exact trivial|refine⟨rfl,?_⟩|refine⟨Eq.trans (b:=some (.d (.int .i64 (l.map _).length))) rfl (by rw [List.length_map]),?_⟩|fail))) (fun i hi=>?_)
 obtain⟨hi1,hi2⟩:=hi
 rcases Nat.lt_or_ge i l.length with hlt|hge
 ·obtain⟨x,hx⟩:=get_ok hlt
  have hc:=hp x (List.mem_of_getElem? hx)
  cases hpx:p x with
  |true =>
   rw [hpx] at hc
   repeat' (first|refine zW [] ?_|((refine zB [] (fun h=>?_) (fun h=>?_))<;>(first|exact zk h|skip))|refine zX [] ?_|refine oX (frz:=[]) (v:=.d (.ep [.int .i64 x.left,ints x.right])) Yo ?_ (hf:=(by first|(simp [inB]<;>fail)|(simp [inB];omega))) (he:=(by first|(simp [List.getD_eq_getElem?_getD,cellsD,hx,encP]<;>fail)|fail))|refine eX (v:=.d (.ep [.int .i64 x.left,ints x.right])) ?_ (hf:=(by first|(simp [inB]<;>fail)|(simp [inB];omega))) (he:=(by first|(simp [List.getD_eq_getElem?_getD,cellsD,hx,encP]<;>fail)|fail))|refine RunOps.call (by rfl) (by rfl) hc (by rfl) (by rfl) ?_|(refine zE ?_;(skip))|fail)
   refine Yt ?_
   refine⟨trivial,rfl,?_⟩
   rw [idxP_at hx hpx hi2];rfl
  |false =>
   rw [hpx] at hc
   repeat' (first|refine zW [] ?_|((refine zB [] (fun h=>?_) (fun h=>?_))<;>(first|exact zk h|skip))|refine zX [] ?_|refine oX (frz:=[]) (v:=.d (.ep [.int .i64 x.left,ints x.right])) Yo ?_ (hf:=(by first|(simp [inB]<;>fail)|(simp [inB];omega))) (he:=(by first|(simp [List.getD_eq_getElem?_getD,cellsD,hx,encP]<;>fail)|fail))|refine eX (v:=.d (.ep [.int .i64 x.left,ints x.right])) ?_ (hf:=(by first|(simp [inB]<;>fail)|(simp [inB];omega))) (he:=(by first|(simp [List.getD_eq_getElem?_getD,cellsD,hx,encP]<;>fail)|fail))|refine RunOps.call (by rfl) (by rfl) hc (by rfl) (by rfl) ?_|(refine zE ?_;(skip))|(exact⟨i+1,⟨by omega,all_succ hi2 (fun q hq=>by rw [hx] at hq;cases hq;exact hpx)⟩,by omega,weak_of (by repeat' (first|exact trivial|refine⟨rfl,?_⟩|refine⟨(inc_get (k:=i) (by kernel_rfl) (by omega)),?_⟩))⟩)|fail)
 ·have hge:i=l.length:=by omega
  repeat' (first|refine zW [] ?_|((refine zB [] (fun h=>?_) (fun h=>?_))<;>(first|exact zk h|skip))|refine zX [] ?_|(refine zE ?_;(skip))|fail)
  refine Yt ?_
  refine⟨trivial,rfl,?_⟩
  rw [idxP_none (fun j hj=>hi2 j (by omega))];rfl
theorem containsFuncA (l:List GProd) (hl:l.length≤1099511627776) (F:FuncId) (caps:List AV) (objs:List Ob) (p:GProd→Bool) (hp:∀ x ∈ l,ACall Tryz.prog F (.d (encP x) :: caps) objs (.d (.bool (p x))) objs) :
  ACall Tryz.prog 170 [.d (.sl 2 (l.map encP)),.fn (.func F) [] caps] objs (.d (.bool (l.any p))) objs:=by
 refine acall_of_run Yo (fnAt Tryz.func170 (by kernel_rfl) (by kernel_rfl):FnAt _ _ (mkFn Tryz.f170 [])) rfl rfl ?_
 repeat refine zA [] ?_
 refine RunOps.call (by rfl) (by rfl) (indexFuncA l hl F caps objs p hp) (by rfl) (by rfl) ?_
 repeat refine zA [] ?_
 refine Yt ?_
 refine⟨trivial,rfl,Eq.trans (b:=some (.d (.bool (decide (idxP l p ≥ 0))))) (by kernel_rfl) ?_⟩
 rw [show decide (idxP l p ≥ 0)=l.any p from idxP_any l p]
theorem complete1 (p:GProd) (i:Nat) (hi:i≤1048576):ACall Tryz.prog 171 [.d (encP p),.bp 0 0] [.box [.d (.int .i64 i)]] (.d (.bool (decide (p.left=16+(i:Int))))) [.box [.d (.int .i64 i)]]:=by
 have hw:IntKind.i64.wrap (16+(i:Int))=16+i:=wrap64 (by omega) (by omega)
 refine acall_of_run Yo (fnAt Tryz.func171 (by kernel_rfl) (by kernel_rfl):FnAt _ _ (mkFn Tryz.f171 [2])) rfl rfl ?_
 repeat refine zA [2] ?_
 refine Yt ?_
 refine⟨trivial,rfl,Eq.trans (b:=some (.d (.bool (p.left == IntKind.i64.wrap (16+(i:Int)))))) (by kernel_rfl) ?_⟩
 rw [hw]
 congr 3
open Classical in
def completeF (g:Gram):Int:=if missing g then 7 else 0
theorem complete (g:Gram) (hf:Fits g):KnownCall Tryz.prog 82 [encG g] (.d (.int .i64 (completeF g))):=by
 have hfp:=hf.prods
 have hfn:=hf.names
 refine knownE Yo (fnAt Tryz.func82 (by kernel_rfl) (by kernel_rfl):FnAt _ _ (mkFn Tryz.f82 [1])) ?_
 repeat' (first|refine zW [1] ?_|((refine zB [1] (fun h=>?_) (fun h=>?_))<;>(first|exact zk h|skip))|refine zX [1] ?_|(refine zE ?_;(skip))|fail)
 refine Run.loopT (fun i:Nat=>⟨PT.ofList [(1,(.d (.ep [.int .i64 g.k,strs g.tokens,.str g.sep,strs g.names,.int .i64 g.start,.sl 2 (g.prods.map encP)]))),(6,.d (.int .i64 (g.names.map DV.str).length)),(7,.d (.int .i64 i))],[],[]⟩) (fun i=>i≤g.names.length∧∀ j:Nat,j<i→prodsF g (16+j)≠[]) (fun i=>g.names.length-i) 0 ⟨Nat.zero_le _,fun j hj=>by omega⟩ (tidy_of (objs:=_) _ 0 (by rfl) rfl (by repeat' (first|exact trivial|refine⟨(Or.inl rfl),?_⟩|refine⟨(Or.inr rfl),?_⟩|fail)) (by repeat' (first|exact trivial|refine⟨rfl,?_⟩|fail)) rfl rfl) (fun i hi=>?_)
 obtain⟨hi1,hi2⟩:=hi
 rcases Nat.lt_or_ge i g.names.length with hlt|hge
 ·have hc:=containsFuncA g.prods (by omega) 171 [.bp 0 0] [.box [.d (.int .i64 i)]] (fun p=>decide (p.left=16+(i:Int))) (fun x _=>complete1 x i (by omega))
  cases hpx:g.prods.any (fun p=>decide (p.left=16+(i:Int))) with
  |true =>
   rw [hpx] at hc
   repeat' (first|refine zW [1] ?_|((refine zB [1] (fun h=>?_) (fun h=>?_))<;>(first|exact zk h|skip))|refine zX [1] ?_|refine RunOps.call (by rfl) (by rfl) hc (by rfl) (by rfl) ?_|(refine zE ?_;(skip))|(exact⟨i+1,⟨by omega,all_succ hi2 (fun e=>by rw [prodsF_nil,hpx] at e;cases e)⟩,by omega,(tidy_of (objs:=_) _ 0 (by rfl) rfl (by repeat' (first|exact trivial|refine⟨(Or.inl rfl),?_⟩|refine⟨(Or.inl (inc_get (k:=i) (by kernel_rfl) (by omega))),?_⟩|refine⟨(Or.inr rfl),?_⟩|fail)) (by repeat' (first|exact trivial|refine⟨rfl,?_⟩|fail)) rfl rfl)⟩)|fail)
  |false =>
   rw [hpx] at hc
   have hm:missing g:=⟨i,hlt,by rw [prodsF_nil];exact hpx⟩
   repeat' (first|refine zW [1] ?_|((refine zB [1] (fun h=>?_) (fun h=>?_))<;>(first|exact zk h|skip))|refine zX [1] ?_|refine RunOps.call (by rfl) (by rfl) hc (by rfl) (by rfl) ?_|(refine zE ?_;(rw [completeF,if_pos hm]))|fail)
 ·have hm:¬ missing g:=fun⟨j,h1,h2⟩=>hi2 j (by omega) h2
  repeat' (first|refine zW [1] ?_|((refine zB [1] (fun h=>?_) (fun h=>?_))<;>(first|exact zk h|skip))|refine zX [1] ?_|(refine zE ?_;(rw [completeF,if_neg hm]))|fail)
end Go.Av
end
noncomputable section
namespace Go.Av
open Go Go.Proofs
set_option maxRecDepth 10000
abbrev cellG (g:Gram):DV:=.ep [.int .i64 g.k,strs g.tokens,.str g.sep,strs g.names,.int .i64 g.start,.sl 2 (g.prods.map encP)]
theorem symbols1 (g:Gram) (s:Int) (hf:Fits g):KnownCall Tryz.prog 169 [.int .i64 s,cellG g] (.d (.bool (!goodS g s))):=by
 refine knownE Yo (fnAt Tryz.func169 (by kernel_rfl) (by kernel_rfl):FnAt _ _ (mkFn Tryz.f169 [])) ?_
 repeat' (first|refine zW [] ?_|((refine zB [] (fun h=>?_) (fun h=>?_))<;>(first|exact zk h|skip))|refine zX [] ?_|((refine zK (terminal g _) (fun h=>?_) (fun h=>?_))<;>(first|exact zk h|skip))|refine zC (terminal g _) ?_|((refine zK (nonterminal g _ hf) (fun h=>?_) (fun h=>?_))<;>(first|exact zk h|skip))|refine zC (nonterminal g _ hf) ?_|(refine zE ?_;(first|(simp_all [goodS]<;>fail)|(simp_all [goodS];omega)))|fail)
open Classical in
def badP (g:Gram) (p:GProd):Bool:=!isNonterm g p.left || p.right.any (fun s=>!goodS g s)
theorem badP_iff (g:Gram) (p:GProd):badP g p=false ↔ goodP g p:=by
 simp only [badP,goodP,Bool.or_eq_false_iff,Bool.not_eq_false',List.any_eq_false]
 refine and_congr Iff.rfl (forall_congr' fun s=>forall_congr' fun _=>?_)
 simp
open Classical in
def symsG (g:Gram):Int:=if symbolsOK g then 0 else 14
theorem symbols (g:Gram) (hf:Fits g):KnownCall Tryz.prog 80 [encG g] (.d (.int .i64 (symsG g))):=by
 have hfp:=hf.prods
 cases hst:isNonterm g g.start with
 |false =>
  have e:symsG g=14:=by unfold symsG;rw [if_neg];exact fun h=>by rw [h.1] at hst;cases hst
  rw [e]
  have hc:=nonterminal g g.start hf
  rw [hst] at hc
  refine knownE Yo (fnAt Tryz.func80 (by kernel_rfl) (by kernel_rfl):FnAt _ _ (mkFn Tryz.f80 [1])) ?_
  repeat' (first|refine zW [1] ?_|((refine zB [1] (fun h=>?_) (fun h=>?_))<;>(first|exact zk h|skip))|refine zX [1] ?_|((refine zK (hc) (fun h=>?_) (fun h=>?_))<;>(first|exact zk h|skip))|refine zC (hc) ?_|(refine zE ?_;(rfl))|fail)
 |true =>
  have hc:=nonterminal g g.start hf
  rw [hst] at hc
  refine knownE Yo (fnAt Tryz.func80 (by kernel_rfl) (by kernel_rfl):FnAt _ _ (mkFn Tryz.f80 [1])) ?_
  repeat' (first|refine zW [1] ?_|((refine zB [1] (fun h=>?_) (fun h=>?_))<;>(first|exact zk h|skip))|refine zX [1] ?_|refine zC (hc) ?_|((refine zK (prodsOf g) (fun h=>?_) (fun h=>?_))<;>(first|exact zk h|skip))|refine zC (prodsOf g) ?_|(refine zE ?_;(rfl))|fail)
  obtain⟨n,hn⟩:∃ n,n=g.prods.findIdx (fun p=>badP g p):=⟨_,rfl⟩
  have hidx:n≤g.prods.length:=by rw [hn];exact List.findIdx_le_length
  have hcase:n<g.prods.length∨n=g.prods.length:=by omega
  refine Run.rangeProds (frz:=[1]) 1 (fun _=>[.box [.d (.int .i64 0)]]) g.prods (Nat.le_trans hf.prods (by decide)) (by rfl) (fun _=>rfl) (fun _=>rfl) (by kernel_rfl) n hidx (fun k p hk hp=>?_) ?_
  ·have hgood:badP g p=false:=by
    rw [hn] at hk
    have:=List.not_of_lt_findIdx hk
    have e:g.prods[k]=p:=by rw [List.getElem?_eq_some_iff] at hp;exact hp.2
    simpa [e] using this
   have hpr:=hf.rights p (List.mem_of_getElem? hp)
   have hg:=(badP_iff g p).1 hgood
   have hnt:=nonterminal g p.left hf
   rw [hg.1] at hnt
   have hcf:=containsFuncInts p.right (by omega) 169 [cellG g] (fun s=>!goodS g s) (fun s _=>symbols1 g s hf)
   rw [show p.right.any (fun s=>!goodS g s)=false from by simp only [badP,Bool.or_eq_false_iff] at hgood;exact hgood.2] at hcf
   refine ayield_of_run (i:=2) (by rfl) (by rfl) (by rfl) ?_
   repeat refine zA [1] ?_
   refine⟨rfl,_,_,_,_,_,_,_,by rfl,?_⟩
   refine Run.less ?_
   repeat' (first|refine zW [1] ?_|((refine zB [1] (fun h=>?_) (fun h=>?_))<;>(first|exact zk h|skip))|refine zX [1] ?_|refine zC (hnt) ?_|refine zC (hcf) ?_|(exact⟨rfl,_,less_of [] 3 rfl (by rfl) trivial trivial (by kernel_rfl) rfl,_,_,_,_,_,_,_,_,by rfl,rfl,by rfl⟩)|fail)
  ·rcases hcase with hlt|hge
   ·obtain⟨p,hp⟩:=get_ok hlt
    have hbad:badP g p=true:=by
     rw [hn] at hp hlt
     have:=List.findIdx_getElem (p:=fun p:GProd=>badP g p) (xs:=g.prods) (w:=hlt)
     have e:g.prods[g.prods.findIdx fun p=>badP g p]=p:=by rw [List.getElem?_eq_some_iff] at hp;exact hp.2
     rw [e] at this
     simpa using this
    have hpr:=hf.rights p (List.mem_of_getElem? hp)
    have e:symsG g=14:=by
     unfold symsG
     rw [if_neg]
     intro h
     have:=(badP_iff g p).2 (h.2 p (List.mem_of_getElem? hp))
     rw [hbad] at this;cases this
    rw [e]
    have hcf:=containsFuncInts p.right (by omega) 169 [cellG g] (fun s=>!goodS g s) (fun s _=>symbols1 g s hf)
    refine .inr ⟨p,[.box [.d (.int .i64 14)]],hp,rfl,.inl ⟨?_,?_⟩⟩
    ·cases hl:isNonterm g p.left with
     |false =>
      have hnt:=nonterminal g p.left hf
      rw [hl] at hnt
      refine ayield_of_run (i:=2) (by rfl) (by rfl) (by rfl) ?_
      repeat refine zA [1] ?_
      refine⟨rfl,_,_,_,_,_,_,_,by rfl,?_⟩
      refine Run.less ?_
      repeat' (first|refine zW [1] ?_|((refine zB [1] (fun h=>?_) (fun h=>?_))<;>(first|exact zk h|skip))|refine zX [1] ?_|refine zC (hnt) ?_|((refine Yt ?_;exact⟨rfl,_,less_of [] 3 rfl (by rfl) trivial trivial (by kernel_rfl) rfl,_,_,_,_,_,_,_,_,by rfl,rfl,by rfl⟩))|fail)
     |true =>
      have hnt:=nonterminal g p.left hf
      rw [hl] at hnt
      rw [show p.right.any (fun s=>!goodS g s)=true from by simpa [badP,hl] using hbad] at hcf
      refine ayield_of_run (i:=2) (by rfl) (by rfl) (by rfl) ?_
      repeat refine zA [1] ?_
      refine⟨rfl,_,_,_,_,_,_,_,by rfl,?_⟩
      refine Run.less ?_
      repeat' (first|refine zW [1] ?_|((refine zB [1] (fun h=>?_) (fun h=>?_))<;>(first|exact zk h|skip))|refine zX [1] ?_|refine zC (hnt) ?_|refine zC (hcf) ?_|((refine Yt ?_;exact⟨rfl,_,less_of [] 3 rfl (by rfl) trivial trivial (by kernel_rfl) rfl,_,_,_,_,_,_,_,_,by rfl,rfl,by rfl⟩))|fail)
    ·refine⟨trivial,_,_,by rfl,by rfl,Eq.trans (b:=some (.d (.int .i64 14))) (by kernel_rfl) ?_⟩
     rfl
   ·have e:symsG g=0:=by
     unfold symsG
     rw [if_pos]
     refine⟨hst,fun p hp=>(badP_iff g p).1 ?_⟩
     cases hb:badP g p with
     |false=>rfl
     |true =>
      have:=List.findIdx_lt_length_of_exists (xs:=g.prods) (p:=fun p=>badP g p) ⟨p,hp,hb⟩
      omega
    rw [e]
    refine .inl ⟨hge,?_⟩
    repeat' (first|refine zW [1] ?_|((refine zB [1] (fun h=>?_) (fun h=>?_))<;>(first|exact zk h|skip))|refine zX [1] ?_|(refine zE ?_;(rfl))|fail)
end Go.Av
end
noncomputable section
namespace Go.Av
open Go Go.Proofs
set_option maxRecDepth 10000
theorem first_or (P:Nat→Bool):∀ N:Nat,∃ n,n≤N∧(∀ k,k<n→P k=false)∧(n=N∨(n<N∧P n=true))
 |0=>⟨0,Nat.le_refl _,fun k hk=>by omega,.inl rfl⟩
 |N+1=>by
  obtain⟨n,h1,h2,h3⟩:=first_or P N
  rcases h3 with rfl|⟨h3,h4⟩
  ·cases hp:P n with
   |true=>exact⟨n,by omega,h2,.inr ⟨by omega,hp⟩⟩
   |false=>exact⟨n+1,by omega,all_succ h2 hp,.inl rfl⟩
  ·exact⟨n,by omega,h2,.inr ⟨by omega,h4⟩⟩
open Classical in
def ordBad (g:Gram) (k:Nat):Bool:=decide (0<k∧∃ p q,g.prods[k-1]?=some p∧g.prods[k]?=some q∧q.left<p.left)
open Classical in
theorem ordBad_iff (g:Gram) (k:Nat):ordBad g k=true ↔ (0<k∧∃ p q,g.prods[k-1]?=some p∧g.prods[k]?=some q∧q.left<p.left):=by unfold ordBad;exact decide_eq_true_iff
open Classical in
def orderedG (g:Gram):Int:=if orderBad g then 9 else 0
theorem ordered (g:Gram) (hf:Fits g):KnownCall Tryz.prog 81 [encG g] (.d (.int .i64 (orderedG g))):=by
 have hfp:=hf.prods
 refine knownE Yo (fnAt Tryz.func81 (by kernel_rfl) (by kernel_rfl):FnAt _ _ (mkFn Tryz.f81 [1])) ?_
 repeat' (first|refine zW [1] ?_|((refine zB [1] (fun h=>?_) (fun h=>?_))<;>(first|exact zk h|skip))|refine zX [1] ?_|((refine zK (prodsOf g) (fun h=>?_) (fun h=>?_))<;>(first|exact zk h|skip))|refine zC (prodsOf g) ?_|(refine zE ?_;(skip))|fail)
 obtain⟨n,hidx,hbefore,hcase⟩:=first_or (ordBad g) g.prods.length
 refine Run.rangeProds (frz:=[1]) 1 (fun _=>[.box [.d (.int .i64 0)]]) g.prods (Nat.le_trans hf.prods (by decide)) (by rfl) (fun _=>rfl) (fun _=>rfl) (by kernel_rfl) n hidx (fun k p hk hp=>?_) ?_
 ·have hgood:=hbefore k hk
  have hkl:=(List.getElem?_eq_some_iff.1 hp).1
  rcases k with _|k
  ·refine ayield_of_run (i:=2) (by rfl) (by rfl) (by rfl) ?_
   repeat refine zA [1] ?_
   refine⟨rfl,_,_,_,_,_,_,_,by rfl,?_⟩
   refine Run.less ?_
   repeat' (first|refine zW [1] ?_|((refine zB [1] (fun h=>?_) (fun h=>?_))<;>(first|exact zk h|skip))|refine zX [1] ?_|(exact⟨rfl,_,less_of [] 3 rfl (by rfl) trivial trivial (by kernel_rfl) rfl,_,_,_,_,_,_,_,_,by rfl,rfl,by rfl⟩)|fail)
  ·obtain⟨q,hq⟩:=get_ok (show k<g.prods.length by omega)
   have hno:¬ p.left<q.left:=fun h=>by
    have:ordBad g (k+1)=true:=(ordBad_iff _ _).2 ⟨Nat.succ_pos _,q,p,hq,hp,h⟩
    rw [this] at hgood;cases hgood
   have hw:IntKind.i64.wrap (((k+1:Nat):Int)-1)=(k:Nat):=by rw [wrap64 (by omega) (by omega)];omega
   refine ayield_of_run (i:=2) (by rfl) (by rfl) (by rfl) ?_
   repeat refine zA [1] ?_
   refine⟨rfl,_,_,_,_,_,_,_,by rfl,?_⟩
   refine Run.less ?_
   repeat' (first|refine oX (frz:=[1]) (v:=.d (.int .i64 (k:Nat))) Yo ?_ (he:=(congrArg (fun n=>AV.d (.int .i64 n)) hw))|refine eX (v:=.d (.int .i64 (k:Nat))) ?_ (he:=(congrArg (fun n=>AV.d (.int .i64 n)) hw))|refine zW [1] ?_|((refine zB [1] (fun h=>?_) (fun h=>?_))<;>(first|exact zk h|skip))|refine zX [1] ?_|refine oX (frz:=[1]) (v:=.d (.ep [.int .i64 q.left,ints q.right])) Yo ?_ (hf:=(by first|(simp [inB]<;>fail)|(simp [inB];omega))) (he:=(by first|(simp [List.getD_eq_getElem?_getD,cellsD,hq,encP]<;>fail)|fail))|refine eX (v:=.d (.ep [.int .i64 q.left,ints q.right])) ?_ (hf:=(by first|(simp [inB]<;>fail)|(simp [inB];omega))) (he:=(by first|(simp [List.getD_eq_getElem?_getD,cellsD,hq,encP]<;>fail)|fail))|(exact⟨rfl,_,less_of [] 3 rfl (by rfl) trivial trivial (by kernel_rfl) rfl,_,_,_,_,_,_,_,_,by rfl,rfl,by rfl⟩)|((exfalso;first|(simp_all<;>fail)|(simp_all;omega)))|fail)
 ·rcases hcase with hge|⟨hlt,hbad⟩
  ·have e:orderedG g=0:=by
    unfold orderedG
    rw [if_neg]
    rintro⟨i,p,q,h1,h2,h3⟩
    have hi:=(List.getElem?_eq_some_iff.1 h2).1
    have:=hbefore (i+1) (by omega)
    rw [show ordBad g (i+1)=true from(ordBad_iff _ _).2 ⟨Nat.succ_pos _,p,q,h1,h2,h3⟩] at this
    cases this
   rw [e]
   refine .inl ⟨hge,?_⟩
   repeat' (first|refine zW [1] ?_|((refine zB [1] (fun h=>?_) (fun h=>?_))<;>(first|exact zk h|skip))|refine zX [1] ?_|(refine zE ?_;(rfl))|fail)
  ·have hb:=(ordBad_iff _ _).1 hbad
   obtain⟨hn0,q,p,hq,hp,hlt2⟩:=hb
   rcases n with _|k
   ·omega
   ·have hq:g.prods[k]?=some q:=hq
    have e:orderedG g=9:=by unfold orderedG;rw [if_pos ⟨k,q,p,hq,hp,hlt2⟩]
    rw [e]
    have hkl:=(List.getElem?_eq_some_iff.1 hp).1
    have hw:IntKind.i64.wrap (((k+1:Nat):Int)-1)=(k:Nat):=by rw [wrap64 (by omega) (by omega)];omega
    refine .inr ⟨p,[.box [.d (.int .i64 9)]],hp,rfl,.inl ⟨?_,?_⟩⟩
    ·refine ayield_of_run (i:=2) (by rfl) (by rfl) (by rfl) ?_
     repeat refine zA [1] ?_
     refine⟨rfl,_,_,_,_,_,_,_,by rfl,?_⟩
     refine Run.less ?_
     repeat' (first|refine oX (frz:=[1]) (v:=.d (.int .i64 (k:Nat))) Yo ?_ (he:=(congrArg (fun n=>AV.d (.int .i64 n)) hw))|refine eX (v:=.d (.int .i64 (k:Nat))) ?_ (he:=(congrArg (fun n=>AV.d (.int .i64 n)) hw))|refine zW [1] ?_|((refine zB [1] (fun h=>?_) (fun h=>?_))<;>(first|exact zk h|skip))|refine zX [1] ?_|refine oX (frz:=[1]) (v:=.d (.ep [.int .i64 q.left,ints q.right])) Yo ?_ (hf:=(by first|(simp [inB]<;>fail)|(simp [inB];omega))) (he:=(by first|(simp [List.getD_eq_getElem?_getD,cellsD,hq,encP]<;>fail)|fail))|refine eX (v:=.d (.ep [.int .i64 q.left,ints q.right])) ?_ (hf:=(by first|(simp [inB]<;>fail)|(simp [inB];omega))) (he:=(by first|(simp [List.getD_eq_getElem?_getD,cellsD,hq,encP]<;>fail)|fail))|((refine Yt ?_;exact⟨rfl,_,less_of [] 3 rfl (by rfl) trivial trivial (by kernel_rfl) rfl,_,_,_,_,_,_,_,_,by rfl,rfl,by rfl⟩))|((exfalso;first|(simp_all<;>fail)|(simp_all;omega)))|fail)
    ·refine⟨trivial,_,_,by rfl,by rfl,Eq.trans (b:=some (.d (.int .i64 9))) (by kernel_rfl) ?_⟩
     rfl
def checks (g:Gram):List Int:=[manyF g,namedG g,diffF g,symsG g,orderedG g,completeF g]
def firstErr:List Int→Int
 |[]=>0
 |e :: r=>if e=0 then firstErr r else e
def checkG (g:Gram):Int:=if g.k<1∨4<g.k then 2 else firstErr (checks g)
theorem firstErr_at:∀ {l:List Int} {i:Nat} {e:Int},l[i]?=some e→e≠0→(∀ j,j<i→l[j]?=some 0)→firstErr l=e
 |[],i,e,h,_,_=>by simp at h
 |a :: r,0,e,h,he,_=>by simp at h;subst h;simp [firstErr,he]
 |a :: r,i+1,e,h,he,hb=>by
  have ha:a=0:=by have:=hb 0 (by omega);simpa using this
  subst ha
  simp only [firstErr,if_true]
  exact firstErr_at (i:=i) (by simpa using h) he (fun j hj=>by have:=hb (j+1) (by omega);simpa using this)
theorem firstErr_none:∀ {l:List Int},(∀ j,j<l.length→l[j]?=some 0)→firstErr l=0
 |[],_=>rfl
 |a :: r,hb=>by
  have ha:a=0:=by have:=hb 0 (by simp);simpa using this
  subst ha
  simp only [firstErr,if_true]
  exact firstErr_none (fun j hj=>by have:=hb (j+1) (by simpa using hj);simpa using this)
abbrev looksD:List DV:=[.fn (.func 77) [] [],.fn (.func 78) [] [],.fn (.func 79) [] [],.fn (.func 80) [] [],.fn (.func 81) [] [],.fn (.func 82) [] []]
theorem checkGr (g:Gram) (hf:Fits g):KnownCall Tryz.prog 20 [encG g] (.d (.int .i64 (checkG g))):=by
 by_cases hk:g.k<1∨4<g.k
 ·have e:checkG g=2:=if_pos hk
  rw [e]
  refine knownE Yo (fnAt Tryz.func20 (by kernel_rfl) (by kernel_rfl):FnAt _ _ (mkFn Tryz.f20 [1,13,200001])) ?_
  refine Yq ?_
  repeat' (first|refine zW [1,13,200001] ?_|((refine zB [1,13,200001] (fun h=>?_) (fun h=>?_))<;>(first|exact zk h|skip))|refine zX [1,13,200001] ?_|(refine zE ?_;(skip))|fail)
  refine Run.scope ?_
  repeat' (first|refine zW [1,13,200001] ?_|((refine zB [1,13,200001] (fun h=>?_) (fun h=>?_))<;>(first|exact zk h|skip))|refine zX [1,13,200001] ?_|(refine zE ?_;(rfl))|((exfalso;first|(simp_all<;>fail)|(simp_all;omega)))|fail)
 ·have e:checkG g=firstErr (checks g):=if_neg hk
  rw [e]
  rw [not_or] at hk
  refine knownE Yo (fnAt Tryz.func20 (by kernel_rfl) (by kernel_rfl):FnAt _ _ (mkFn Tryz.f20 [1,13,200001])) ?_
  repeat' (first|refine zW [1,13,200001] ?_|((refine zB [1,13,200001] (fun h=>?_) (fun h=>?_))<;>(first|exact zk h|skip))|refine zX [1,13,200001] ?_|(refine zE ?_;(skip))|fail)
  refine Run.scope ?_
  repeat' (first|refine zW [1,13,200001] ?_|((refine zB [1,13,200001] (fun h=>?_) (fun h=>?_))<;>(first|exact zk h|skip))|refine zX [1,13,200001] ?_|refine Run.label ?_|(refine zE ?_;(skip))|((exfalso;first|(simp_all<;>fail)|(simp_all;omega)))|fail)
  refine Run.loop (fun i:Nat=>⟨PT.ofList [(1,(.d (.ep [.int .i64 g.k,strs g.tokens,.str g.sep,strs g.names,.int .i64 g.start,.sl 2 (g.prods.map encP)]))),(2,.d (.int .i64 0)),(13,.d (.sl 1 looksD)),(14,.d (.int .i64 6)),(15,.d (.int .i64 i))],[],[]⟩) (fun i=>i≤6∧∀ j,j<i→(checks g)[j]?=some 0) (fun i=>6-i) 0 ⟨Nat.zero_le _,fun j hj=>by omega⟩ (weak_of (by repeat' (first|exact trivial|refine⟨rfl,?_⟩))) (fun i hi=>?_)
  obtain⟨hi1,hi2⟩:=hi
  have hcs:i=0∨i=1∨i=2∨i=3∨i=4∨i=5∨i=6:=by omega
  rcases hcs with h|h|h|h|h|h|h<;>subst h
  ·have hc:=many g hf
   by_cases he:manyF g=0
   ·have hnext:(checks g)[0]?=some 0:=by rw [← he];rfl
    rw [he] at hc
    repeat' (first|refine zW [1,13,200001] ?_|((refine zB [1,13,200001] (fun h=>?_) (fun h=>?_))<;>(first|exact zk h|skip))|refine zX [1,13,200001] ?_|refine zC (hc) ?_|(refine zE ?_;(skip))|(exact⟨1,⟨by omega,all_succ hi2 hnext⟩,by omega,weak_of (by repeat' (first|exact trivial|refine⟨rfl,?_⟩))⟩)|fail)
   ·repeat' (first|refine zW [1,13,200001] ?_|((refine zB [1,13,200001] (fun h=>?_) (fun h=>?_))<;>(first|exact zk h|skip))|refine zX [1,13,200001] ?_|refine zC (hc) ?_|(refine zE ?_;(rw [firstErr_at (i:=0) (show(checks g)[0]?=some (manyF g) from rfl) he hi2]))|((exfalso;(simp_all<;>fail)))|fail)
  ·have hc:=named g hf
   by_cases he:namedG g=0
   ·have hnext:(checks g)[1]?=some 0:=by rw [← he];rfl
    rw [he] at hc
    repeat' (first|refine zW [1,13,200001] ?_|((refine zB [1,13,200001] (fun h=>?_) (fun h=>?_))<;>(first|exact zk h|skip))|refine zX [1,13,200001] ?_|refine zC (hc) ?_|(refine zE ?_;(skip))|(exact⟨2,⟨by omega,all_succ hi2 hnext⟩,by omega,weak_of (by repeat' (first|exact trivial|refine⟨rfl,?_⟩))⟩)|fail)
   ·repeat' (first|refine zW [1,13,200001] ?_|((refine zB [1,13,200001] (fun h=>?_) (fun h=>?_))<;>(first|exact zk h|skip))|refine zX [1,13,200001] ?_|refine zC (hc) ?_|(refine zE ?_;(rw [firstErr_at (i:=1) (show(checks g)[1]?=some (namedG g) from rfl) he hi2]))|((exfalso;(simp_all<;>fail)))|fail)
  ·have hc:=different g hf
   by_cases he:diffF g=0
   ·have hnext:(checks g)[2]?=some 0:=by rw [← he];rfl
    rw [he] at hc
    repeat' (first|refine zW [1,13,200001] ?_|((refine zB [1,13,200001] (fun h=>?_) (fun h=>?_))<;>(first|exact zk h|skip))|refine zX [1,13,200001] ?_|refine zC (hc) ?_|(refine zE ?_;(skip))|(exact⟨3,⟨by omega,all_succ hi2 hnext⟩,by omega,weak_of (by repeat' (first|exact trivial|refine⟨rfl,?_⟩))⟩)|fail)
   ·repeat' (first|refine zW [1,13,200001] ?_|((refine zB [1,13,200001] (fun h=>?_) (fun h=>?_))<;>(first|exact zk h|skip))|refine zX [1,13,200001] ?_|refine zC (hc) ?_|(refine zE ?_;(rw [firstErr_at (i:=2) (show(checks g)[2]?=some (diffF g) from rfl) he hi2]))|((exfalso;(simp_all<;>fail)))|fail)
  ·have hc:=symbols g hf
   by_cases he:symsG g=0
   ·have hnext:(checks g)[3]?=some 0:=by rw [← he];rfl
    rw [he] at hc
    repeat' (first|refine zW [1,13,200001] ?_|((refine zB [1,13,200001] (fun h=>?_) (fun h=>?_))<;>(first|exact zk h|skip))|refine zX [1,13,200001] ?_|refine zC (hc) ?_|(refine zE ?_;(skip))|(exact⟨4,⟨by omega,all_succ hi2 hnext⟩,by omega,weak_of (by repeat' (first|exact trivial|refine⟨rfl,?_⟩))⟩)|fail)
   ·repeat' (first|refine zW [1,13,200001] ?_|((refine zB [1,13,200001] (fun h=>?_) (fun h=>?_))<;>(first|exact zk h|skip))|refine zX [1,13,200001] ?_|refine zC (hc) ?_|(refine zE ?_;(rw [firstErr_at (i:=3) (show(checks g)[3]?=some (symsG g) from rfl) he hi2]))|((exfalso;(simp_all<;>fail)))|fail)
  ·have hc:=ordered g hf
   by_cases he:orderedG g=0
   ·have hnext:(checks g)[4]?=some 0:=by rw [← he];rfl
    rw [he] at hc
    repeat' (first|refine zW [1,13,200001] ?_|((refine zB [1,13,200001] (fun h=>?_) (fun h=>?_))<;>(first|exact zk h|skip))|refine zX [1,13,200001] ?_|refine zC (hc) ?_|(refine zE ?_;(skip))|(exact⟨5,⟨by omega,all_succ hi2 hnext⟩,by omega,weak_of (by repeat' (first|exact trivial|refine⟨rfl,?_⟩))⟩)|fail)
   ·repeat' (first|refine zW [1,13,200001] ?_|((refine zB [1,13,200001] (fun h=>?_) (fun h=>?_))<;>(first|exact zk h|skip))|refine zX [1,13,200001] ?_|refine zC (hc) ?_|(refine zE ?_;(rw [firstErr_at (i:=4) (show(checks g)[4]?=some (orderedG g) from rfl) he hi2]))|((exfalso;(simp_all<;>fail)))|fail)
  ·have hc:=complete g hf
   by_cases he:completeF g=0
   ·have hnext:(checks g)[5]?=some 0:=by rw [← he];rfl
    rw [he] at hc
    repeat' (first|refine zW [1,13,200001] ?_|((refine zB [1,13,200001] (fun h=>?_) (fun h=>?_))<;>(first|exact zk h|skip))|refine zX [1,13,200001] ?_|refine zC (hc) ?_|(refine zE ?_;(skip))|(exact⟨6,⟨by omega,all_succ hi2 hnext⟩,by omega,weak_of (by repeat' (first|exact trivial|refine⟨rfl,?_⟩))⟩)|fail)
   ·repeat' (first|refine zW [1,13,200001] ?_|((refine zB [1,13,200001] (fun h=>?_) (fun h=>?_))<;>(first|exact zk h|skip))|refine zX [1,13,200001] ?_|refine zC (hc) ?_|(refine zE ?_;(rw [firstErr_at (i:=5) (show(checks g)[5]?=some (completeF g) from rfl) he hi2]))|((exfalso;(simp_all<;>fail)))|fail)
  ·repeat' (first|refine zW [1,13,200001] ?_|((refine zB [1,13,200001] (fun h=>?_) (fun h=>?_))<;>(first|exact zk h|skip))|refine zX [1,13,200001] ?_|(refine zE ?_;(rw [firstErr_none (l:=checks g) hi2]))|fail)
end Go.Av
end
noncomputable section
namespace Go.Av
open Go Go.Proofs
set_option maxRecDepth 10000
theorem named_zero {g:Gram} (h:namedF g=0):(∀ s ∈ smalls g,smallF s=true)∧∀ s ∈ g.names,capitalF s=true:=by
 unfold namedF at h
 split at h
 ·omega
 ·rename_i hn
  simp only [not_or,not_exists,not_and,Bool.not_eq_false] at hn
  exact hn
theorem small_capital {s:List Nat} (h1:smallF s=true) (h2:capitalF s=true):False:=by
 simp only [smallF,capitalF,Bool.and_eq_true,decide_eq_true_eq] at h1 h2
 omega
theorem allN_nodup {g:Gram} (h:namedF g=0):(allN g).Nodup ↔ (smalls g).Nodup∧g.names.Nodup:=by
 obtain⟨h1,h2⟩:=named_zero h
 rw [allN,List.nodup_append]
 refine⟨fun h=>⟨h.1,h.2.1⟩,fun h=>⟨h.1,h.2,fun a ha b hb e=>small_capital (h1 a ha) (e ▸ h2 b hb)⟩⟩
theorem checkG_eq (g:Gram):checkG g=checkF g:=by
 unfold checkG checkF
 split
 ·rfl
 ·simp only [checks,firstErr]
  by_cases h1:manyF g=0
  ·simp only [h1,ne_eq,not_true_eq_false,if_false,if_true]
   by_cases h2:g.tokens=[]∨g.names=[]
   ·have:namedG g=5:=if_pos h2
    simp [this,h2]
   ·have:namedG g=namedF g:=if_neg h2
    simp only [this,if_neg h2]
    by_cases h3:namedF g=0
    ·simp only [h3,if_true]
     by_cases h4:(allN g).Nodup
     ·have h5:=(allN_nodup h3).1 h4
      have h6:diffF g=0:=if_pos h4
      have h7:namesF g=0:=by unfold namesF;rw [if_neg (by simp [h5.1,h5.2]),h3]
      simp only [h6,h7,ne_eq,not_true_eq_false,if_false,if_true]
      unfold symsG orderedG completeF symbolsF
      by_cases a:symbolsOK g<;>by_cases b:orderBad g<;>by_cases c:missing g<;>simp [a,b,c]
     ·have h6:diffF g=8:=if_neg h4
      have h7:namesF g=8:=by
       unfold namesF
       rw [if_pos]
       refine⟨h3,?_⟩
       by_cases h5:(smalls g).Nodup
       ·exact .inr fun h8=>h4 ((allN_nodup h3).2 ⟨h5,h8⟩)
       ·exact .inl h5
      simp [h6,h7]
    ·have h7:namesF g=namedF g:=by unfold namesF;rw [if_neg (by simp [h3])]
     simp [h3,h7]
  ·simp [h1]
theorem grCheck (g:Gram) (hf:Fits g):KnownCall Tryz.prog 20 [encG g] (.d (.int .i64 (checkF g))):=by rw [← checkG_eq];exact checkGr g hf
end Go.Av
end
noncomputable section
namespace Go.Av
open Go Go.Proofs
set_option maxRecDepth 10000
end Go.Av
end
noncomputable section
namespace Go.Av
open Go Go.Proofs
set_option maxRecDepth 10000
end Go.Av
end
noncomputable section
namespace Go.Av
open Go Go.Proofs
set_option maxRecDepth 10000
end Go.Av
end
noncomputable section
namespace Go.Av
open Go Go.Proofs
set_option maxRecDepth 10000
theorem sameInts (a b:List Int) (hal:a.length≤1099511627776):KnownCall Tryz.prog 68 [ints a,ints b] (.d (.bool (decide (a=b)))):=by
 by_cases hlen:a.length=b.length
 ·refine knownE Yo (fnAt Tryz.func68 (by kernel_rfl) (by kernel_rfl):FnAt _ _ (mkFn Tryz.f68 [])) ?_
  repeat' (first|refine zW [] ?_|((refine zB [] (fun h=>?_) (fun h=>?_))<;>(first|exact zk h|skip))|refine zX [] ?_|(refine zE ?_;(skip))|((exfalso;first|(simp_all<;>fail)|(simp_all;omega)))|fail)
  refine Run.loop (fun i:Nat=>⟨PT.ofList [(0,.d (ints a)),(1,.d (ints b)),(5,.d (.int .i64 i))],[],[]⟩) (fun i=>i≤a.length∧a.take i=b.take i) (fun i=>a.length-i) 0 ⟨Nat.zero_le _,rfl⟩ (weak_of (by repeat' (first|exact trivial|refine⟨rfl,?_⟩))) (fun i hi=>?_)
  rcases Nat.lt_or_ge i a.length with hlt|hge
  ·obtain⟨x,hx⟩:=get_ok hlt
   obtain⟨y,hy⟩:=get_ok (show i<b.length by omega)
   by_cases hxy:x=y
   ·subst hxy
    have ht:a.take (i+1)=b.take (i+1):=by rw [List.take_add_one,List.take_add_one,hi.2,hx,hy]
    repeat' (first|refine zW [] ?_|((refine zB [] (fun h=>?_) (fun h=>?_))<;>(first|exact zk h|skip))|refine zX [] ?_|refine oX (frz:=[]) (v:=.d (.ep [.int .i64 x])) Yo ?_ (hf:=(by first|(simp [inB]<;>fail)|(simp [inB];omega))) (he:=(by first|(simp [List.getD_eq_getElem?_getD,cellsD,hx]<;>fail)|fail))|refine eX (v:=.d (.ep [.int .i64 x])) ?_ (hf:=(by first|(simp [inB]<;>fail)|(simp [inB];omega))) (he:=(by first|(simp [List.getD_eq_getElem?_getD,cellsD,hx]<;>fail)|fail))|refine oX (frz:=[]) (v:=.d (.ep [.int .i64 x])) Yo ?_ (hf:=(by first|(simp [inB]<;>fail)|(simp [inB];omega))) (he:=(by first|(simp [List.getD_eq_getElem?_getD,cellsD,hy]<;>fail)|fail))|refine eX (v:=.d (.ep [.int .i64 x])) ?_ (hf:=(by first|(simp [inB]<;>fail)|(simp [inB];omega))) (he:=(by first|(simp [List.getD_eq_getElem?_getD,cellsD,hy]<;>fail)|fail))|(refine zE ?_;(skip))|(exact⟨i+1,⟨hlt,ht⟩,by omega,weak_of (by repeat' (first|exact trivial|refine⟨rfl,?_⟩|refine⟨(inc_get (k:=i) (by kernel_rfl) (by omega)),?_⟩))⟩)|((exfalso;first|(simp_all<;>fail)|(simp_all;omega)))|fail)
   ·have hne:a≠b:=fun e=>by subst e;rw [hx] at hy;cases hy;exact hxy rfl
    rw [decide_eq_false hne]
    repeat' (first|refine zW [] ?_|((refine zB [] (fun h=>?_) (fun h=>?_))<;>(first|exact zk h|skip))|refine zX [] ?_|refine oX (frz:=[]) (v:=.d (.ep [.int .i64 x])) Yo ?_ (hf:=(by first|(simp [inB]<;>fail)|(simp [inB];omega))) (he:=(by first|(simp [List.getD_eq_getElem?_getD,cellsD,hx]<;>fail)|fail))|refine eX (v:=.d (.ep [.int .i64 x])) ?_ (hf:=(by first|(simp [inB]<;>fail)|(simp [inB];omega))) (he:=(by first|(simp [List.getD_eq_getElem?_getD,cellsD,hx]<;>fail)|fail))|refine oX (frz:=[]) (v:=.d (.ep [.int .i64 y])) Yo ?_ (hf:=(by first|(simp [inB]<;>fail)|(simp [inB];omega))) (he:=(by first|(simp [List.getD_eq_getElem?_getD,cellsD,hy]<;>fail)|fail))|refine eX (v:=.d (.ep [.int .i64 y])) ?_ (hf:=(by first|(simp [inB]<;>fail)|(simp [inB];omega))) (he:=(by first|(simp [List.getD_eq_getElem?_getD,cellsD,hy]<;>fail)|fail))|(refine zE ?_;(rfl))|((exfalso;first|(simp_all<;>fail)|(simp_all;omega)))|fail)
  ·have hie:i=a.length:=by have:=hi.1;omega
   have hab:a=b:=by have:=hi.2;rw [hie,List.take_length,hlen,List.take_length] at this;exact this
   rw [decide_eq_true hab]
   repeat' (first|refine zW [] ?_|((refine zB [] (fun h=>?_) (fun h=>?_))<;>(first|exact zk h|skip))|refine zX [] ?_|(refine zE ?_;(rfl))|((exfalso;first|(simp_all<;>fail)|(simp_all;omega)))|fail)
 ·have hne:a≠b:=fun e=>by subst e;exact hlen rfl
  rw [decide_eq_false hne]
  refine knownE Yo (fnAt Tryz.func68 (by kernel_rfl) (by kernel_rfl):FnAt _ _ (mkFn Tryz.f68 [])) ?_
  repeat' (first|refine zW [] ?_|((refine zB [] (fun h=>?_) (fun h=>?_))<;>(first|exact zk h|skip))|refine zX [] ?_|(refine zE ?_;(rfl))|((exfalso;first|(simp_all<;>fail)|(simp_all;omega)))|fail)
end Go.Av
end
noncomputable section
namespace Go.Av
open Go Go.Proofs
set_option maxRecDepth 10000
theorem sameSelf (g:Gram) (hf:Fits g):KnownCall Tryz.prog 25 [encG g,encG g] (.d (.bool true)):=by
 have hfp:=hf.prods
 have hft:=hf.tokens
 have hfn:=hf.names
 have h1:=sameTexts g.tokens g.tokens (by omega)
 have h2:=sameTexts g.names g.names (by omega)
 rw [decide_eq_true rfl] at h1 h2
 refine knownE Yo (fnAt Tryz.func25 (by kernel_rfl) (by kernel_rfl):FnAt _ _ (mkFn Tryz.f25 [2,3])) ?_
 repeat' (first|refine zW [2,3] ?_|((refine zB [2,3] (fun h=>?_) (fun h=>?_))<;>(first|exact zk h|skip))|refine zX [2,3] ?_|refine zC (h1) ?_|refine zC (h2) ?_|(refine zE ?_;(skip))|((exfalso;first|(simp_all<;>fail)|(simp_all;omega)))|fail)
 refine Run.loop (fun i:Nat=>⟨PT.ofList [(2,(.d (.ep [.int .i64 g.k,strs g.tokens,.str g.sep,strs g.names,.int .i64 g.start,.sl 2 (g.prods.map encP)]))),(3,(.d (.ep [.int .i64 g.k,strs g.tokens,.str g.sep,strs g.names,.int .i64 g.start,.sl 2 (g.prods.map encP)]))),(5,.d (.int .i64 i))],[],[]⟩) (fun i=>i≤g.prods.length) (fun i=>g.prods.length-i) 0 (Nat.zero_le _) (weak_of (by repeat' (first|exact trivial|refine⟨rfl,?_⟩))) (fun i hi=>?_)
 rcases Nat.lt_or_ge i g.prods.length with hlt|hge
 ·obtain⟨p,hp⟩:=get_ok hlt
  have hpr:=hf.rights p (List.mem_of_getElem? hp)
  have h3:=sameInts p.right p.right (by omega)
  rw [decide_eq_true rfl] at h3
  repeat' (first|refine zW [2,3] ?_|((refine zB [2,3] (fun h=>?_) (fun h=>?_))<;>(first|exact zk h|skip))|refine zX [2,3] ?_|refine oX (frz:=[2,3]) (v:=.d (.ep [.int .i64 p.left,ints p.right])) Yo ?_ (hf:=(by first|(simp [inB]<;>fail)|(simp [inB];omega))) (he:=(by first|(simp [List.getD_eq_getElem?_getD,cellsD,hp,encP]<;>fail)|fail))|refine eX (v:=.d (.ep [.int .i64 p.left,ints p.right])) ?_ (hf:=(by first|(simp [inB]<;>fail)|(simp [inB];omega))) (he:=(by first|(simp [List.getD_eq_getElem?_getD,cellsD,hp,encP]<;>fail)|fail))|refine zC (h3) ?_|(refine zE ?_;(skip))|(exact⟨i+1,hlt,by omega,weak_of (by repeat' (first|exact trivial|refine⟨rfl,?_⟩|refine⟨(inc_get (k:=i) (by kernel_rfl) (by omega)),?_⟩))⟩)|((exfalso;first|(simp_all<;>fail)|(simp_all;omega)))|fail)
 ·have hie:i=g.prods.length:=by omega
  subst hie
  repeat' (first|refine zW [2,3] ?_|((refine zB [2,3] (fun h=>?_) (fun h=>?_))<;>(first|exact zk h|skip))|refine zX [2,3] ?_|(refine zE ?_;(rfl))|((exfalso;first|(simp_all<;>fail)|(simp_all;omega)))|fail)
abbrev boxG0:Ob:=.box [.d (.int .i64 0),.d .nilsl,.d (.str []),.d .nilsl,.d (.int .i64 0),.d .nilsl]
end Go.Av
end
noncomputable section
namespace Go.Av
open Go Go.Proofs
set_option maxRecDepth 10000
structure SRule where
 name:List Nat
 alts:List (List (List Nat))
structure Src where
 k:Int
 tokens:List (List Nat)
 sep:List Nat
 start:List Nat
 rules:List SRule
abbrev alts (l:List (List (List Nat))):DV:=.sl 1 (l.map strs)
structure FitsX (x:Src):Prop where
 tokens:x.tokens.length≤1048576
 rules:x.rules.length≤1048576
 alts:∀ r ∈ x.rules,r.alts.length≤1048576
 names:∀ r ∈ x.rules,∀ a ∈ r.alts,a.length≤1048576
 sep:x.sep.length≤1048576
 start:x.start.length≤1048576
 tokenS:∀ s ∈ x.tokens,s.length≤1048576
 ruleS:∀ r ∈ x.rules,r.name.length≤1048576
 nameS:∀ r ∈ x.rules,∀ a ∈ r.alts,∀ s ∈ a,s.length≤1048576
section
variable {α:Type} {l:List α} {p:α→Bool} {i:Nat} {x:α}
end
end Go.Av
end
noncomputable section
namespace Go.Av
open Go Go.Proofs
set_option maxRecDepth 10000
def W64 (n:Int):Prop:=-9223372036854775808≤n∧n≤9223372036854775807
def m30 (n:Int):Nat:=(n % 1073741824).toNat
theorem m30_lt (n:Int):m30 n<1073741824:=by unfold m30;omega
theorem mod30 (n:Int) (hn:W64 n):KnownCall Tryz.prog 56 [.int .i64 n,.int .i64 1073741824] (.d (.int .i64 (m30 n:Nat))):=by
 have hw:=hn
 unfold W64 at hw
 have hm:(m30 n:Int)=n % 1073741824:=by unfold m30;omega
 have ht:n.tmod 1073741824=if 0≤n∨(1073741824:Int) ∣ n then n % 1073741824 else n % 1073741824-1073741824:=by
  rw [Int.tmod_eq_emod]
  by_cases h:0≤n∨(1073741824:Int) ∣ n
  ·rw [if_pos h,if_pos h];simp
  ·rw [if_neg h,if_neg h];rfl
 by_cases h:0≤n∨(1073741824:Int) ∣ n
 ·rw [if_pos h] at ht
  rw [hm]
  refine knownE Yo (fnAt Tryz.func56 (by kernel_rfl) (by kernel_rfl):FnAt _ _ (mkFn Tryz.f56 [])) ?_
  repeat' (first|refine oX (frz:=[]) (v:=.d (.int .i64 (n % 1073741824))) Yo ?_ (he:=(congrArg (fun x=>AV.d (.int .i64 x)) ht))|refine eX (v:=.d (.int .i64 (n % 1073741824))) ?_ (he:=(congrArg (fun x=>AV.d (.int .i64 x)) ht))|refine zW [] ?_|((refine zB [] (fun h=>?_) (fun h=>?_))<;>(first|exact zk h|skip))|refine zX [] ?_|(refine zE ?_;(rfl))|((exfalso;first|(simp at h<;>fail)|(simp at h;omega)))|fail)
 ·rw [if_neg h] at ht
  rw [hm]
  have hneg:n % 1073741824-1073741824<0:=by omega
  refine knownE Yo (fnAt Tryz.func56 (by kernel_rfl) (by kernel_rfl):FnAt _ _ (mkFn Tryz.f56 [])) ?_
  repeat' (first|refine oX (frz:=[]) (v:=.d (.int .i64 (n % 1073741824))) Yo ?_ (he:=(congrArg (fun x=>AV.d (.int .i64 x)) ((wrap64 (by omega) (by omega)).trans (by omega))))|refine eX (v:=.d (.int .i64 (n % 1073741824))) ?_ (he:=(congrArg (fun x=>AV.d (.int .i64 x)) ((wrap64 (by omega) (by omega)).trans (by omega))))|refine oX (frz:=[]) (v:=.d (.int .i64 (n % 1073741824-1073741824))) Yo ?_ (he:=(congrArg (fun x=>AV.d (.int .i64 x)) ht))|refine eX (v:=.d (.int .i64 (n % 1073741824-1073741824))) ?_ (he:=(congrArg (fun x=>AV.d (.int .i64 x)) ht))|refine zW [] ?_|((refine zB [] (fun h=>?_) (fun h=>?_))<;>(first|exact zk h|skip))|refine zX [] ?_|(refine zE ?_;(rfl))|((exfalso;first|(simp at h<;>fail)|(simp at h;omega)))|fail)
def atF (l:List Int) (i:Nat):Int:=(l[i]?).getD 0
theorem atF_wf {l:List Int} (h:∀ n ∈ l,W64 n) (i:Nat):W64 (atF l i):=by
 unfold atF
 cases e:l[i]? with
 |none=>exact⟨by decide,by decide⟩
 |some x=>exact h x (List.mem_of_getElem? e)
theorem atS (l:List Int) (i:Nat):KnownCall Tryz.prog 149 [ints l,.int .i64 (i:Nat)] (.d (.int .i64 (atF l i))):=by
 rcases Nat.lt_or_ge i l.length with hlt|hge
 ·obtain⟨x,hx⟩:=get_ok hlt
  rw [show atF l i=x from by simp [atF,hx]]
  refine knownE Yo (fnAt Tryz.func149 (by kernel_rfl) (by kernel_rfl):FnAt _ _ (mkFn Tryz.f149 [])) ?_
  repeat' (first|refine zW [] ?_|((refine zB [] (fun h=>?_) (fun h=>?_))<;>(first|exact zk h|skip))|refine zX [] ?_|refine oX (frz:=[]) (v:=.d (.ep [.int .i64 x])) Yo ?_ (hf:=(by first|(simp [inB]<;>fail)|(simp [inB];omega))) (he:=(by first|(simp [List.getD_eq_getElem?_getD,cellsD,hx]<;>fail)|fail))|refine eX (v:=.d (.ep [.int .i64 x])) ?_ (hf:=(by first|(simp [inB]<;>fail)|(simp [inB];omega))) (he:=(by first|(simp [List.getD_eq_getElem?_getD,cellsD,hx]<;>fail)|fail))|(refine zE ?_;(rfl))|((exfalso;first|(simp at h<;>fail)|(simp at h;omega)))|fail)
 ·rw [show atF l i=0 from by simp [atF,List.getElem?_eq_none hge]]
  refine knownE Yo (fnAt Tryz.func149 (by kernel_rfl) (by kernel_rfl):FnAt _ _ (mkFn Tryz.f149 [])) ?_
  repeat' (first|refine zW [] ?_|((refine zB [] (fun h=>?_) (fun h=>?_))<;>(first|exact zk h|skip))|refine zX [] ?_|(refine zE ?_;(rfl))|((exfalso;first|(simp at h<;>fail)|(simp at h;omega)))|fail)
def numF (l:List Int) (i:Nat):Nat:=m30 (atF l i)
theorem numF_lt (l:List Int) (i:Nat):numF l i<1073741824:=m30_lt _
end Go.Av
end
noncomputable section
namespace Go.Av
open Go Go.Proofs
set_option maxRecDepth 10000
theorem vN8 {x:Int} {n:Nat} (h:x=(n:Int)) (hn:n≤1099511627776):AV.d (.int .i64 (IntKind.i64.wrap x))=.d (.int .i64 (n:Int)):=by
 subst h;exact congrArg (fun n=>AV.d (.int .i64 n)) (wrap_nat hn)
end Go.Av
end
noncomputable section
namespace Go.Av
open Go Go.Proofs
set_option maxRecDepth 10000
end Go.Av
end
noncomputable section
namespace Go.Av
open Go Go.Proofs
set_option maxRecDepth 10000
end Go.Av
end
noncomputable section
namespace Go.Av
open Go Go.Proofs
set_option maxRecDepth 10000
end Go.Av
end
noncomputable section
namespace Go.Av
open Go Go.Proofs
set_option maxRecDepth 10000
theorem vF8 {p:Prop} [Decidable p] (h:¬ p):AV.d (.bool (decide p))=.d (.bool false):=by rw [decide_eq_false h]
section
variable {E:PT Ty} {H:Hd} {frz:List Nat} {rd:Operand→AV} {objs:List Ob} {o:Oper} {args:Array Operand} {tys:Array TypeId} {a b:Operand} {ts tx e:TypeId} {yts z:Ty} {szx k:Nat} {ys:List DV}
end
end Go.Av
end
noncomputable section
namespace Go.Av
open Go Go.Proofs
set_option maxRecDepth 10000
end Go.Av
end
noncomputable section
namespace Go.Av
open Go Go.Proofs
set_option maxRecDepth 10000
end Go.Av
end

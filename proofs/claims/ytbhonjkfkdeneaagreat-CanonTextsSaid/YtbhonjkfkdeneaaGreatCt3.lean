/-
  Parts of the way to the law, joined: rules for code over data, and what the functions return. Conditions stand at each.
-/
import Derived.Test.YtbhonjkfkdeneaaGreatCt1
import Derived.Test.YtbhonjkfkdeneaaGreatRows
import Derived.Test.YtbhonjkfkdeneaaGreatCt2
set_option linter.all false
namespace Go.Av
open Go Go.Proofs
def ty1:Ty:=⟨.func #[] #[] false,1,8,[.nilfunc]⟩
def ty3:Ty:=⟨.int .i64,1,8,[(.int .i64 0)]⟩
def ty4:Ty:=⟨.bool,1,1,[(.bool false)]⟩
def ty5:Ty:=⟨.int .u8,1,1,[(.int .u8 0)]⟩
def ty9:Ty:=⟨.string,1,16,[(.str [])]⟩
def ty20:Ty:=⟨.interface #[],1,16,[.niliface]⟩
def ty21:Ty:=⟨.int .i32,1,4,[(.int .i32 0)]⟩
def ty22:Ty:=⟨.slice 9,1,24,[.nilsl]⟩
def ty23:Ty:=⟨.slice 82,1,24,[.nilsl]⟩
def ty25:Ty:=⟨.struct #[⟨ "K",3,0,false, "", "",0⟩,⟨ "Tokens",22,1,false, "", "",8⟩,⟨ "Sep",9,2,false, "", "",32⟩,⟨ "Names",22,3,false, "", "",48⟩,⟨ "Start",3,4,false, "", "",72⟩,⟨ "Prods",23,5,false, "", "",80⟩],6,104,[(.int .i64 0),.nilsl,(.str []),.nilsl,(.int .i64 0),.nilsl]⟩
def ty29:Ty:=⟨.slice 96,1,24,[.nilsl]⟩
def ty31:Ty:=⟨.struct #[⟨ "K",3,0,false, "", "",0⟩,⟨ "Tokens",22,1,false, "", "",8⟩,⟨ "Sep",9,2,false, "", "",32⟩,⟨ "Start",9,3,false, "", "",48⟩,⟨ "Rules",29,4,false, "", "",64⟩],5,88,[(.int .i64 0),.nilsl,(.str []),(.str []),.nilsl]⟩
def ty32:Ty:=⟨.int .i64,1,8,[(.int .i64 0)]⟩
def ty37:Ty:=⟨.func #[25] #[32] false,1,8,[.nilfunc]⟩
def ty41:Ty:=⟨.struct #[⟨ "Err",32,0,false, "", "",0⟩,⟨ "At",3,1,false, "", "",8⟩],2,16,[(.int .i64 0),(.int .i64 0)]⟩
def ty44:Ty:=⟨.func #[9] #[4] false,1,8,[.nilfunc]⟩
def ty60:Ty:=⟨.func #[3] #[4] false,1,8,[.nilfunc]⟩
def ty61:Ty:=⟨.int .u64,1,8,[(.int .u64 0)]⟩
def ty66:Ty:=⟨.slice 3,1,24,[.nilsl]⟩
def ty75:Ty:=⟨.slice 5,1,24,[.nilsl]⟩
def ty82:Ty:=⟨.struct #[⟨ "Left",3,0,false, "", "",0⟩,⟨ "Right",66,1,false, "", "",8⟩],2,32,[(.int .i64 0),.nilsl]⟩
def ty94:Ty:=⟨.slice 22,1,24,[.nilsl]⟩
def ty96:Ty:=⟨.struct #[⟨ "Name",9,0,false, "", "",0⟩,⟨ "Alts",94,1,false, "", "",16⟩],2,40,[(.str []),.nilsl]⟩
def ty97:Ty:=⟨.func #[230] #[] false,1,8,[.nilfunc]⟩
def ty98:Ty:=⟨.func #[230] #[] false,1,8,[.nilfunc]⟩
def ty102:Ty:=⟨.slice 37,1,24,[.nilsl]⟩
def ty109:Ty:=⟨.slice 126,1,24,[.nilsl]⟩
def ty113:Ty:=⟨.struct #[⟨ "Fault",41,0,true, "", "",0⟩],2,16,[(.int .i64 0),(.int .i64 0)]⟩
def ty115:Ty:=⟨.pointer 119,1,8,[.nilptr]⟩
def ty116:Ty:=⟨.map 9 200,1,8,[.nilmap]⟩
def ty117:Ty:=⟨.slice 198,1,24,[.nilsl]⟩
def ty119:Ty:=⟨.struct #[⟨ "s",9,0,false, "", "stenotype/source",0⟩,⟨ "l",109,1,false, "", "stenotype/source",16⟩,⟨ "x",31,2,false, "", "stenotype/source",40⟩,⟨ "names",116,7,false, "", "stenotype/source",128⟩,⟨ "uses",117,8,false, "", "stenotype/source",136⟩,⟨ "total",3,9,false, "", "stenotype/source",160⟩],10,168,[(.str []),.nilsl,(.int .i64 0),.nilsl,(.str []),(.str []),.nilsl,.nilmap,.nilsl,(.int .i64 0)]⟩
def ty120:Ty:=⟨.func #[115] #[] false,1,8,[.nilfunc]⟩
def ty121:Ty:=⟨.array 6 120,6,48,[.nilfunc,.nilfunc,.nilfunc,.nilfunc,.nilfunc,.nilfunc]⟩
def ty122:Ty:=⟨.pointer 124,1,8,[.nilptr]⟩
def ty124:Ty:=⟨.struct #[⟨ "text",9,0,false, "", "stenotype/stenotyperef08",0⟩,⟨ "l",109,1,false, "", "stenotype/stenotyperef08",16⟩,⟨ "at",3,2,false, "", "stenotype/stenotyperef08",40⟩,⟨ "f",41,3,false, "", "stenotype/stenotyperef08",48⟩,⟨ "alts",3,5,false, "", "stenotype/stenotyperef08",64⟩,⟨ "x",31,6,false, "", "stenotype/stenotyperef08",72⟩],11,160,[(.str []),.nilsl,(.int .i64 0),(.int .i64 0),(.int .i64 0),(.int .i64 0),(.int .i64 0),.nilsl,(.str []),(.str []),.nilsl]⟩
def ty126:Ty:=⟨.struct #[⟨ "Kind",3,0,false, "", "",0⟩,⟨ "Text",9,1,false, "", "",8⟩,⟨ "At",3,2,false, "", "",24⟩],3,32,[(.int .i64 0),(.str []),(.int .i64 0)]⟩
def ty143:Ty:=⟨.func #[96] #[4] false,1,8,[.nilfunc]⟩
def ty148:Ty:=⟨.pointer 153,1,8,[.nilptr]⟩
def ty150:Ty:=⟨.struct #[⟨ "S",9,0,false, "", "",0⟩,⟨ "Most",3,1,false, "", "",16⟩,⟨ "Err",32,2,false, "", "",24⟩],3,32,[(.str []),(.int .i64 0),(.int .i64 0)]⟩
def ty153:Ty:=⟨.struct #[⟨ "Writer",150,0,true, "", "",0⟩],3,32,[(.str []),(.int .i64 0),(.int .i64 0)]⟩
def ty164:Ty:=⟨.int .u64,1,8,[(.int .u64 0)]⟩
def ty165:Ty:=⟨.map 9 3,1,8,[.nilmap]⟩
def ty185:Ty:=⟨.map 9 4,1,8,[.nilmap]⟩
def ty188:Ty:=⟨.func #[82] #[4] false,1,8,[.nilfunc]⟩
def ty189:Ty:=⟨.func #[233] #[] false,1,8,[.nilfunc]⟩
def ty190:Ty:=⟨.func #[233] #[] false,1,8,[.nilfunc]⟩
def ty198:Ty:=⟨.struct #[⟨ "name",9,0,false, "", "stenotype/source",0⟩,⟨ "at",3,1,false, "", "stenotype/source",16⟩],2,24,[(.str []),(.int .i64 0)]⟩
def ty200:Ty:=⟨.struct #[⟨ "token",4,0,false, "", "stenotype/source",0⟩,⟨ "sep",4,1,false, "", "stenotype/source",1⟩,⟨ "rule",4,2,false, "", "stenotype/source",2⟩],3,3,[(.bool false),(.bool false),(.bool false)]⟩
def ty215:Ty:=⟨.struct #[⟨ "Writer",150,0,true, "", "",0⟩],3,32,[(.str []),(.int .i64 0),(.int .i64 0)]⟩
def ty216:Ty:=⟨.pointer 215,1,8,[.nilptr]⟩
def ty230:Ty:=⟨.func #[3,82] #[4] false,1,8,[.nilfunc]⟩
def ty233:Ty:=⟨.func #[126,41] #[4] false,1,8,[.nilfunc]⟩
def ty234:Ty:=⟨.pointer 238,1,8,[.nilptr]⟩
def ty236:Ty:=⟨.struct #[⟨ "s",9,0,false, "", "stenotype/text",0⟩,⟨ "at",3,1,false, "", "stenotype/text",16⟩],2,24,[(.str []),(.int .i64 0)]⟩
def ty238:Ty:=⟨.struct #[⟨ "cursor",236,0,true, "", "stenotype/text",0⟩],2,24,[(.str []),(.int .i64 0)]⟩
def ty247:Ty:=⟨.slice 61,1,24,[.nilsl]⟩
def ty253:Ty:=⟨.int .i64,1,8,[(.int .i64 0)]⟩
def ty256:Ty:=⟨.func #[5] #[4] false,1,8,[.nilfunc]⟩
def ty261:Ty:=⟨.array 4 9,4,64,[(.str []),(.str []),(.str []),(.str [])]⟩
def ty262:Ty:=⟨.func #[256] #[] false,1,8,[.nilfunc]⟩
def ty263:Ty:=⟨.func #[256] #[] false,1,8,[.nilfunc]⟩
def ty266:Ty:=⟨.pointer 236,1,8,[.nilptr]⟩
def ty268:Ty:=⟨.slice 253,1,24,[.nilsl]⟩
def ty269:Ty:=⟨.array 4 5,4,4,[(.int .u8 0),(.int .u8 0),(.int .u8 0),(.int .u8 0)]⟩
noncomputable def Et:PT Ty:=(.node (.node (.node (.node (.node (.node .nil (some ty31) .nil) none (.node (.node (.node .nil (some ty143) .nil) none .nil) none .nil)) none (.node (.node (.node (.node (.node .nil (some ty263) .nil) none .nil) none .nil) none .nil) (some ty23) (.node (.node .nil none (.node .nil (some ty215) .nil)) none (.node .nil (some ty119) (.node .nil (some ty247) .nil))))) (some ty3) (.node (.node .nil none (.node .nil none (.node .nil (some ty115) .nil))) none (.node (.node (.node .nil (some ty75) .nil) none .nil) none .nil))) (some ty1) (.node (.node (.node (.node .nil none (.node .nil (some ty97) .nil)) none (.node .nil none (.node .nil (some ty113) .nil))) (some ty9) (.node (.node .nil (some ty41) (.node .nil none (.node .nil (some ty233) .nil))) (some ty25) (.node (.node (.node .nil (some ty153) .nil) none .nil) none (.node (.node .nil (some ty185) .nil) (some ty121) .nil)))) (some ty5) (.node (.node (.node (.node (.node (.node .nil (some ty261) .nil) none .nil) none .nil) (some ty37) (.node (.node .nil (some ty165) .nil) none .nil)) (some ty21) (.node .nil none (.node .nil (some ty117) .nil))) none (.node (.node (.node (.node (.node .nil (some ty269) .nil) none .nil) none .nil) none (.node .nil (some ty109) .nil)) (some ty29) (.node .nil (some ty61) (.node (.node .nil (some ty189) .nil) none (.node .nil (some ty253) .nil))))))) none (.node (.node (.node (.node (.node (.node (.node (.node .nil (some ty256) .nil) none .nil) none .nil) (some ty32) (.node .nil (some ty96) .nil)) none .nil) none (.node (.node (.node .nil none (.node .nil (some ty200) .nil)) none .nil) none (.node (.node .nil none (.node .nil (some ty216) .nil)) none (.node .nil (some ty120) .nil)))) (some ty4) (.node (.node (.node .nil none (.node (.node .nil (some ty164) .nil) none .nil)) (some ty20) (.node (.node (.node .nil (some ty148) .nil) none .nil) none (.node .nil (some ty116) .nil))) none (.node (.node (.node (.node (.node .nil (some ty268) .nil) none .nil) none .nil) (some ty44) (.node .nil none (.node .nil (some ty236) .nil))) none (.node .nil (some ty60) (.node (.node .nil (some ty188) .nil) (some ty124) .nil))))) none (.node (.node (.node (.node (.node .nil (some ty66) .nil) none (.node .nil (some ty98) .nil)) none (.node (.node .nil (some ty82) .nil) none .nil)) none (.node (.node (.node (.node (.node .nil (some ty266) .nil) none .nil) none .nil) none (.node .nil none (.node .nil (some ty234) .nil))) none (.node .nil none (.node .nil (some ty122) .nil)))) none (.node (.node (.node (.node (.node (.node .nil (some ty262) .nil) none .nil) none (.node .nil (some ty198) .nil)) none (.node .nil (some ty102) (.node .nil (some ty230) .nil))) (some ty22) (.node (.node (.node .nil (some ty150) .nil) none .nil) none .nil)) none (.node (.node .nil none (.node .nil none (.node .nil (some ty238) .nil))) none (.node (.node .nil (some ty94) .nil) none (.node (.node .nil (some ty190) .nil) (some ty126) .nil)))))))
noncomputable def Ft:PT FnI:=(.node (.node (.node (.node (.node (.node (.node (.node (.node .nil (some (mkFn Tryz.f255 [])) .nil) (some (mkFn Tryz.f127 [1])) .nil) none (.node .nil (some (mkFn Tryz.f191 [])) .nil)) none (.node .nil none (.node .nil (some (mkFn Tryz.f223 [])) .nil))) none (.node (.node .nil (some (mkFn Tryz.f79 [1,18])) (.node .nil (some (mkFn Tryz.f207 [2,9])) .nil)) none (.node .nil none (.node .nil (some (mkFn Tryz.f239 [])) .nil)))) (some (mkFn Tryz.f7 [])) (.node (.node (.node (.node .nil (some (mkFn Tryz.f135 [])) .nil) none .nil) none (.node (.node .nil (some (mkFn Tryz.f167 [1])) .nil) (some (mkFn Tryz.f103 [])) (.node .nil (some (mkFn Tryz.f231 [])) .nil))) none (.node .nil none (.node (.node .nil (some (mkFn Tryz.f183 [])) .nil) (some (mkFn Tryz.f119 [1])) .nil)))) none (.node (.node (.node (.node (.node .nil (some (mkFn Tryz.f131 [1,19])) .nil) none (.node .nil (some (mkFn Tryz.f195 [])) .nil)) (some (mkFn Tryz.f35 [131080,1,11])) (.node .nil (some (mkFn Tryz.f99 [12,29])) (.node .nil (some (mkFn Tryz.f227 [])) .nil))) none (.node .nil none (.node (.node .nil (some (mkFn Tryz.f179 [])) .nil) (some (mkFn Tryz.f115 [1,16])) .nil))) none (.node (.node (.node (.node (.node .nil (some (mkFn Tryz.f267 [])) .nil) (some (mkFn Tryz.f139 [])) .nil) none (.node .nil (some (mkFn Tryz.f203 [])) .nil)) (some (mkFn Tryz.f43 [1,42,94,100])) (.node (.node .nil (some (mkFn Tryz.f171 [2])) .nil) (some (mkFn Tryz.f107 [48,60])) .nil)) (some (mkFn Tryz.f27 [])) (.node .nil none (.node (.node .nil (some (mkFn Tryz.f187 [33,45])) .nil) (some (mkFn Tryz.f123 [])) (.node .nil (some (mkFn Tryz.f251 [5,15])) .nil)))))) none (.node (.node (.node (.node (.node (.node (.node .nil (some (mkFn Tryz.f257 [])) .nil) (some (mkFn Tryz.f129 [1])) .nil) none (.node .nil (some (mkFn Tryz.f193 [])) .nil)) none (.node .nil (some (mkFn Tryz.f97 [])) (.node .nil (some (mkFn Tryz.f225 [])) .nil))) none (.node (.node .nil (some (mkFn Tryz.f81 [1])) (.node .nil (some (mkFn Tryz.f209 [])) .nil)) (some (mkFn Tryz.f49 [])) (.node (.node .nil (some (mkFn Tryz.f177 [1])) .nil) none .nil))) none (.node (.node (.node (.node .nil (some (mkFn Tryz.f137 [7])) .nil) none (.node .nil (some (mkFn Tryz.f201 [])) .nil)) none (.node (.node .nil (some (mkFn Tryz.f169 [])) .nil) (some (mkFn Tryz.f105 [87])) (.node .nil (some (mkFn Tryz.f233 [1])) .nil))) none (.node .nil none (.node (.node .nil (some (mkFn Tryz.f185 [])) .nil) (some (mkFn Tryz.f121 [])) (.node .nil (some (mkFn Tryz.f249 [])) .nil))))) none (.node (.node (.node (.node (.node (.node .nil (some (mkFn Tryz.f261 [])) .nil) (some (mkFn Tryz.f133 [1])) .nil) none (.node .nil (some (mkFn Tryz.f197 [65])) .nil)) none (.node (.node .nil (some (mkFn Tryz.f165 [])) .nil) (some (mkFn Tryz.f101 [23])) (.node .nil (some (mkFn Tryz.f229 [])) .nil))) none (.node .nil none (.node (.node .nil (some (mkFn Tryz.f181 [3])) .nil) (some (mkFn Tryz.f117 [])) .nil))) none (.node (.node (.node (.node (.node .nil (some (mkFn Tryz.f269 [])) .nil) none .nil) (some (mkFn Tryz.f77 [1])) (.node .nil (some (mkFn Tryz.f205 [])) .nil)) (some (mkFn Tryz.f45 [1,21,34,49,65,77])) (.node (.node .nil (some (mkFn Tryz.f173 [])) .nil) none (.node .nil (some (mkFn Tryz.f237 [])) .nil))) none (.node (.node .nil none (.node .nil (some (mkFn Tryz.f221 [])) .nil)) none (.node (.node .nil (some (mkFn Tryz.f189 [])) .nil) (some (mkFn Tryz.f125 [])) (.node .nil (some (mkFn Tryz.f253 [])) .nil))))))) none (.node (.node (.node (.node (.node (.node (.node (.node .nil (some (mkFn Tryz.f256 [])) .nil) (some (mkFn Tryz.f128 [1])) .nil) none (.node .nil (some (mkFn Tryz.f192 [3])) .nil)) none (.node .nil (some (mkFn Tryz.f96 [22])) (.node .nil (some (mkFn Tryz.f224 [])) .nil))) none (.node (.node .nil (some (mkFn Tryz.f80 [1])) (.node .nil (some (mkFn Tryz.f208 [4])) .nil)) none (.node .nil none (.node .nil (some (mkFn Tryz.f240 [18])) .nil)))) none (.node (.node (.node (.node .nil (some (mkFn Tryz.f136 [])) .nil) (some (mkFn Tryz.f72 [])) (.node .nil (some (mkFn Tryz.f200 [131096])) .nil)) none (.node (.node .nil (some (mkFn Tryz.f168 [])) .nil) (some (mkFn Tryz.f104 [31])) (.node .nil (some (mkFn Tryz.f232 [3])) .nil))) none (.node .nil (some (mkFn Tryz.f56 [])) (.node (.node .nil (some (mkFn Tryz.f184 [])) .nil) (some (mkFn Tryz.f120 [3])) .nil)))) none (.node (.node (.node (.node (.node (.node .nil (some (mkFn Tryz.f260 [])) .nil) (some (mkFn Tryz.f132 [2])) .nil) none (.node .nil (some (mkFn Tryz.f196 [])) .nil)) (some (mkFn Tryz.f36 [1,28])) (.node (.node .nil (some (mkFn Tryz.f164 [2])) .nil) (some (mkFn Tryz.f100 [])) (.node .nil (some (mkFn Tryz.f228 [1])) .nil))) (some (mkFn Tryz.f20 [1,13,200001])) (.node .nil none (.node (.node .nil (some (mkFn Tryz.f180 [])) .nil) (some (mkFn Tryz.f116 [1])) .nil))) none (.node (.node (.node (.node (.node .nil (some (mkFn Tryz.f268 [])) .nil) (some (mkFn Tryz.f140 [1])) .nil) none (.node .nil (some (mkFn Tryz.f204 [])) .nil)) (some (mkFn Tryz.f44 [])) (.node (.node .nil (some (mkFn Tryz.f172 [])) .nil) (some (mkFn Tryz.f108 [4])) (.node .nil (some (mkFn Tryz.f236 [65558,200000])) .nil))) (some (mkFn Tryz.f28 [])) (.node .nil none (.node (.node .nil (some (mkFn Tryz.f188 [])) .nil) (some (mkFn Tryz.f124 [])) (.node .nil (some (mkFn Tryz.f252 [])) .nil)))))) none (.node (.node (.node (.node (.node (.node .nil (some (mkFn Tryz.f130 [])) .nil) none (.node .nil (some (mkFn Tryz.f194 [])) .nil)) (some (mkFn Tryz.f34 [1])) (.node .nil (some (mkFn Tryz.f98 [])) (.node .nil (some (mkFn Tryz.f226 [33,40])) .nil))) none (.node (.node .nil (some (mkFn Tryz.f82 [1])) .nil) none (.node (.node .nil (some (mkFn Tryz.f178 [])) .nil) none .nil))) none (.node (.node (.node (.node (.node .nil (some (mkFn Tryz.f266 [])) .nil) (some (mkFn Tryz.f138 [2,20])) .nil) (some (mkFn Tryz.f74 [1])) (.node .nil (some (mkFn Tryz.f202 [])) .nil)) (some (mkFn Tryz.f42 [])) (.node (.node .nil (some (mkFn Tryz.f170 [])) .nil) (some (mkFn Tryz.f106 [])) .nil)) none (.node .nil none (.node (.node .nil (some (mkFn Tryz.f186 [3])) .nil) (some (mkFn Tryz.f122 [])) (.node .nil (some (mkFn Tryz.f250 [])) .nil))))) none (.node (.node (.node (.node (.node (.node .nil (some (mkFn Tryz.f262 [])) .nil) (some (mkFn Tryz.f134 [2])) .nil) none .nil) none (.node (.node .nil (some (mkFn Tryz.f166 [2])) .nil) (some (mkFn Tryz.f102 [88,100])) (.node .nil (some (mkFn Tryz.f230 [])) .nil))) none (.node .nil (some (mkFn Tryz.f54 [1,57,95,102])) (.node (.node .nil (some (mkFn Tryz.f182 [])) .nil) (some (mkFn Tryz.f118 [1])) .nil))) none (.node (.node (.node .nil (some (mkFn Tryz.f78 [1,28])) (.node .nil (some (mkFn Tryz.f206 [])) .nil)) none (.node .nil (some (mkFn Tryz.f110 [7])) (.node .nil (some (mkFn Tryz.f238 [])) .nil))) (some (mkFn Tryz.f30 [40,54])) (.node (.node .nil none (.node .nil (some (mkFn Tryz.f222 [])) .nil)) none (.node (.node .nil (some (mkFn Tryz.f190 [])) .nil) (some (mkFn Tryz.f126 [])) (.node .nil (some (mkFn Tryz.f254 [])) .nil))))))))
theorem Yo:EnvOK Tryz.prog Et:=envOK_of ⟨trivial,⟨⟨by kernel_rfl,by kernel_rfl⟩,⟨⟨by kernel_rfl,by kernel_rfl⟩,⟨trivial,⟨trivial,⟨⟨by kernel_rfl,by kernel_rfl⟩,trivial,trivial⟩,⟨trivial,⟨trivial,⟨⟨by kernel_rfl,by kernel_rfl⟩,trivial,trivial⟩,trivial⟩,trivial⟩⟩,⟨⟨by kernel_rfl,by kernel_rfl⟩,⟨trivial,⟨trivial,⟨trivial,⟨⟨by kernel_rfl,by kernel_rfl⟩,trivial,trivial⟩,trivial⟩,trivial⟩,trivial⟩,⟨trivial,⟨trivial,trivial,⟨⟨by kernel_rfl,by kernel_rfl⟩,trivial,trivial⟩⟩,⟨⟨by kernel_rfl,by kernel_rfl⟩,trivial,⟨⟨by kernel_rfl,by kernel_rfl⟩,trivial,trivial⟩⟩⟩⟩⟩,⟨trivial,⟨trivial,trivial,⟨trivial,trivial,⟨⟨by kernel_rfl,by kernel_rfl⟩,trivial,trivial⟩⟩⟩,⟨trivial,⟨trivial,⟨⟨by kernel_rfl,by kernel_rfl⟩,trivial,trivial⟩,trivial⟩,trivial⟩⟩⟩,⟨⟨by kernel_rfl,by kernel_rfl⟩,⟨⟨by kernel_rfl,by kernel_rfl⟩,⟨trivial,⟨trivial,trivial,⟨⟨by kernel_rfl,by kernel_rfl⟩,trivial,trivial⟩⟩,⟨trivial,trivial,⟨⟨by kernel_rfl,by kernel_rfl⟩,trivial,trivial⟩⟩⟩,⟨⟨by kernel_rfl,by kernel_rfl⟩,⟨⟨by kernel_rfl,by kernel_rfl⟩,trivial,⟨trivial,trivial,⟨⟨by kernel_rfl,by kernel_rfl⟩,trivial,trivial⟩⟩⟩,⟨trivial,⟨trivial,⟨⟨by kernel_rfl,by kernel_rfl⟩,trivial,trivial⟩,trivial⟩,⟨⟨by kernel_rfl,by kernel_rfl⟩,⟨⟨by kernel_rfl,by kernel_rfl⟩,trivial,trivial⟩,trivial⟩⟩⟩⟩,⟨trivial,⟨⟨by kernel_rfl,by kernel_rfl⟩,⟨⟨by kernel_rfl,by kernel_rfl⟩,⟨trivial,⟨trivial,⟨⟨by kernel_rfl,by kernel_rfl⟩,trivial,trivial⟩,trivial⟩,trivial⟩,⟨trivial,⟨⟨by kernel_rfl,by kernel_rfl⟩,trivial,trivial⟩,trivial⟩⟩,⟨trivial,trivial,⟨⟨by kernel_rfl,by kernel_rfl⟩,trivial,trivial⟩⟩⟩,⟨⟨by kernel_rfl,by kernel_rfl⟩,⟨trivial,⟨trivial,⟨trivial,⟨⟨by kernel_rfl,by kernel_rfl⟩,trivial,trivial⟩,trivial⟩,trivial⟩,⟨⟨by kernel_rfl,by kernel_rfl⟩,trivial,trivial⟩⟩,⟨⟨by kernel_rfl,by kernel_rfl⟩,trivial,⟨trivial,⟨⟨by kernel_rfl,by kernel_rfl⟩,trivial,trivial⟩,⟨⟨by kernel_rfl,by kernel_rfl⟩,trivial,trivial⟩⟩⟩⟩⟩⟩⟩,⟨trivial,⟨⟨by kernel_rfl,by kernel_rfl⟩,⟨trivial,⟨trivial,⟨⟨by kernel_rfl,by kernel_rfl⟩,⟨trivial,⟨trivial,⟨⟨by kernel_rfl,by kernel_rfl⟩,trivial,trivial⟩,trivial⟩,trivial⟩,⟨⟨by kernel_rfl,by kernel_rfl⟩,trivial,trivial⟩⟩,trivial⟩,⟨trivial,⟨trivial,⟨trivial,trivial,⟨⟨by kernel_rfl,by kernel_rfl⟩,trivial,trivial⟩⟩,trivial⟩,⟨trivial,⟨trivial,trivial,⟨⟨by kernel_rfl,by kernel_rfl⟩,trivial,trivial⟩⟩,⟨⟨by kernel_rfl,by kernel_rfl⟩,trivial,trivial⟩⟩⟩⟩,⟨trivial,⟨⟨by kernel_rfl,by kernel_rfl⟩,⟨trivial,trivial,⟨trivial,⟨⟨by kernel_rfl,by kernel_rfl⟩,trivial,trivial⟩,trivial⟩⟩,⟨trivial,⟨trivial,⟨⟨by kernel_rfl,by kernel_rfl⟩,trivial,trivial⟩,trivial⟩,⟨⟨by kernel_rfl,by kernel_rfl⟩,trivial,trivial⟩⟩⟩,⟨trivial,⟨⟨by kernel_rfl,by kernel_rfl⟩,⟨trivial,⟨trivial,⟨⟨by kernel_rfl,by kernel_rfl⟩,trivial,trivial⟩,trivial⟩,trivial⟩,⟨trivial,trivial,⟨⟨by kernel_rfl,by kernel_rfl⟩,trivial,trivial⟩⟩⟩,⟨⟨by kernel_rfl,by kernel_rfl⟩,trivial,⟨⟨by kernel_rfl,by kernel_rfl⟩,⟨⟨by kernel_rfl,by kernel_rfl⟩,trivial,trivial⟩,trivial⟩⟩⟩⟩⟩,⟨trivial,⟨trivial,⟨trivial,⟨trivial,⟨⟨by kernel_rfl,by kernel_rfl⟩,trivial,trivial⟩,⟨⟨by kernel_rfl,by kernel_rfl⟩,trivial,trivial⟩⟩,⟨trivial,⟨⟨by kernel_rfl,by kernel_rfl⟩,trivial,trivial⟩,trivial⟩⟩,⟨trivial,⟨trivial,⟨trivial,⟨trivial,⟨⟨by kernel_rfl,by kernel_rfl⟩,trivial,trivial⟩,trivial⟩,trivial⟩,⟨trivial,trivial,⟨⟨by kernel_rfl,by kernel_rfl⟩,trivial,trivial⟩⟩⟩,⟨trivial,trivial,⟨⟨by kernel_rfl,by kernel_rfl⟩,trivial,trivial⟩⟩⟩⟩,⟨trivial,⟨⟨by kernel_rfl,by kernel_rfl⟩,⟨trivial,⟨trivial,⟨trivial,⟨⟨by kernel_rfl,by kernel_rfl⟩,trivial,trivial⟩,trivial⟩,⟨⟨by kernel_rfl,by kernel_rfl⟩,trivial,trivial⟩⟩,⟨⟨by kernel_rfl,by kernel_rfl⟩,trivial,⟨⟨by kernel_rfl,by kernel_rfl⟩,trivial,trivial⟩⟩⟩,⟨trivial,⟨trivial,⟨⟨by kernel_rfl,by kernel_rfl⟩,trivial,trivial⟩,trivial⟩,trivial⟩⟩,⟨trivial,⟨trivial,trivial,⟨trivial,trivial,⟨⟨by kernel_rfl,by kernel_rfl⟩,trivial,trivial⟩⟩⟩,⟨trivial,⟨⟨by kernel_rfl,by kernel_rfl⟩,trivial,trivial⟩,⟨⟨by kernel_rfl,by kernel_rfl⟩,⟨⟨by kernel_rfl,by kernel_rfl⟩,trivial,trivial⟩,trivial⟩⟩⟩⟩⟩⟩⟩
theorem Ft_ok:FnsOK Tryz.prog Ft.get?:=fnsOK_of ⟨trivial,⟨trivial,⟨trivial,⟨(fnAt Tryz.func7 (by kernel_rfl) (by kernel_rfl)),⟨trivial,⟨trivial,⟨trivial,⟨(fnAt Tryz.func127 (by kernel_rfl) (by kernel_rfl)),⟨(fnAt Tryz.func255 (by kernel_rfl) (by kernel_rfl)),trivial,trivial⟩,trivial⟩,⟨(fnAt Tryz.func191 (by kernel_rfl) (by kernel_rfl)),trivial,trivial⟩⟩,⟨trivial,trivial,⟨(fnAt Tryz.func223 (by kernel_rfl) (by kernel_rfl)),trivial,trivial⟩⟩⟩,⟨trivial,⟨(fnAt Tryz.func79 (by kernel_rfl) (by kernel_rfl)),trivial,⟨(fnAt Tryz.func207 (by kernel_rfl) (by kernel_rfl)),trivial,trivial⟩⟩,⟨trivial,trivial,⟨(fnAt Tryz.func239 (by kernel_rfl) (by kernel_rfl)),trivial,trivial⟩⟩⟩⟩,⟨trivial,⟨trivial,⟨trivial,⟨(fnAt Tryz.func135 (by kernel_rfl) (by kernel_rfl)),trivial,trivial⟩,trivial⟩,⟨(fnAt Tryz.func103 (by kernel_rfl) (by kernel_rfl)),⟨(fnAt Tryz.func167 (by kernel_rfl) (by kernel_rfl)),trivial,trivial⟩,⟨(fnAt Tryz.func231 (by kernel_rfl) (by kernel_rfl)),trivial,trivial⟩⟩⟩,⟨trivial,trivial,⟨(fnAt Tryz.func119 (by kernel_rfl) (by kernel_rfl)),⟨(fnAt Tryz.func183 (by kernel_rfl) (by kernel_rfl)),trivial,trivial⟩,trivial⟩⟩⟩⟩,⟨trivial,⟨trivial,⟨(fnAt Tryz.func35 (by kernel_rfl) (by kernel_rfl)),⟨trivial,⟨(fnAt Tryz.func131 (by kernel_rfl) (by kernel_rfl)),trivial,trivial⟩,⟨(fnAt Tryz.func195 (by kernel_rfl) (by kernel_rfl)),trivial,trivial⟩⟩,⟨(fnAt Tryz.func99 (by kernel_rfl) (by kernel_rfl)),trivial,⟨(fnAt Tryz.func227 (by kernel_rfl) (by kernel_rfl)),trivial,trivial⟩⟩⟩,⟨trivial,trivial,⟨(fnAt Tryz.func115 (by kernel_rfl) (by kernel_rfl)),⟨(fnAt Tryz.func179 (by kernel_rfl) (by kernel_rfl)),trivial,trivial⟩,trivial⟩⟩⟩,⟨(fnAt Tryz.func27 (by kernel_rfl) (by kernel_rfl)),⟨(fnAt Tryz.func43 (by kernel_rfl) (by kernel_rfl)),⟨trivial,⟨(fnAt Tryz.func139 (by kernel_rfl) (by kernel_rfl)),⟨(fnAt Tryz.func267 (by kernel_rfl) (by kernel_rfl)),trivial,trivial⟩,trivial⟩,⟨(fnAt Tryz.func203 (by kernel_rfl) (by kernel_rfl)),trivial,trivial⟩⟩,⟨(fnAt Tryz.func107 (by kernel_rfl) (by kernel_rfl)),⟨(fnAt Tryz.func171 (by kernel_rfl) (by kernel_rfl)),trivial,trivial⟩,trivial⟩⟩,⟨trivial,trivial,⟨(fnAt Tryz.func123 (by kernel_rfl) (by kernel_rfl)),⟨(fnAt Tryz.func187 (by kernel_rfl) (by kernel_rfl)),trivial,trivial⟩,⟨(fnAt Tryz.func251 (by kernel_rfl) (by kernel_rfl)),trivial,trivial⟩⟩⟩⟩⟩⟩,⟨trivial,⟨trivial,⟨trivial,⟨trivial,⟨trivial,⟨(fnAt Tryz.func129 (by kernel_rfl) (by kernel_rfl)),⟨(fnAt Tryz.func257 (by kernel_rfl) (by kernel_rfl)),trivial,trivial⟩,trivial⟩,⟨(fnAt Tryz.func193 (by kernel_rfl) (by kernel_rfl)),trivial,trivial⟩⟩,⟨(fnAt Tryz.func97 (by kernel_rfl) (by kernel_rfl)),trivial,⟨(fnAt Tryz.func225 (by kernel_rfl) (by kernel_rfl)),trivial,trivial⟩⟩⟩,⟨(fnAt Tryz.func49 (by kernel_rfl) (by kernel_rfl)),⟨(fnAt Tryz.func81 (by kernel_rfl) (by kernel_rfl)),trivial,⟨(fnAt Tryz.func209 (by kernel_rfl) (by kernel_rfl)),trivial,trivial⟩⟩,⟨trivial,⟨(fnAt Tryz.func177 (by kernel_rfl) (by kernel_rfl)),trivial,trivial⟩,trivial⟩⟩⟩,⟨trivial,⟨trivial,⟨trivial,⟨(fnAt Tryz.func137 (by kernel_rfl) (by kernel_rfl)),trivial,trivial⟩,⟨(fnAt Tryz.func201 (by kernel_rfl) (by kernel_rfl)),trivial,trivial⟩⟩,⟨(fnAt Tryz.func105 (by kernel_rfl) (by kernel_rfl)),⟨(fnAt Tryz.func169 (by kernel_rfl) (by kernel_rfl)),trivial,trivial⟩,⟨(fnAt Tryz.func233 (by kernel_rfl) (by kernel_rfl)),trivial,trivial⟩⟩⟩,⟨trivial,trivial,⟨(fnAt Tryz.func121 (by kernel_rfl) (by kernel_rfl)),⟨(fnAt Tryz.func185 (by kernel_rfl) (by kernel_rfl)),trivial,trivial⟩,⟨(fnAt Tryz.func249 (by kernel_rfl) (by kernel_rfl)),trivial,trivial⟩⟩⟩⟩⟩,⟨trivial,⟨trivial,⟨trivial,⟨trivial,⟨(fnAt Tryz.func133 (by kernel_rfl) (by kernel_rfl)),⟨(fnAt Tryz.func261 (by kernel_rfl) (by kernel_rfl)),trivial,trivial⟩,trivial⟩,⟨(fnAt Tryz.func197 (by kernel_rfl) (by kernel_rfl)),trivial,trivial⟩⟩,⟨(fnAt Tryz.func101 (by kernel_rfl) (by kernel_rfl)),⟨(fnAt Tryz.func165 (by kernel_rfl) (by kernel_rfl)),trivial,trivial⟩,⟨(fnAt Tryz.func229 (by kernel_rfl) (by kernel_rfl)),trivial,trivial⟩⟩⟩,⟨trivial,trivial,⟨(fnAt Tryz.func117 (by kernel_rfl) (by kernel_rfl)),⟨(fnAt Tryz.func181 (by kernel_rfl) (by kernel_rfl)),trivial,trivial⟩,trivial⟩⟩⟩,⟨trivial,⟨(fnAt Tryz.func45 (by kernel_rfl) (by kernel_rfl)),⟨(fnAt Tryz.func77 (by kernel_rfl) (by kernel_rfl)),⟨trivial,⟨(fnAt Tryz.func269 (by kernel_rfl) (by kernel_rfl)),trivial,trivial⟩,trivial⟩,⟨(fnAt Tryz.func205 (by kernel_rfl) (by kernel_rfl)),trivial,trivial⟩⟩,⟨trivial,⟨(fnAt Tryz.func173 (by kernel_rfl) (by kernel_rfl)),trivial,trivial⟩,⟨(fnAt Tryz.func237 (by kernel_rfl) (by kernel_rfl)),trivial,trivial⟩⟩⟩,⟨trivial,⟨trivial,trivial,⟨(fnAt Tryz.func221 (by kernel_rfl) (by kernel_rfl)),trivial,trivial⟩⟩,⟨(fnAt Tryz.func125 (by kernel_rfl) (by kernel_rfl)),⟨(fnAt Tryz.func189 (by kernel_rfl) (by kernel_rfl)),trivial,trivial⟩,⟨(fnAt Tryz.func253 (by kernel_rfl) (by kernel_rfl)),trivial,trivial⟩⟩⟩⟩⟩⟩⟩,⟨trivial,⟨trivial,⟨trivial,⟨trivial,⟨trivial,⟨trivial,⟨(fnAt Tryz.func128 (by kernel_rfl) (by kernel_rfl)),⟨(fnAt Tryz.func256 (by kernel_rfl) (by kernel_rfl)),trivial,trivial⟩,trivial⟩,⟨(fnAt Tryz.func192 (by kernel_rfl) (by kernel_rfl)),trivial,trivial⟩⟩,⟨(fnAt Tryz.func96 (by kernel_rfl) (by kernel_rfl)),trivial,⟨(fnAt Tryz.func224 (by kernel_rfl) (by kernel_rfl)),trivial,trivial⟩⟩⟩,⟨trivial,⟨(fnAt Tryz.func80 (by kernel_rfl) (by kernel_rfl)),trivial,⟨(fnAt Tryz.func208 (by kernel_rfl) (by kernel_rfl)),trivial,trivial⟩⟩,⟨trivial,trivial,⟨(fnAt Tryz.func240 (by kernel_rfl) (by kernel_rfl)),trivial,trivial⟩⟩⟩⟩,⟨trivial,⟨trivial,⟨(fnAt Tryz.func72 (by kernel_rfl) (by kernel_rfl)),⟨(fnAt Tryz.func136 (by kernel_rfl) (by kernel_rfl)),trivial,trivial⟩,⟨(fnAt Tryz.func200 (by kernel_rfl) (by kernel_rfl)),trivial,trivial⟩⟩,⟨(fnAt Tryz.func104 (by kernel_rfl) (by kernel_rfl)),⟨(fnAt Tryz.func168 (by kernel_rfl) (by kernel_rfl)),trivial,trivial⟩,⟨(fnAt Tryz.func232 (by kernel_rfl) (by kernel_rfl)),trivial,trivial⟩⟩⟩,⟨(fnAt Tryz.func56 (by kernel_rfl) (by kernel_rfl)),trivial,⟨(fnAt Tryz.func120 (by kernel_rfl) (by kernel_rfl)),⟨(fnAt Tryz.func184 (by kernel_rfl) (by kernel_rfl)),trivial,trivial⟩,trivial⟩⟩⟩⟩,⟨trivial,⟨(fnAt Tryz.func20 (by kernel_rfl) (by kernel_rfl)),⟨(fnAt Tryz.func36 (by kernel_rfl) (by kernel_rfl)),⟨trivial,⟨(fnAt Tryz.func132 (by kernel_rfl) (by kernel_rfl)),⟨(fnAt Tryz.func260 (by kernel_rfl) (by kernel_rfl)),trivial,trivial⟩,trivial⟩,⟨(fnAt Tryz.func196 (by kernel_rfl) (by kernel_rfl)),trivial,trivial⟩⟩,⟨(fnAt Tryz.func100 (by kernel_rfl) (by kernel_rfl)),⟨(fnAt Tryz.func164 (by kernel_rfl) (by kernel_rfl)),trivial,trivial⟩,⟨(fnAt Tryz.func228 (by kernel_rfl) (by kernel_rfl)),trivial,trivial⟩⟩⟩,⟨trivial,trivial,⟨(fnAt Tryz.func116 (by kernel_rfl) (by kernel_rfl)),⟨(fnAt Tryz.func180 (by kernel_rfl) (by kernel_rfl)),trivial,trivial⟩,trivial⟩⟩⟩,⟨(fnAt Tryz.func28 (by kernel_rfl) (by kernel_rfl)),⟨(fnAt Tryz.func44 (by kernel_rfl) (by kernel_rfl)),⟨trivial,⟨(fnAt Tryz.func140 (by kernel_rfl) (by kernel_rfl)),⟨(fnAt Tryz.func268 (by kernel_rfl) (by kernel_rfl)),trivial,trivial⟩,trivial⟩,⟨(fnAt Tryz.func204 (by kernel_rfl) (by kernel_rfl)),trivial,trivial⟩⟩,⟨(fnAt Tryz.func108 (by kernel_rfl) (by kernel_rfl)),⟨(fnAt Tryz.func172 (by kernel_rfl) (by kernel_rfl)),trivial,trivial⟩,⟨(fnAt Tryz.func236 (by kernel_rfl) (by kernel_rfl)),trivial,trivial⟩⟩⟩,⟨trivial,trivial,⟨(fnAt Tryz.func124 (by kernel_rfl) (by kernel_rfl)),⟨(fnAt Tryz.func188 (by kernel_rfl) (by kernel_rfl)),trivial,trivial⟩,⟨(fnAt Tryz.func252 (by kernel_rfl) (by kernel_rfl)),trivial,trivial⟩⟩⟩⟩⟩⟩,⟨trivial,⟨trivial,⟨trivial,⟨(fnAt Tryz.func34 (by kernel_rfl) (by kernel_rfl)),⟨trivial,⟨(fnAt Tryz.func130 (by kernel_rfl) (by kernel_rfl)),trivial,trivial⟩,⟨(fnAt Tryz.func194 (by kernel_rfl) (by kernel_rfl)),trivial,trivial⟩⟩,⟨(fnAt Tryz.func98 (by kernel_rfl) (by kernel_rfl)),trivial,⟨(fnAt Tryz.func226 (by kernel_rfl) (by kernel_rfl)),trivial,trivial⟩⟩⟩,⟨trivial,⟨(fnAt Tryz.func82 (by kernel_rfl) (by kernel_rfl)),trivial,trivial⟩,⟨trivial,⟨(fnAt Tryz.func178 (by kernel_rfl) (by kernel_rfl)),trivial,trivial⟩,trivial⟩⟩⟩,⟨trivial,⟨(fnAt Tryz.func42 (by kernel_rfl) (by kernel_rfl)),⟨(fnAt Tryz.func74 (by kernel_rfl) (by kernel_rfl)),⟨(fnAt Tryz.func138 (by kernel_rfl) (by kernel_rfl)),⟨(fnAt Tryz.func266 (by kernel_rfl) (by kernel_rfl)),trivial,trivial⟩,trivial⟩,⟨(fnAt Tryz.func202 (by kernel_rfl) (by kernel_rfl)),trivial,trivial⟩⟩,⟨(fnAt Tryz.func106 (by kernel_rfl) (by kernel_rfl)),⟨(fnAt Tryz.func170 (by kernel_rfl) (by kernel_rfl)),trivial,trivial⟩,trivial⟩⟩,⟨trivial,trivial,⟨(fnAt Tryz.func122 (by kernel_rfl) (by kernel_rfl)),⟨(fnAt Tryz.func186 (by kernel_rfl) (by kernel_rfl)),trivial,trivial⟩,⟨(fnAt Tryz.func250 (by kernel_rfl) (by kernel_rfl)),trivial,trivial⟩⟩⟩⟩⟩,⟨trivial,⟨trivial,⟨trivial,⟨trivial,⟨(fnAt Tryz.func134 (by kernel_rfl) (by kernel_rfl)),⟨(fnAt Tryz.func262 (by kernel_rfl) (by kernel_rfl)),trivial,trivial⟩,trivial⟩,trivial⟩,⟨(fnAt Tryz.func102 (by kernel_rfl) (by kernel_rfl)),⟨(fnAt Tryz.func166 (by kernel_rfl) (by kernel_rfl)),trivial,trivial⟩,⟨(fnAt Tryz.func230 (by kernel_rfl) (by kernel_rfl)),trivial,trivial⟩⟩⟩,⟨(fnAt Tryz.func54 (by kernel_rfl) (by kernel_rfl)),trivial,⟨(fnAt Tryz.func118 (by kernel_rfl) (by kernel_rfl)),⟨(fnAt Tryz.func182 (by kernel_rfl) (by kernel_rfl)),trivial,trivial⟩,trivial⟩⟩⟩,⟨(fnAt Tryz.func30 (by kernel_rfl) (by kernel_rfl)),⟨trivial,⟨(fnAt Tryz.func78 (by kernel_rfl) (by kernel_rfl)),trivial,⟨(fnAt Tryz.func206 (by kernel_rfl) (by kernel_rfl)),trivial,trivial⟩⟩,⟨(fnAt Tryz.func110 (by kernel_rfl) (by kernel_rfl)),trivial,⟨(fnAt Tryz.func238 (by kernel_rfl) (by kernel_rfl)),trivial,trivial⟩⟩⟩,⟨trivial,⟨trivial,trivial,⟨(fnAt Tryz.func222 (by kernel_rfl) (by kernel_rfl)),trivial,trivial⟩⟩,⟨(fnAt Tryz.func126 (by kernel_rfl) (by kernel_rfl)),⟨(fnAt Tryz.func190 (by kernel_rfl) (by kernel_rfl)),trivial,trivial⟩,⟨(fnAt Tryz.func254 (by kernel_rfl) (by kernel_rfl)),trivial,trivial⟩⟩⟩⟩⟩⟩⟩⟩
end Go.Av
noncomputable section
namespace Go.Av
open Go Go.Proofs
def Fz (_:List Nat):Prop:=True
section
variable {frz:List Nat} {nt m:Nat} {ro':Option Nat} {K:Ex->S->Prop} {ops:Array Oper} {l:List Oper} {o:Oper} {tm tm' tm1 tm0:PT AV} {objs objs':List Ob} {dl:List Dl} {b:Bool} {ob:Option (List Ob)} {fl:Bool} {s s0:S} {i:Nat} {acc:List Eff} {G:S->Prop} {P A B X Y Q:Prop} {g:FuncId} {ds:List DV} {r:AV}
theorem oXw (_:Fz frz) {v v':AV} (k:RunOps Tryz.prog nt m ro' ops l ⟨tm',objs',dl⟩ K) (hg:guardA ops (rd tm) o=some true:=by rfl) (hv:evAny Et H0 frz (rd tm) objs o=some (v',ob,fl):=by rfl) (hf:fl=true:=by rfl)
  (he:v'=v:=by first|(conv=>lhs;dsimp only)|rfl) (ho:ob.getD objs=objs':=by first|(conv=>lhs;dsimp only [Option.getD])|rfl) (hp:isPan v=false:=by rfl) (ht:setD nt tm o.dst v=some tm':=by rfl) :
  RunOps Tryz.prog nt m ro' ops (o :: l) ⟨tm,objs,dl⟩ K:=RunOps.x Yo hg hv hf he ho hp ht k
theorem oXn (_:Fz frz) {v v':AV} (k:RunOps Tryz.prog nt m ro' ops l ⟨tm',objs',dl⟩ K) (_:boolOp o.op=false:=by rfl) (hg:guardA ops (rd tm) o=some true:=by rfl) (hv:evAny Et H0 frz (rd tm) objs o=some (v',ob,fl):=by rfl) (hf:fl=true:=by rfl)
  (he:v'=v:=by first|(conv=>lhs;dsimp only)|rfl) (ho:ob.getD objs=objs':=by first|(conv=>lhs;dsimp only [Option.getD])|rfl) (hp:isPan v=false:=by rfl) (ht:setD nt tm o.dst v=some tm':=by rfl) :
  RunOps Tryz.prog nt m ro' ops (o :: l) ⟨tm,objs,dl⟩ K:=RunOps.x Yo hg hv hf he ho hp ht k
theorem eXn {v v':AV} (k:EvD Tryz.prog Et frz nt ops s0 (i+1) (acc++[effOf (rd tm) objs o ob]) l ⟨tm',objs',dl⟩ G) (_:boolOp o.op=false:=by rfl) (hg:guardA ops (rd tm) o=some true:=by rfl) (hv:evAny Et H0 frz (rd tm) objs o=some (v',ob,fl):=by rfl) (hf:fl=true:=by rfl)
  (he:v'=v:=by first|(conv=>lhs;dsimp only)|rfl) (ho:ob.getD objs=objs':=by first|(conv=>lhs;dsimp only [Option.getD])|rfl) (hp:isPan v=false:=by rfl) (ht:setD nt tm o.dst v=some tm':=by rfl) :
  EvD Tryz.prog Et frz nt ops s0 i acc (o :: l) ⟨tm,objs,dl⟩ G:=EvD.x hg hv hf he ho hp ht k
theorem oBw (_:Fz frz) (k1:b=true->RunOps Tryz.prog nt m ro' ops l ⟨tm1,objs',dl⟩ K) (k0:b=false->RunOps Tryz.prog nt m ro' ops l ⟨tm0,objs',dl⟩ K) (hb:boolOp o.op=true:=by rfl) (hg:guardA ops (rd tm) o=some true:=by rfl)
  (hv:evAny Et H0 frz (rd tm) objs o=some (.d (.bool b),ob,fl):=by rfl) (hf:fl=true:=by rfl) (ho:ob.getD objs=objs':=by first|(conv=>lhs;dsimp only [Option.getD])|rfl) (ht1:setD nt tm o.dst (.d (.bool true))=some tm1:=by rfl) (ht0:setD nt tm o.dst (.d (.bool false))=some tm0:=by rfl) :
  RunOps Tryz.prog nt m ro' ops (o :: l) ⟨tm,objs,dl⟩ K:=RunOps.xb Yo hb hg hv hf ho ht1 ht0 k1 k0
theorem dW (_:Fz frz) {id:Nat} (h:EvD Tryz.prog Et frz nt ops s 0 [] ops.toList s (fun s'=>K .normal s')):Run Tryz.prog nt m ro' (.region id ops true) s K:=Yd Yo (by kernel_rfl) h
theorem gD {α:Type} (l:List α) (i:Nat) (d:α):l.getD i d=l[i]?.getD d:=List.getD_eq_getElem?_getD
theorem oI {v v':AV} (k:RunOps Tryz.prog nt m ro' ops l ⟨tm',objs',dl⟩ K) (hg:guardA ops (rd tm) o=some true:=by rfl) (hv:evAny Et H0 frz (rd tm) objs o=some (v',ob,fl):=by rfl) (hf:fl=true:=by first|(simp [inB]<;>fail)|(simp [inB];omega))
  (he:v'=v:=by first|(conv=>lhs;dsimp only)|rfl) (ho:ob.getD objs=objs':=by first|(conv=>lhs;dsimp only [Option.getD])|rfl) (hp:isPan v=false:=by rfl) (ht:setD nt tm o.dst v=some tm':=by rfl) :
  RunOps Tryz.prog nt m ro' ops (o :: l) ⟨tm,objs,dl⟩ K:=RunOps.x Yo hg hv hf he ho hp ht k
theorem eI {v v':AV} (k:EvD Tryz.prog Et frz nt ops s0 (i+1) (acc++[effOf (rd tm) objs o ob]) l ⟨tm',objs',dl⟩ G) (hg:guardA ops (rd tm) o=some true:=by rfl) (hv:evAny Et H0 frz (rd tm) objs o=some (v',ob,fl):=by rfl) (hf:fl=true:=by first|(simp [inB]<;>fail)|(simp [inB];omega))
  (he:v'=v:=by first|(conv=>lhs;dsimp only)|rfl) (ho:ob.getD objs=objs':=by first|(conv=>lhs;dsimp only [Option.getD])|rfl) (hp:isPan v=false:=by rfl) (ht:setD nt tm o.dst v=some tm':=by rfl) :
  EvD Tryz.prog Et frz nt ops s0 i acc (o :: l) ⟨tm,objs,dl⟩ G:=EvD.x hg hv hf he ho hp ht k
theorem ti {k:Nat} (l:List (Nat × AV)) (n:Nat) (ho:objs.take n=objs':=by rfl) (hn:Nat.ble k n=true:=by rfl) (h:allTidy tm l:=by repeat' (first|exact trivial|refine⟨(Or.inl rfl),?_⟩|refine⟨(Or.inr rfl),?_⟩|refine⟨(Or.inl (inc_get (by kernel_rfl) (by omega))),?_⟩|fail))
  (hl:allQ (refA 8 n) l:=by repeat' (first|exact trivial|refine⟨rfl,?_⟩|fail)) (hr:objs'.all (refOb n)=true:=by rfl) (hd:dl.all (refDl n)=true:=by rfl):Tidy k ⟨tm,objs,dl⟩ ⟨PT.ofList l,objs',dl⟩:=tidy_of l n ho hn h hl hr hd
theorem wkE {x y:List Ob} (h:WkObs x y:=by repeat' (first|exact trivial|refine⟨.refl,?_⟩|refine⟨.gone,?_⟩|refine⟨.box (by repeat' (first|exact trivial|refine⟨.inr rfl,?_⟩|refine⟨.inl rfl,?_⟩)),?_⟩)):WkObs x y:=h
theorem zX (f:List Nat) (q:Q) (h:Fz f->Q->P:=by intro w q;first|exact oXw w q|exact eX q):P:=h trivial q
theorem zW (f:List Nat) (q:Q) (h:Fz f->Q->P:=by intro w q;first|exact Yg q|exact Yq q|exact oXn w q|exact oS q|exact Yn q|exact Yk q|exact cT q|exact cF q|exact Yb q|exact Ye q|exact dW w q|exact eXn q|exact eS q|exact eN q):P:=h trivial q
theorem zR (f:List Nat) (q:Q) (h:Fz f->Q->P:=by intro w q;first|exact Yg q|exact Run.seqR q|exact oXw w q|exact oS q|exact Yn q|exact dW w q|exact eX q|exact eS q|exact eN q):P:=h trivial q
theorem zRn (f:List Nat) (q:Q) (h:Fz f->Q->P:=by intro w q;first|exact Yg q|exact Run.seqR q|exact oXw w q|exact oS q|exact Yn q|exact eX q|exact eS q|exact eN q):P:=h trivial q
theorem zN (f:List Nat) (q:Q) (h:Fz f->Q->P:=by intro w q;first|exact Yg q|exact Yq q|exact oXn w q|exact oS q|exact Yn q|exact Yk q|exact cT q|exact cF q|exact Yb q|exact Ye q|exact eXn q|exact eS q|exact eN q):P:=h trivial q
theorem zG (f:List Nat) (q:Q) (h:Fz f->Q->P:=by intro w q;first|exact Yg q|exact Yq q|exact Yn q|exact Yk q|exact cT q|exact cF q|exact Yb q|exact Ye q|exact eN q|exact dW w q):P:=h trivial q
theorem zS (q:Q) (h:Q->P:=by intro q;first|exact Yq q|exact Yg q|exact Yn q|exact Yk q|exact cT q|exact cF q|exact Yb q|exact Ye q):P:=h q
theorem zA (f:List Nat) (q:Q) (h:Fz f->Q->P:=by intro w q;first|exact oXw w q|exact oS q|exact Yn q|exact Yg q|exact Yq q|exact Yk q|exact Yb q|exact Ye q|exact dW w q|exact eX q|exact eS q|exact eN q):P:=h trivial q
theorem zB (f:List Nat) (x:A->X) (y:B->Y) (h:Fz f->(A->X)->(B->Y)->P:=by intro w x y;first|exact oBw w x y|exact eB x y):P:=h trivial x y
theorem zk (a:A) (h:A->P:=by intro h;exfalso;simp at h;first|done|omega):P:=h a
theorem zC (c:KnownCall Tryz.prog g ds r) (q:Q) (h:KnownCall Tryz.prog g ds r->Q->P:=by intro c q;first|exact oC c q|exact eC c q):P:=h c q
theorem zK (c:KnownCall Tryz.prog g ds (.d (.bool b))) (x:A->X) (y:B->Y) (h:KnownCall Tryz.prog g ds (.d (.bool b))->(A->X)->(B->Y)->P:=by intro c x y;first|exact oK c x y|exact eK c x y):P:=h c x y
theorem zL (c:KnownCall Tryz.prog g ds r) (q:Q) (h:KnownCall Tryz.prog g ds r->Q->P:=by intro c q;first|exact oL c q|exact eL c q):P:=h c q
theorem zM (c:KnownCall Tryz.prog g ds r) (q:Q) (h:KnownCall Tryz.prog g ds r->Q->P:=by intro c q;first|exact oL c q|exact eL c q|exact oM c q|exact eM c q):P:=h c q
theorem zLb (c:KnownCall Tryz.prog g ds (.d (.bool b))) (x:A->X) (y:B->Y) (h:KnownCall Tryz.prog g ds (.d (.bool b))->(A->X)->(B->Y)->P:=by intro c x y;first|exact oLb c x y|exact eLb c x y):P:=h c x y
theorem zE (q:Q) (h:Q->P:=by intro q;refine Yt ?_;first|exact rB q|exact rI q|exact rA q|exact rII q|exact rSI q|exact rT q|exact rS q):P:=h q
end
end Go.Av
end
noncomputable section
namespace Go.Av
open Go Go.Proofs
set_option maxRecDepth 10000
abbrev strs (l:List (List Nat)):DV:=.sl 1 (l.map .str)
abbrev ints (l:List Int):DV:=.sl 1 (l.map (.int .i64))
theorem get_ok {α:Type} {l:List α} {i:Nat} (h:i<l.length):∃ x,l[i]?=some x:=⟨l[i],by simp [h]⟩
end Go.Av
end
noncomputable section
namespace Go.Av
open Go Go.Proofs
set_option maxRecDepth 10000
structure GProd where
 left:Int
 right:List Int
structure Gram where
 k:Int
 tokens:List (List Nat)
 sep:List Nat
 names:List (List Nat)
 start:Int
 prods:List GProd
def encP (p:GProd):DV:=.agg [.int .i64 p.left,ints p.right]
abbrev encG (g:Gram):DV:=.agg [.int .i64 g.k,strs g.tokens,.str g.sep,strs g.names,.int .i64 g.start,.sl 2 (g.prods.map encP)]
structure Fits (g:Gram):Prop where
 tokens:g.tokens.length<=1048576
 names:g.names.length<=1048576
 prods:g.prods.length<=1048576
 sep:g.sep.length<=1048576
 tokenS:∀ s ∈ g.tokens,s.length<=1048576
 nameS:∀ s ∈ g.names,s.length<=1048576
 rights:∀ p ∈ g.prods,p.right.length<=1048576
def isTerm (g:Gram) (s:Int):Bool:=decide (0<=s) && decide (s<g.tokens.length)
def isNonterm (g:Gram) (s:Int):Bool:=decide (16<=s) && decide (s<16+g.names.length)
theorem terminal0 (g:Gram) (s:Int):ACall Tryz.prog 166 [.d (encG g),.d (.int .i64 s)] [] (.d (.bool (isTerm g s))) []:=by
 refine acall_of_run Yo (fnAt Tryz.func166 (by kernel_rfl) (by kernel_rfl):FnAt _ _ (mkFn Tryz.f166 [2])) rfl rfl ?_;by_cases h:0<=s
 .refine Yq (Yg ?_)
  iterate 2 refine zX [2] ?_
  refine Yn ?_;refine Yq (Yg ?_);refine zX [2] ?_
  first|refine oX (frz:=[2]) (v:=.d (.bool true)) Yo ?_ (he:=(by simp [h]))|refine eX (v:=.d (.bool true)) ?_ (he:=(by simp [h]))
  repeat refine zA [2] ?_
  refine Yt ?_;refine⟨trivial,rfl,Eq.trans (b:=some (.d (.bool (decide (s<((g.tokens.map DV.str).length:Nat)))))) (by kernel_rfl) ?_⟩;simp [isTerm,h]
 .refine Yq (Yg ?_)
  iterate 2 refine zX [2] ?_
  refine Yn ?_;refine Yq (Yg ?_);refine zX [2] ?_
  first|refine oX (frz:=[2]) (v:=.d (.bool false)) Yo ?_ (he:=(by simp [h]))|refine eX (v:=.d (.bool false)) ?_ (he:=(by simp [h]))
  refine zX [2] ?_;iterate 5 refine RunOps.skip (by rfl) (by rfl) ?_
  repeat refine zA [2] ?_
  refine Yt ?_;refine⟨trivial,rfl,Eq.trans (b:=some (.d (.bool false))) (by kernel_rfl) ?_⟩;simp [isTerm,h]
theorem terminal (g:Gram) (s:Int):KnownCall Tryz.prog 166 [encG g,.int .i64 s] (.d (.bool (isTerm g s))):=fun o=>pure_call (k:=8) rfl (terminal0 g s) rfl o
end Go.Av
end
noncomputable section
namespace Go.Av
open Go Go.Proofs
set_option maxRecDepth 10000
theorem allProds0 (ps:List GProd) (hl:ps.length<=1099511627776) (yi L:Nat) (B:Nat->List Ob) (hyi:Nat.blt yi L=true) (hL:∀ k,(B k).length=L) (hR:∀ k,(B k).all (refOb L)=true) (n:Nat) (hn:n<=ps.length)
  (hy:∀ k p,k<n->ps[k]?=some p->AYield Tryz.prog yi [.d (.int .i64 k),.d (encP p)] (B k) (.d (.bool true)) (B (k+1))) (obs:List Ob)
  (hend:n=ps.length/\obs=B n\/∃ p,ps[n]?=some p/\AYield Tryz.prog yi [.d (.int .i64 n),.d (encP p)] (B n) (.d (.bool false)) obs) :
  ACall Tryz.prog 221 [.yl yi,.d (.ep [.sl 2 (ps.map encP)])] (B 0) (.tup []) obs:=by
 refine acall_of_run Yo (fnAt Tryz.func221 (by kernel_rfl) (by kernel_rfl):FnAt _ _ (mkFn Tryz.f221 [])) rfl rfl ?_
 repeat refine zA [] ?_
 refine Run.loop (fun k:Nat=>⟨PT.ofList [(0,.yl yi),(5,.d (.sl 2 (ps.map encP))),(6,.d (.int .i64 (ps.map encP).length)),(7,.d (.int .i64 k))],B k,[]⟩) (fun k=>k<=n) (fun k=>ps.length-k) 0 (Nat.zero_le _) (weak_of ⟨rfl,rfl,rfl,rfl,trivial⟩) (fun k hk=>?_)
 repeat refine zA [] ?_
 refine Run.cond (by rfl) (fun h=>?_) (fun h=>?_)
 .have hlt:k<ps.length:=by simpa using h
  obtain⟨p,hp⟩:=get_ok hlt
  repeat refine zA [] ?_
  first|refine oX (frz:=[]) (v:=.d (.ep [.int .i64 p.left,ints p.right])) Yo ?_ (hf:=(by first|(simp [inB]<;>fail)|(simp [inB];omega))) (he:=(by first|(simp [List.getD_eq_getElem?_getD,cellsD,hp,encP]<;>fail)|fail))|refine eX (v:=.d (.ep [.int .i64 p.left,ints p.right])) ?_ (hf:=(by first|(simp [inB]<;>fail)|(simp [inB];omega))) (he:=(by first|(simp [List.getD_eq_getElem?_getD,cellsD,hp,encP]<;>fail)|fail))
  repeat refine zA [] ?_
  refine RunOps.x (frz:=[]) (v:=.d .any) (ob:=some (B k++[.box [.d (.int .i64 p.left),.d (ints p.right)]])) (fl:=true) Yo (by rfl)
   (Eq.trans (b:=Option.map (fun(p:AV × List Ob × Bool)=>(p.1,some p.2.1,p.2.2)) (storeR Et 82 (.bp (B k).length 0) (.d (.agg [.int .i64 p.left,ints p.right])) (B k++[.box [.d (.int .i64 0),.d .nilsl]]))) rfl (by rw [store_last (y:=ty82) (by rfl) (B k) _ (by rfl) (by rfl) (by rfl)];rfl)) rfl rfl rfl rfl (by rfl) ?_
  repeat refine zA [] ?_
  refine RunOps.x (frz:=[]) (v:=.d (.agg [.int .i64 p.left,ints p.right])) (ob:=none) (fl:=true) Yo (by rfl)
   (Eq.trans (b:=Option.map (fun(p:AV × List Ob × Bool)=>(p.1,none,p.2.2)) (loadR Et 82 (.bp (B k).length 0) (B k++[.box [.d (.int .i64 p.left),.d (ints p.right)]]))) rfl (by rw [load_last (y:=ty82) (by rfl) (by rfl) (B k) _ (by rfl)];rfl)) rfl rfl rfl rfl (by rfl) ?_
  have hLk:=hL k;have hb:Nat.blt yi (B k).length=true:=by rw [hLk];exact hyi
  refine RunOps.less (less_of [(5,.d (.sl 2 (ps.map encP))),(6,.d (.int .i64 (ps.map encP).length)),(7,.d (.int .i64 k)),(12,.yl yi),(0,.yl yi),(13,.d (.int .i64 k)),(14,.d (encP p))] (B k).length (List.take_left) (by rw [hL,hL];exact Nat.ble_eq_true_of_le (Nat.le_refl _))
   ⟨by kernel_rfl,by kernel_rfl,by kernel_rfl,by kernel_rfl,by kernel_rfl,by kernel_rfl,by kernel_rfl,trivial⟩ ⟨rfl,rfl,rfl,hb,hb,rfl,rfl,trivial⟩ (by rw [hLk];exact hR k) rfl) ?_
  rcases Nat.lt_or_ge k n with hkn|hkn
  .refine RunOps.yield (by rfl) (by rfl) (hy k p hkn hp) (by rfl) (by rfl) ?_
   repeat refine zA [] ?_
   refine Run.cond (b:=false) (by rfl) (fun h=>by cases h) (fun _=>?_)
   repeat refine zA [] ?_
   exact⟨k+1,hkn,by omega,weak_of ⟨(by kernel_rfl),(by kernel_rfl),(by kernel_rfl),(inc_get (k:=k) (by kernel_rfl) (by omega)),trivial⟩⟩
  .have hkn:k=n:=by omega
   subst hkn;rcases hend with⟨h1,_⟩|⟨p',hp',hA⟩
   .omega
   .rw [hp] at hp';cases hp'
    refine RunOps.yield (by rfl) (by rfl) hA (by rfl) (by rfl) ?_
    repeat refine zA [] ?_
    refine Run.cond (b:=true) (by rfl) (fun _=>?_) (fun h=>by cases h);refine Yt ?_;exact⟨trivial,rfl,by kernel_rfl⟩
 .have hge:ps.length<=k:=by simpa using h
  have hkn:k=n:=by omega
  subst hkn;rcases hend with⟨_,rfl⟩|⟨p',hp',_⟩
  .repeat refine zA [] ?_
   exact⟨trivial,rfl,by kernel_rfl⟩
  .rw [List.getElem?_eq_none (by omega)] at hp';cases hp'
abbrev allProdsF (ps:List GProd):DV:=.fn (.func 221) [] [.ep [.sl 2 (ps.map encP)]]
theorem Run.rangeProds {nt m:Nat} {frz:List Nat} {K:Ex->S->Prop} {tm:PT AV} {dl:List Dl} {f:Operand} {qs:Array Tmp} {assign body:Code} (L:Nat) (Bs:Nat->List Ob) (ps:List GProd) (hl:ps.length<=1099511627776)
  (hf:rd tm f=.d (allProdsF ps)) (hBL:∀ k,(Bs k).length=L) (hBr:∀ k,(Bs k).all (refOb (L+2))=true) (hT:ptAll (refA 8 (L+2)) tm=true) (n:Nat) (hn:n<=ps.length)
  (hround:∀ k p,k<n->ps[k]?=some p->AYield Tryz.prog (L+1) [.d (.int .i64 k),.d (encP p)] (rangeObs (Bs k) tm nt frz qs assign body .ready none) (.d (.bool true)) (rangeObs (Bs (k+1)) tm nt frz qs assign body .ready none))
  (hend:(n=ps.length/\K .normal ⟨tm,rangeObs (Bs n) tm nt frz qs assign body .exhausted none,.mark L :: dl⟩) \/
   ∃ p Be,ps[n]?=some p/\(Be.length=L)/\((AYield Tryz.prog (L+1) [.d (.int .i64 n),.d (encP p)] (rangeObs (Bs n) tm nt frz qs assign body .ready none) (.d (.bool false)) (rangeObs Be tm nt frz qs assign body .done (some .ret)) /\
     K .ret ⟨tm,rangeObs Be tm nt frz qs assign body .exhausted (some .ret),.mark L :: dl⟩) \/
    ∃ id,AYield Tryz.prog (L+1) [.d (.int .i64 n),.d (encP p)] (rangeObs (Bs n) tm nt frz qs assign body .ready none) (.d (.bool false)) (rangeObs Be tm nt frz qs assign body .done (some (.exit id))) /\
     K (.exit id) ⟨tm,rangeObs Be tm nt frz qs assign body .exhausted (some (.exit id)),.mark L :: dl⟩)) :
  Run Tryz.prog nt m none (.rangeFunc f qs assign body) ⟨tm,Bs 0,dl⟩ K:=by
 have hlen:∀ B:List Ob,B.length=L->∀ st pend,(rangeObs B tm nt frz qs assign body st pend).length=L+2:=fun B h st pend=>by simp [rangeObs,h]
 have hrefs:∀ k,(rangeObs (Bs k) tm nt frz qs assign body .ready none).all (refOb (L+2))=true:=fun k=>by
  simp only [rangeObs,List.all_append,hBr k,Bool.true_and,List.all_cons,List.all_nil,Bool.and_true];simp only [refOb,hT,Bool.and_self]
 have hget:∀ B:List Ob,B.length=L->∀ st pend,(rangeObs B tm nt frz qs assign body st pend)[L+1]?=some (.loop tm nt frz qs assign body st pend):=fun B h st pend=>by
  subst h;simp [rangeObs]
 have hset:∀ B:List Ob,B.length=L->∀ st pend st' pend',(rangeObs B tm nt frz qs assign body st pend).set (L+1) (.loop tm nt frz qs assign body st' pend')=rangeObs B tm nt frz qs assign body st' pend':=fun B h st pend st' pend'=>by
  subst h;unfold rangeObs;rw [List.set_append_right _ _ (by simp)]
  simp
 have hyi:Nat.blt (L+1) (L+2)=true:=by rw [Nat.blt_eq];omega
 have hm:Tryz.prog.follows .mixedOrders=true:=by kernel_rfl
 rcases hend with⟨h1,h2⟩|⟨p,Be,hp,hBe,⟨h1,h2⟩|⟨id,h1,h2⟩⟩
 .have hA:=allProds0 ps hl (L+1) (L+2) (fun k=>rangeObs (Bs k) tm nt frz qs assign body .ready none) hyi (fun k=>hlen _ (hBL k) _ _) hrefs n hn hround (rangeObs (Bs n) tm nt frz qs assign body .ready none) (.inl ⟨h1,rfl⟩)
  rw [<- hBL 0] at hA;have:=Run.range (m:=m) (s:=⟨tm,Bs 0,dl⟩) (K:=K) Yo hm hf hA rfl (by rw [hBL 0];exact hget _ (hBL n) _ _) (by simp) (by
   simp only [hBL 0];rw [hset _ (hBL n)];exact h2)
  exact this
 .have hA:=allProds0 ps hl (L+1) (L+2) (fun k=>rangeObs (Bs k) tm nt frz qs assign body .ready none) hyi (fun k=>hlen _ (hBL k) _ _) hrefs n hn hround (rangeObs Be tm nt frz qs assign body .done (some .ret)) (.inr ⟨p,hp,h1⟩)
  rw [<- hBL 0] at hA;have:=Run.range (m:=m) (s:=⟨tm,Bs 0,dl⟩) (K:=K) Yo hm hf hA rfl (by rw [hBL 0];exact hget _ hBe _ _) (by simp) (by
   simp only [hBL 0];rw [hset _ hBe];exact h2)
  exact this
 .have hA:=allProds0 ps hl (L+1) (L+2) (fun k=>rangeObs (Bs k) tm nt frz qs assign body .ready none) hyi (fun k=>hlen _ (hBL k) _ _) hrefs n hn hround (rangeObs Be tm nt frz qs assign body .done (some (.exit id))) (.inr ⟨p,hp,h1⟩)
  rw [<- hBL 0] at hA;have:=Run.range (m:=m) (s:=⟨tm,Bs 0,dl⟩) (K:=K) Yo hm hf hA rfl (by rw [hBL 0];exact hget _ hBe _ _) (by simp) (by
   simp only [hBL 0];rw [hset _ hBe];exact h2)
  exact this
end Go.Av
end
noncomputable section
namespace Go.Av
open Go Go.Proofs
set_option maxRecDepth 10000
theorem wrap64 {n:Int} (h1:-9223372036854775808<=n) (h2:n<=9223372036854775807):IntKind.i64.wrap n=n:=IntWalk.i64_in n ⟨h1,h2⟩
theorem nonterminal (g:Gram) (s:Int) (hf:Fits g):KnownCall Tryz.prog 164 [encG g,.int .i64 s] (.d (.bool (isNonterm g s))):=by
 have hn:=hf.names;have hw:IntKind.i64.wrap (16+(g.names.length:Int))=16+g.names.length:=wrap64 (by omega) (by omega);refine knownE Yo (fnAt Tryz.func164 (by kernel_rfl) (by kernel_rfl):FnAt _ _ (mkFn Tryz.f164 [2])) ?_
 repeat' (first|refine zW [2] ?_|(refine zB [2] ?_ ?_<;>intro h<;>try exact zk h)|refine zX [2] ?_|(refine zE ?_;(first|(simp_all [isNonterm];done)|(simp_all [isNonterm];omega)))|fail)
end Go.Av
end
noncomputable section
namespace Go.Av
open Go Go.Proofs
set_option maxRecDepth 10000
def letterF (c:Int):Bool:=(decide (97<=c) && decide (c<=122)) || (decide (65<=c) && decide (c<=90))
def digitF (c:Int):Bool:=decide (48<=c) && decide (c<=57)
def badAt (s:List Nat) (i:Nat):Prop:=∃ c:Nat,s[i]?=some c/\letterF c=false/\(i=0\/(digitF c=false/\(c:Int)≠95))
open Classical in
def wordF (s:List Nat):Int:=if s=[] then 5 else if ∃ i,badAt s i then 3 else if 12<s.length then 4 else 0
def wLook:List Nat:=[108,111,111,107,97,104,101,97,100]
def wToken:List Nat:=[116,111,107,101,110]
def wSep:List Nat:=[115,101,112,97,114,97,116,111,114]
def wStart:List Nat:=[115,116,97,114,116]
def languageF (s:List Nat):Bool:=decide (s=wLook\/s=wToken\/s=wSep\/s=wStart)
def nameF (s:List Nat):Int:=if wordF s=0/\languageF s=true then 12 else wordF s
theorem refLetter (c:Int):KnownCall Tryz.prog 266 [.int .u8 c] (.d (.bool (letterF c))):=by
 refine knownE Yo (fnAt Tryz.func266 (by kernel_rfl) (by kernel_rfl):FnAt _ _ (mkFn Tryz.f266 [])) ?_
 repeat' (first|refine zW [] ?_|(refine zB [] ?_ ?_<;>intro h<;>try exact zk h)|refine zX [] ?_|(refine zE ?_;(first|(simp_all [letterF];done)|(simp_all [letterF];omega)))|fail)
theorem letter (c:Int):KnownCall Tryz.prog 260 [.int .i32 c] (.d (.bool (letterF c))):=by
 refine knownE Yo (fnAt Tryz.func260 (by kernel_rfl) (by kernel_rfl):FnAt _ _ (mkFn Tryz.f260 [])) ?_
 repeat' (first|refine zW [] ?_|(refine zB [] ?_ ?_<;>intro h<;>try exact zk h)|refine zX [] ?_|(refine zE ?_;(first|(simp_all [letterF];done)|(simp_all [letterF];omega)))|fail)
theorem refDigit (c:Int):KnownCall Tryz.prog 267 [.int .u8 c] (.d (.bool (digitF c))):=by
 refine knownE Yo (fnAt Tryz.func267 (by kernel_rfl) (by kernel_rfl):FnAt _ _ (mkFn Tryz.f267 [])) ?_
 repeat' (first|refine zW [] ?_|(refine zB [] ?_ ?_<;>intro h<;>try exact zk h)|refine zX [] ?_|(refine zE ?_;(first|(simp_all [digitF];done)|(simp_all [digitF];omega)))|fail)
theorem digit (c:Int):KnownCall Tryz.prog 261 [.int .i32 c] (.d (.bool (digitF c))):=by
 refine knownE Yo (fnAt Tryz.func261 (by kernel_rfl) (by kernel_rfl):FnAt _ _ (mkFn Tryz.f261 [])) ?_
 repeat' (first|refine zW [] ?_|(refine zB [] ?_ ?_<;>intro h<;>try exact zk h)|refine zX [] ?_|(refine zE ?_;(first|(simp_all [digitF];done)|(simp_all [digitF];omega)))|fail)
theorem refLanguage (s:List Nat):KnownCall Tryz.prog 250 [.str s] (.d (.bool (languageF s))):=by
 refine knownE Yo (fnAt Tryz.func250 (by kernel_rfl) (by kernel_rfl):FnAt _ _ (mkFn Tryz.f250 [])) ?_
 repeat' (first|refine zW [] ?_|(refine zB [] ?_ ?_<;>intro h<;>try exact zk h)|refine zX [] ?_|(refine zE ?_;(first|(simp_all [languageF,wLook,wToken,wSep,wStart];done)))|fail)
theorem wordF_bad {s:List Nat} (hs:s≠[]) {i:Nat} (h:badAt s i):wordF s=3:=by
 unfold wordF;rw [if_neg hs,if_pos ⟨i,h⟩]
theorem wordF_good {s:List Nat} (hs:s≠[]) (h:∀ i,¬ badAt s i):wordF s=if 12<s.length then 4 else 0:=by
 unfold wordF;rw [if_neg hs,if_neg (fun⟨i,hi⟩=>h i hi)]
theorem refWord (s:List Nat) (hl:s.length<=1099511627776):KnownCall Tryz.prog 249 [.str s] (.d (.int .i64 (wordF s))):=by
 refine knownE Yo (fnAt Tryz.func249 (by kernel_rfl) (by kernel_rfl):FnAt _ _ (mkFn Tryz.f249 [])) ?_
 repeat' (first|refine zW [] ?_|(refine zB [] ?_ ?_<;>intro h<;>try exact zk h)|refine zX [] ?_|(refine zE ?_;(simp_all [wordF]))|fail)
 have hs:s≠[]:=by simpa using h
 refine Run.loop (fun i:Nat=>⟨PT.ofList [(0,.d (.str s)),(3,.d (.int .i64 i))],[],[]⟩) (fun i=>i<=s.length/\∀ j,j<i->¬ badAt s j) (fun i=>s.length-i) 0 ⟨Nat.zero_le _,fun j hj=>by omega⟩ (weak_of ⟨rfl,rfl,trivial⟩) (fun i hi=>?_);obtain⟨hi1,hi2⟩:=hi;rcases Nat.lt_or_ge i s.length with hlt|hge
 .obtain⟨c,hc⟩:=get_ok hlt
  have hbad:badAt s i ↔ letterF c=false/\(i=0\/(digitF c=false/\(c:Int)≠95)):=⟨fun⟨c',h1,h2⟩=>by rw [hc] at h1;cases h1;exact h2,fun h=>⟨c,hc,h⟩⟩
  repeat' (first|refine zW [] ?_|(refine zB [] ?_ ?_<;>intro h<;>try exact zk h)|refine zX [] ?_|refine oI (frz:=[]) (v:=.d (.int .u8 c)) ?_ (he:=by first|(simp [gD,cellsD,hc]<;>fail)|fail)|refine eI (v:=.d (.int .u8 c)) ?_ (he:=by first|(simp [gD,cellsD,hc]<;>fail)|fail)|(refine zK (refLetter _) ?_ ?_<;>intro h<;>try exact zk h)|refine zC (refLetter _) ?_|(refine zK (refDigit _) ?_ ?_<;>intro h<;>try exact zk h)|refine zC (refDigit _) ?_|(refine zE ?_;(rw [wordF_bad hs (i:=i) (hbad.2 (by simp_all))]))|(exact⟨i+1,⟨by omega,fun j hj=>by rcases Nat.lt_succ_iff_lt_or_eq.1 hj with h|h;exact hi2 j h;subst h;rw [hbad];simp_all⟩,by omega,weak_of ⟨(by kernel_rfl),(inc_get (k:=i) (by kernel_rfl) (by omega)),trivial⟩⟩)|fail)
 .have hge:i=s.length:=by omega
  have hall:∀ j,¬ badAt s j:=fun j hj=>by
   by_cases hlt:j<i
   .exact hi2 j hlt hj
   .obtain⟨c,h1,_⟩:=hj
    rw [List.getElem?_eq_none (by omega)] at h1;cases h1
  repeat' (first|refine zW [] ?_|(refine zB [] ?_ ?_<;>intro h<;>try exact zk h)|refine zX [] ?_|(refine zE ?_;(rw [wordF_good hs hall];first|(simp_all []<;>fail)|(simp_all [];omega)))|fail)
theorem word (s:List Nat) (hl:s.length<=1099511627776):KnownCall Tryz.prog 238 [.str s] (.d (.int .i64 (wordF s))):=by
 refine knownE Yo (fnAt Tryz.func238 (by kernel_rfl) (by kernel_rfl):FnAt _ _ (mkFn Tryz.f238 [])) ?_
 repeat' (first|refine zW [] ?_|(refine zB [] ?_ ?_<;>intro h<;>try exact zk h)|refine zX [] ?_|(refine zE ?_;(simp_all [wordF]))|fail)
 have hs:s≠[]:=by simpa using h
 refine Run.loop (fun i:Nat=>⟨PT.ofList [(0,.d (.str s)),(8,.bp 0 0)],[.sit s i],[]⟩) (fun i=>i<=s.length/\∀ j,j<i->¬ badAt s j) (fun i=>s.length-i) 0 ⟨Nat.zero_le _,fun j hj=>by omega⟩ (weak_of ⟨rfl,rfl,trivial⟩) (fun i hi=>?_);obtain⟨hi1,hi2⟩:=hi;rcases Nat.lt_or_ge i s.length with hlt|hge
 .obtain⟨c,hc⟩:=get_ok hlt
  have hbad:badAt s i ↔ letterF c=false/\(i=0\/(digitF c=false/\(c:Int)≠95)):=⟨fun⟨c',h1,h2⟩=>by rw [hc] at h1;cases h1;exact h2,fun h=>⟨c,hc,h⟩⟩
  rcases Nat.lt_or_ge c 128 with h8|h8
  .have hd:=decL_ascii hc h8
   repeat' (first|refine zW [] ?_|(refine zB [] ?_ ?_<;>intro h<;>try exact zk h)|refine zX [] ?_|refine RunOps.next Yo (by rfl) (by rfl) (by rfl) hlt hd (by rfl) (by rfl) (by rfl) ?_|(refine zK (letter _) ?_ ?_<;>intro h<;>try exact zk h)|refine zC (letter _) ?_|(refine zK (digit _) ?_ ?_<;>intro h<;>try exact zk h)|refine zC (digit _) ?_|(refine zE ?_;(rw [wordF_bad hs (i:=i) (hbad.2 (by simp_all))]))|(exact⟨i+1,⟨by omega,fun j hj=>by rcases Nat.lt_succ_iff_lt_or_eq.1 hj with h|h;exact hi2 j h;subst h;rw [hbad];simp_all⟩,by omega,weak_of' (by rfl) rfl ⟨(by kernel_rfl),(by kernel_rfl),trivial⟩⟩)|fail)
  .have hd:=decL_high hc h8
   obtain⟨r,n,hrn⟩:∃ r n,decL s i=(r,n):=⟨_,_,rfl⟩
   rw [hrn] at hd;have hb:badAt s i:=hbad.2 ⟨by simp [letterF];omega,.inr ⟨by simp [digitF];omega,by omega⟩⟩;have hr1:letterF r=false:=by simp [letterF];simp at hd;omega
   have hr2:digitF r=false:=by simp [digitF];simp at hd;omega
   have hr3:(r:Int)≠95:=by simp at hd;omega
   repeat' (first|refine zW [] ?_|(refine zB [] ?_ ?_<;>intro h<;>try exact zk h)|refine zX [] ?_|refine RunOps.next Yo (by rfl) (by rfl) (by rfl) hlt hrn (by rfl) (by rfl) (by rfl) ?_|(refine zK (letter _) ?_ ?_<;>intro h<;>try exact zk h)|refine zC (letter _) ?_|(refine zK (digit _) ?_ ?_<;>intro h<;>try exact zk h)|refine zC (digit _) ?_|(refine zE ?_;(rw [wordF_bad hs (i:=i) hb]))|(exfalso;simp_all)|fail)
 .have hge:i=s.length:=by omega
  have hall:∀ j,¬ badAt s j:=fun j hj=>by
   by_cases hlt:j<i
   .exact hi2 j hlt hj
   .obtain⟨c,h1,_⟩:=hj
    rw [List.getElem?_eq_none (by omega)] at h1;cases h1
  repeat' (first|refine zW [] ?_|(refine zB [] ?_ ?_<;>intro h<;>try exact zk h)|refine zX [] ?_|refine RunOps.nextEnd Yo (by rfl) (by rfl) (by rfl) (Nat.le_of_eq hge.symm) (by rfl) (by rfl) ?_|(refine zE ?_;(rw [wordF_good hs hall];first|(simp_all []<;>fail)|(simp_all [];omega)))|fail)
theorem refCheck03 (s:List Nat) (hl:s.length<=1099511627776):KnownCall Tryz.prog 224 [.str s] (.d (.int .i64 (nameF s))):=by
 refine knownE Yo (fnAt Tryz.func224 (by kernel_rfl) (by kernel_rfl):FnAt _ _ (mkFn Tryz.f224 [])) ?_
 repeat' (first|refine zW [] ?_|(refine zB [] ?_ ?_<;>intro h<;>try exact zk h)|refine zX [] ?_|(refine zK (refWord _ hl) ?_ ?_<;>intro h<;>try exact zk h)|refine zC (refWord _ hl) ?_|(refine zK (refLanguage _) ?_ ?_<;>intro h<;>try exact zk h)|refine zC (refLanguage _) ?_|(refine zE ?_;(first|(simp_all [nameF]<;>fail)|(simp_all [nameF];omega)))|fail)
end Go.Av
end
noncomputable section
namespace Go.Av
open Go Go.Proofs
set_option maxRecDepth 10000
theorem all_succ {p:Nat->Prop} {i:Nat} (h:∀ j,j<i->p j) (h':p i):∀ j,j<i+1->p j:=fun j hj=>by
 rcases Nat.lt_succ_iff_lt_or_eq.1 hj with h1|h1
 .exact h j h1
 .exact h1 ▸ h'
def findF (l:List (List Nat)) (s:List Nat):Int:=if s ∈ l then(l.idxOf s:Nat) else -1
theorem findF_at {l:List (List Nat)} {s:List Nat} {i:Nat} (h:l[i]?=some s) (hb:∀ j,j<i->l[j]?≠some s):findF l s=i:=by
 have hm:s ∈ l:=List.mem_of_getElem? h;have hi:i<l.length:=(List.getElem?_eq_some_iff.1 h).1;have h1:l.idxOf s<l.length:=List.idxOf_lt_length_iff.2 hm;have h2:l[l.idxOf s]?=some s:=by rw [List.getElem?_eq_getElem h1,List.getElem_idxOf h1]
 have h3:¬ l.idxOf s<i:=fun hlt=>hb _ hlt h2;have h4:¬ i<l.idxOf s:=fun hlt=>by
  have:=List.not_of_lt_findIdx hlt;have e:l[i]=s:=(List.getElem?_eq_some_iff.1 h).2;simp [e] at this
 rw [findF,if_pos hm];omega
theorem findF_none {l:List (List Nat)} {s:List Nat} (hb:∀ j,j<l.length->l[j]?≠some s):findF l s=-1:=by
 rw [findF,if_neg];intro hm;obtain⟨i,hi,e⟩:=List.getElem_of_mem hm;exact hb i hi (by rw [List.getElem?_eq_getElem hi,e])
theorem refFind (l:List (List Nat)) (s:List Nat) (hl:l.length<=1099511627776):KnownCall Tryz.prog 205 [strs l,.str s] (.d (.int .i64 (findF l s))):=by
 refine knownE Yo (fnAt Tryz.func205 (by kernel_rfl) (by kernel_rfl):FnAt _ _ (mkFn Tryz.f205 [])) ?_
 repeat' (first|refine zW [] ?_|(refine zB [] ?_ ?_<;>intro h<;>try exact zk h)|refine zX [] ?_|(refine zE ?_;(skip))|fail)
 refine Run.loop (fun i:Nat=>⟨PT.ofList [ (0,.d (strs l)),(1,.d (.str s)),(5,.d (.int .i64 i))],[],[]⟩) (fun i=>i<=l.length/\∀ j,j<i->l[j]?≠some s) (fun i=>l.length-i) 0 ⟨Nat.zero_le _,fun j hj=>by omega⟩ (weak_of (by repeat' (first|exact trivial|refine⟨rfl,?_⟩))) (fun i hi=>?_);obtain⟨hi1,hi2⟩:=hi;rcases Nat.lt_or_ge i l.length with hlt|hge
 .obtain⟨x,hx⟩:=get_ok hlt
  repeat' (first|refine zW [] ?_|(refine zB [] ?_ ?_<;>intro h<;>try exact zk h)|refine zX [] ?_|refine oI (frz:=[]) (v:=.d (.ep [.str x])) ?_ (he:=by first|(simp [gD,cellsD,hx]<;>fail)|fail)|refine eI (v:=.d (.ep [.str x])) ?_ (he:=by first|(simp [gD,cellsD,hx]<;>fail)|fail)|(refine zE ?_;(rw [findF_at (i:=i) (by simp_all) hi2]))|(exact⟨i+1,⟨by omega,all_succ hi2 (by rw [hx];intro e;simp_all)⟩,by omega,weak_of (by repeat' (first|exact trivial|refine⟨rfl,?_⟩|refine⟨(inc_get (k:=i) (by kernel_rfl) (by omega)),?_⟩))⟩)|fail)
 .have hge:i=l.length:=by omega
  repeat' (first|refine zW [] ?_|(refine zB [] ?_ ?_<;>intro h<;>try exact zk h)|refine zX [] ?_|(refine zE ?_;(rw [findF_none (fun j hj=>hi2 j (by omega))]))|fail)
theorem index (l:List (List Nat)) (s:List Nat) (hl:l.length<=1099511627776):KnownCall Tryz.prog 165 [strs l,.str s] (.d (.int .i64 (findF l s))):=by
 refine knownE Yo (fnAt Tryz.func165 (by kernel_rfl) (by kernel_rfl):FnAt _ _ (mkFn Tryz.f165 [])) ?_
 repeat' (first|refine zW [] ?_|(refine zB [] ?_ ?_<;>intro h<;>try exact zk h)|refine zX [] ?_|(refine zE ?_;(skip))|fail)
 refine Run.loop (fun i:Nat=>⟨PT.ofList [(7,.d (.int .i64 ((l.map DV.str).length:Nat))),(0,.d (strs l)),(1,.d (.str s)),(8,.d (.int .i64 i))],[],[]⟩) (fun i=>i<=l.length/\∀ j,j<i->l[j]?≠some s) (fun i=>l.length-i) 0 ⟨Nat.zero_le _,fun j hj=>by omega⟩ (weak_of (by repeat' (first|exact trivial|refine⟨rfl,?_⟩))) (fun i hi=>?_);obtain⟨hi1,hi2⟩:=hi;rcases Nat.lt_or_ge i l.length with hlt|hge
 .obtain⟨x,hx⟩:=get_ok hlt
  repeat' (first|refine zW [] ?_|(refine zB [] ?_ ?_<;>intro h<;>try exact zk h)|refine zX [] ?_|refine oI (frz:=[]) (v:=.d (.ep [.str x])) ?_ (he:=by first|(simp [gD,cellsD,hx]<;>fail)|fail)|refine eI (v:=.d (.ep [.str x])) ?_ (he:=by first|(simp [gD,cellsD,hx]<;>fail)|fail)|(refine zE ?_;(rw [findF_at (i:=i) (by simp_all) hi2]))|(exact⟨i+1,⟨by omega,all_succ hi2 (by rw [hx];intro e;simp_all)⟩,by omega,weak_of (by repeat' (first|exact trivial|refine⟨rfl,?_⟩|refine⟨(inc_get (k:=i) (by kernel_rfl) (by omega)),?_⟩))⟩)|fail)
 .have hge:i=l.length:=by omega
  repeat' (first|refine zW [] ?_|(refine zB [] ?_ ?_<;>intro h<;>try exact zk h)|refine zX [] ?_|(refine zE ?_;(rw [findF_none (fun j hj=>hi2 j (by omega))]))|fail)
theorem contains (l:List (List Nat)) (s:List Nat) (hl:l.length<=1099511627776):KnownCall Tryz.prog 125 [strs l,.str s] (.d (.bool (decide (s ∈ l)))):=by
 refine knownE Yo (fnAt Tryz.func125 (by kernel_rfl) (by kernel_rfl):FnAt _ _ (mkFn Tryz.f125 [])) ?_
 repeat' (first|refine zW [] ?_|(refine zB [] ?_ ?_<;>intro h<;>try exact zk h)|refine zX [] ?_|(refine zK (index _ _ hl) ?_ ?_<;>intro h<;>try exact zk h)|refine zC (index _ _ hl) ?_|(refine zE ?_;(by_cases hm:s ∈ l<;>(first|(simp_all [findF]<;>fail)|(simp_all [findF];omega))))|fail)
end Go.Av
end
noncomputable section
namespace Go.Av
open Go Go.Proofs
set_option maxRecDepth 10000
abbrev wordsA:List AV:=[.d (.str wLook),.d (.str wToken),.d (.str wSep),.d (.str wStart)]
theorem indexW (s:List Nat):ACall Tryz.prog 165 [.bs 0 0 4 4,.d (.str s)] [.box wordsA] (.d (.int .i64 (findF [wLook,wToken,wSep,wStart] s))) [.box wordsA]:=by
 refine acall_of_run Yo (fnAt Tryz.func165 (by kernel_rfl) (by kernel_rfl):FnAt _ _ (mkFn Tryz.f165 [])) rfl rfl ?_
 repeat' (first|refine zW [] ?_|(refine zB [] ?_ ?_<;>intro h<;>try exact zk h)|refine zX [] ?_|(refine zE ?_;(skip))|fail)
 refine Run.loop (fun i:Nat=>⟨PT.ofList [(0,.bs 0 0 4 4),(1,.d (.str s)),(7,.d (.int .i64 4)),(8,.d (.int .i64 i))],[.box wordsA],[]⟩) (fun i=>i<=4/\∀ j,j<i->[wLook,wToken,wSep,wStart][j]?≠some s) (fun i=>4-i) 0 ⟨Nat.zero_le _,fun j hj=>by omega⟩ (weak_of (by repeat' (first|exact trivial|refine⟨rfl,?_⟩))) (fun i hi=>?_);obtain⟨hi1,hi2⟩:=hi;have hcase:i=0\/i=1\/i=2\/i=3\/i=4:=by omega
 rcases hcase with h|h|h|h|h<;>subst h
 .repeat' (first|refine zW [] ?_|(refine zB [] ?_ ?_<;>intro h<;>try exact zk h)|refine zX [] ?_|(refine zE ?_;(skip))|(exact⟨1,⟨by omega,all_succ hi2 (fun e=>by simp at e;subst e;simp at h)⟩,by omega,weak_of (by repeat' (first|exact trivial|refine⟨rfl,?_⟩))⟩)|fail)
  have hs:s=wLook:=by simpa using h
  refine Yt ?_;refine⟨trivial,rfl,Eq.trans (b:=some (.d (.int .i64 0))) (by rfl) ?_⟩;rw [findF_at (i:=0) (by rw [hs];rfl) hi2];rfl
 .repeat' (first|refine zW [] ?_|(refine zB [] ?_ ?_<;>intro h<;>try exact zk h)|refine zX [] ?_|(refine zE ?_;(skip))|(exact⟨2,⟨by omega,all_succ hi2 (fun e=>by simp at e;subst e;simp at h)⟩,by omega,weak_of (by repeat' (first|exact trivial|refine⟨rfl,?_⟩))⟩)|fail)
  have hs:s=wToken:=by simpa using h
  refine Yt ?_;refine⟨trivial,rfl,Eq.trans (b:=some (.d (.int .i64 1))) (by rfl) ?_⟩;rw [findF_at (i:=1) (by rw [hs];rfl) hi2];rfl
 .repeat' (first|refine zW [] ?_|(refine zB [] ?_ ?_<;>intro h<;>try exact zk h)|refine zX [] ?_|(refine zE ?_;(skip))|(exact⟨3,⟨by omega,all_succ hi2 (fun e=>by simp at e;subst e;simp at h)⟩,by omega,weak_of (by repeat' (first|exact trivial|refine⟨rfl,?_⟩))⟩)|fail)
  have hs:s=wSep:=by simpa using h
  refine Yt ?_;refine⟨trivial,rfl,Eq.trans (b:=some (.d (.int .i64 2))) (by rfl) ?_⟩;rw [findF_at (i:=2) (by rw [hs];rfl) hi2];rfl
 .repeat' (first|refine zW [] ?_|(refine zB [] ?_ ?_<;>intro h<;>try exact zk h)|refine zX [] ?_|(refine zE ?_;(skip))|(exact⟨4,⟨by omega,all_succ hi2 (fun e=>by simp at e;subst e;simp at h)⟩,by omega,weak_of (by repeat' (first|exact trivial|refine⟨rfl,?_⟩))⟩)|fail)
  have hs:s=wStart:=by simpa using h
  refine Yt ?_;refine⟨trivial,rfl,Eq.trans (b:=some (.d (.int .i64 3))) (by rfl) ?_⟩;rw [findF_at (i:=3) (by rw [hs];rfl) hi2];rfl
 .repeat' (first|refine zW [] ?_|(refine zB [] ?_ ?_<;>intro h<;>try exact zk h)|refine zX [] ?_|(refine zE ?_;(skip))|fail)
  refine Yt ?_;refine⟨trivial,rfl,Eq.trans (b:=some (.d (.int .i64 (-1)))) (by rfl) ?_⟩;rw [findF_none (l:=[wLook,wToken,wSep,wStart]) hi2]
theorem containsW (s:List Nat):ACall Tryz.prog 125 [.bs 0 0 4 4,.d (.str s)] [.box wordsA] (.d (.bool (languageF s))) [.box wordsA]:=by
 refine acall_of_run Yo (fnAt Tryz.func125 (by kernel_rfl) (by kernel_rfl):FnAt _ _ (mkFn Tryz.f125 [])) rfl rfl ?_
 repeat refine zA [] ?_
 refine RunOps.call (by rfl) (by rfl) (indexW s) (by rfl) (by rfl) ?_
 repeat refine zA [] ?_
 refine Yt ?_;refine⟨trivial,rfl,Eq.trans (b:=some (.d (.bool (decide (0<=findF [wLook,wToken,wSep,wStart] s))))) (by kernel_rfl) ?_⟩;by_cases hm:s ∈ [wLook,wToken,wSep,wStart]
 .simp only [findF,if_pos hm];simp_all [languageF]
 .simp only [findF,if_neg hm];simp_all [languageF]
theorem language (s:List Nat):KnownCall Tryz.prog 239 [.str s] (.d (.bool (languageF s))):=by
 refine knownE Yo (fnAt Tryz.func239 (by kernel_rfl) (by kernel_rfl):FnAt _ _ (mkFn Tryz.f239 [])) ?_
 repeat refine zA [] ?_
 refine RunOps.call (by rfl) (by rfl) (containsW s) (by rfl) (by rfl) ?_
 repeat' (first|refine zW [] ?_|(refine zB [] ?_ ?_<;>intro h<;>try exact zk h)|refine zX [] ?_|(refine zE ?_;(rfl))|fail)
theorem check03 (s:List Nat) (hl:s.length<=1099511627776):KnownCall Tryz.prog 204 [.str s] (.d (.int .i64 (nameF s))):=by
 refine knownE Yo (fnAt Tryz.func204 (by kernel_rfl) (by kernel_rfl):FnAt _ _ (mkFn Tryz.f204 [])) ?_
 repeat' (first|refine zW [] ?_|(refine zB [] ?_ ?_<;>intro h<;>try exact zk h)|refine zX [] ?_|(refine zK (word _ hl) ?_ ?_<;>intro h<;>try exact zk h)|refine zC (word _ hl) ?_|(refine zK (language _) ?_ ?_<;>intro h<;>try exact zk h)|refine zC (language _) ?_|(refine zE ?_;(first|(simp_all [nameF]<;>fail)|(simp_all [nameF];omega)))|fail)
def smallF (s:List Nat):Bool:=decide (nameF s=0) && decide (97<=s.getD 0 0)
def capitalF (s:List Nat):Bool:=decide (nameF s=0) && decide (s.getD 0 0<97)
theorem name_first {s:List Nat} (h:nameF s=0):∃ c:Nat,s[0]?=some c/\letterF c=true:=by
 have hw:wordF s=0:=by
  unfold nameF at h;split at h
  .omega
  .exact h
 have hs:s≠[]:=fun e=>by simp [wordF,e] at hw
 obtain⟨c,hc⟩:=get_ok (l:=s) (i:=0) (List.length_pos_iff.2 hs);refine⟨c,hc,?_⟩;cases hl:letterF c with
 |true=>rfl
 |false=>rw [wordF_bad hs ⟨c,hc,hl,.inl rfl⟩] at hw;omega
theorem letter_range {c:Nat} (h:letterF c=true):(97<=c/\c<=122)\/(65<=c/\c<=90):=by simp [letterF] at h;omega
theorem refSmall (s:List Nat) (hl:s.length<=1099511627776):KnownCall Tryz.prog 172 [.str s] (.d (.bool (smallF s))):=by
 refine knownE Yo (fnAt Tryz.func172 (by kernel_rfl) (by kernel_rfl):FnAt _ _ (mkFn Tryz.f172 [])) ?_;by_cases h0:nameF s=0
 .obtain⟨c,hc,hlet⟩:=name_first h0
  have hr:=letter_range hlet;have hlt:0<s.length:=(List.getElem?_eq_some_iff.1 hc).1;have hg:s.getD 0 0=c:=by simp [List.getD_eq_getElem?_getD,hc]
  repeat' (first|refine zW [] ?_|(refine zB [] ?_ ?_<;>intro h<;>try exact zk h)|refine zX [] ?_|(refine zK (refCheck03 _ hl) ?_ ?_<;>intro h<;>try exact zk h)|refine zC (refCheck03 _ hl) ?_|refine oI (frz:=[]) (v:=.d (.int .u8 c)) ?_ (he:=by first|(simp [gD,cellsD,hc]<;>fail)|fail)|refine eI (v:=.d (.int .u8 c)) ?_ (he:=by first|(simp [gD,cellsD,hc]<;>fail)|fail)|(refine zE ?_;(first|(simp_all [smallF]<;>fail)|(simp_all [smallF];omega)))|fail)
 .repeat' (first|refine zW [] ?_|(refine zB [] ?_ ?_<;>intro h<;>try exact zk h)|refine zX [] ?_|(refine zK (refCheck03 _ hl) ?_ ?_<;>intro h<;>try exact zk h)|refine zC (refCheck03 _ hl) ?_|(refine zE ?_;(first|(simp_all [smallF]<;>fail)|(simp_all [smallF];omega)))|fail)
theorem small (s:List Nat) (hl:s.length<=1099511627776):KnownCall Tryz.prog 121 [.str s] (.d (.bool (smallF s))):=by
 refine knownE Yo (fnAt Tryz.func121 (by kernel_rfl) (by kernel_rfl):FnAt _ _ (mkFn Tryz.f121 [])) ?_;by_cases h0:nameF s=0
 .obtain⟨c,hc,hlet⟩:=name_first h0
  have hr:=letter_range hlet;have hlt:0<s.length:=(List.getElem?_eq_some_iff.1 hc).1;have hg:s.getD 0 0=c:=by simp [List.getD_eq_getElem?_getD,hc]
  repeat' (first|refine zW [] ?_|(refine zB [] ?_ ?_<;>intro h<;>try exact zk h)|refine zX [] ?_|(refine zK (check03 _ hl) ?_ ?_<;>intro h<;>try exact zk h)|refine zC (check03 _ hl) ?_|refine oI (frz:=[]) (v:=.d (.int .u8 c)) ?_ (he:=by first|(simp [gD,cellsD,hc]<;>fail)|fail)|refine eI (v:=.d (.int .u8 c)) ?_ (he:=by first|(simp [gD,cellsD,hc]<;>fail)|fail)|(refine zE ?_;(first|(simp_all [smallF]<;>fail)|(simp_all [smallF];omega)))|fail)
 .repeat' (first|refine zW [] ?_|(refine zB [] ?_ ?_<;>intro h<;>try exact zk h)|refine zX [] ?_|(refine zK (check03 _ hl) ?_ ?_<;>intro h<;>try exact zk h)|refine zC (check03 _ hl) ?_|(refine zE ?_;(first|(simp_all [smallF]<;>fail)|(simp_all [smallF];omega)))|fail)
theorem refCapital (s:List Nat) (hl:s.length<=1099511627776):KnownCall Tryz.prog 173 [.str s] (.d (.bool (capitalF s))):=by
 refine knownE Yo (fnAt Tryz.func173 (by kernel_rfl) (by kernel_rfl):FnAt _ _ (mkFn Tryz.f173 [])) ?_;by_cases h0:nameF s=0
 .obtain⟨c,hc,hlet⟩:=name_first h0
  have hr:=letter_range hlet;have hlt:0<s.length:=(List.getElem?_eq_some_iff.1 hc).1;have hg:s.getD 0 0=c:=by simp [List.getD_eq_getElem?_getD,hc]
  repeat' (first|refine zW [] ?_|(refine zB [] ?_ ?_<;>intro h<;>try exact zk h)|refine zX [] ?_|(refine zK (refCheck03 _ hl) ?_ ?_<;>intro h<;>try exact zk h)|refine zC (refCheck03 _ hl) ?_|refine oI (frz:=[]) (v:=.d (.int .u8 c)) ?_ (he:=by first|(simp [gD,cellsD,hc]<;>fail)|fail)|refine eI (v:=.d (.int .u8 c)) ?_ (he:=by first|(simp [gD,cellsD,hc]<;>fail)|fail)|(refine zE ?_;(first|(simp_all [capitalF]<;>fail)|(simp_all [capitalF];omega)))|fail)
 .repeat' (first|refine zW [] ?_|(refine zB [] ?_ ?_<;>intro h<;>try exact zk h)|refine zX [] ?_|(refine zK (refCheck03 _ hl) ?_ ?_<;>intro h<;>try exact zk h)|refine zC (refCheck03 _ hl) ?_|(refine zE ?_;(first|(simp_all [capitalF]<;>fail)|(simp_all [capitalF];omega)))|fail)
theorem capital (s:List Nat) (hl:s.length<=1099511627776):KnownCall Tryz.prog 122 [.str s] (.d (.bool (capitalF s))):=by
 refine knownE Yo (fnAt Tryz.func122 (by kernel_rfl) (by kernel_rfl):FnAt _ _ (mkFn Tryz.f122 [])) ?_;by_cases h0:nameF s=0
 .obtain⟨c,hc,hlet⟩:=name_first h0
  have hr:=letter_range hlet;have hlt:0<s.length:=(List.getElem?_eq_some_iff.1 hc).1;have hg:s.getD 0 0=c:=by simp [List.getD_eq_getElem?_getD,hc]
  repeat' (first|refine zW [] ?_|(refine zB [] ?_ ?_<;>intro h<;>try exact zk h)|refine zX [] ?_|(refine zK (check03 _ hl) ?_ ?_<;>intro h<;>try exact zk h)|refine zC (check03 _ hl) ?_|refine oI (frz:=[]) (v:=.d (.int .u8 c)) ?_ (he:=by first|(simp [gD,cellsD,hc]<;>fail)|fail)|refine eI (v:=.d (.int .u8 c)) ?_ (he:=by first|(simp [gD,cellsD,hc]<;>fail)|fail)|(refine zE ?_;(first|(simp_all [capitalF]<;>fail)|(simp_all [capitalF];omega)))|fail)
 .repeat' (first|refine zW [] ?_|(refine zB [] ?_ ?_<;>intro h<;>try exact zk h)|refine zX [] ?_|(refine zK (check03 _ hl) ?_ ?_<;>intro h<;>try exact zk h)|refine zC (check03 _ hl) ?_|(refine zE ?_;(first|(simp_all [capitalF]<;>fail)|(simp_all [capitalF];omega)))|fail)
end Go.Av
end
noncomputable section
namespace Go.Av
open Go Go.Proofs
set_option maxRecDepth 10000
def smalls (g:Gram):List (List Nat):=g.tokens++[g.sep]
open Classical in
def namedF (g:Gram):Int:=if(∃ s ∈ smalls g,smallF s=false)\/∃ s ∈ g.names,capitalF s=false then 12 else 0
end Go.Av
end
noncomputable section
namespace Go.Av
open Go Go.Proofs
set_option maxRecDepth 10000
theorem slicesAll (ps:List GProd):KnownCall Tryz.prog 167 [.sl 2 (ps.map encP)] (.d (allProdsF ps)):=by
 refine knownE Yo (fnAt Tryz.func167 (by kernel_rfl) (by kernel_rfl):FnAt _ _ (mkFn Tryz.f167 [1])) ?_
 repeat refine zA [1] ?_
 refine Yt ?_;refine⟨trivial,_,_,by rfl,by rfl,Eq.trans (b:=some (.d (allProdsF ps))) (by kernel_rfl) ?_⟩
 rfl
theorem prodsOf (g:Gram):KnownCall Tryz.prog 74 [encG g] (.d (allProdsF g.prods)):=by
 refine knownE Yo (fnAt Tryz.func74 (by kernel_rfl) (by kernel_rfl):FnAt _ _ (mkFn Tryz.f74 [1])) ?_
 repeat refine zA [1] ?_
 first|refine RunOps.call (by rfl) (by rfl) (slicesAll g.prods _) (by rfl) (by rfl) ?_|refine EvD.call (by rfl) (by rfl) (by rfl) (slicesAll g.prods) (by rfl) (by rfl) ?_
 repeat refine zA [1] ?_
 refine Yt ?_;refine⟨trivial,_,_,by rfl,by rfl,Eq.trans (b:=some (.d (allProdsF g.prods))) (by kernel_rfl) ?_⟩
 rfl
def manyF (g:Gram):Int:=if 8<g.tokens.length\/8<g.names.length\/24<g.prods.length\/∃ p ∈ g.prods,6<p.right.length then 6 else 0
theorem many (g:Gram) (hf:Fits g):KnownCall Tryz.prog 77 [encG g] (.d (.int .i64 (manyF g))):=by
 refine knownE Yo (fnAt Tryz.func77 (by kernel_rfl) (by kernel_rfl):FnAt _ _ (mkFn Tryz.f77 [1])) ?_;refine Yq (Yg ?_);iterate 2 refine zX [1] ?_
 refine Yn ?_;refine Yq (Yq (Yg ?_));iterate 3 refine zX [1] ?_
 by_cases h1:8<g.tokens.length
 .first|refine oX (frz:=[1]) (v:=.d (.bool true)) Yo ?_ (he:=(by simp;omega))|refine eX (v:=.d (.bool true)) ?_ (he:=(by simp;omega))
  repeat refine zA [1] ?_
  refine Run.cond (b:=true) (by rfl) (fun _=>?_) (fun h=>by cases h)
  repeat refine zA [1] ?_
  refine Yt ?_;refine⟨trivial,_,_,by rfl,by rfl,Eq.trans (b:=some (.d (.int .i64 6))) (by kernel_rfl) ?_⟩;simp [manyF,h1]
 .first|refine oX (frz:=[1]) (v:=.d (.bool false)) Yo ?_ (he:=(by simp;omega))|refine eX (v:=.d (.bool false)) ?_ (he:=(by simp;omega))
  iterate 4 refine zX [1] ?_
  by_cases h2:8<g.names.length
  .first|refine oX (frz:=[1]) (v:=.d (.bool true)) Yo ?_ (he:=(by simp;omega))|refine eX (v:=.d (.bool true)) ?_ (he:=(by simp;omega))
   repeat refine zA [1] ?_
   refine Run.cond (b:=true) (by rfl) (fun _=>?_) (fun h=>by cases h)
   repeat refine zA [1] ?_
   refine Yt ?_;refine⟨trivial,_,_,by rfl,by rfl,Eq.trans (b:=some (.d (.int .i64 6))) (by kernel_rfl) ?_⟩;simp [manyF,h2]
  .first|refine oX (frz:=[1]) (v:=.d (.bool false)) Yo ?_ (he:=(by simp;omega))|refine eX (v:=.d (.bool false)) ?_ (he:=(by simp;omega))
   iterate 5 refine zX [1] ?_
   by_cases h3:24<g.prods.length
   .first|refine oX (frz:=[1]) (v:=.d (.bool true)) Yo ?_ (he:=(by simp;omega))|refine eX (v:=.d (.bool true)) ?_ (he:=(by simp;omega))
    repeat refine zA [1] ?_
    refine Run.cond (b:=true) (by rfl) (fun _=>?_) (fun h=>by cases h)
    repeat refine zA [1] ?_
    refine Yt ?_;refine⟨trivial,_,_,by rfl,by rfl,Eq.trans (b:=some (.d (.int .i64 6))) (by kernel_rfl) ?_⟩;simp [manyF,h3]
   .first|refine oX (frz:=[1]) (v:=.d (.bool false)) Yo ?_ (he:=(by simp;omega))|refine eX (v:=.d (.bool false)) ?_ (he:=(by simp;omega))
    repeat refine zA [1] ?_
    refine Run.cond (b:=false) (by rfl) (fun h=>by cases h) (fun _=>?_)
    repeat refine zA [1] ?_
    first|refine RunOps.call (by rfl) (by rfl) (prodsOf g _) (by rfl) (by rfl) ?_|refine EvD.call (by rfl) (by rfl) (by rfl) (prodsOf g) (by rfl) (by rfl) ?_
    repeat refine zA [1] ?_
    obtain⟨n,hn⟩:∃ n,n=g.prods.findIdx (fun p=>decide (6<p.right.length)):=⟨_,rfl⟩
    have hidx:n<=g.prods.length:=by rw [hn];exact List.findIdx_le_length
    have hcase:n<g.prods.length\/n=g.prods.length:=by omega
    refine Run.rangeProds (frz:=[1]) 1 (fun _=>[.box [.d (.int .i64 0)]]) g.prods (Nat.le_trans hf.prods (by decide)) (by rfl) (fun _=>rfl) (fun _=>rfl) (by kernel_rfl) n hidx (fun k p hk hp=>?_) ?_
    .have hgood:¬ 6<p.right.length:=by
      rw [hn] at hk;have:=List.not_of_lt_findIdx hk;have e:g.prods[k]=p:=by rw [List.getElem?_eq_some_iff] at hp;exact hp.2
      simpa [e] using this
     refine ayield_of_run (i:=2) (by rfl) (by rfl) (by rfl) ?_
     repeat refine zA [1] ?_
     refine⟨rfl,_,_,_,_,_,_,_,by rfl,?_⟩;refine Run.less ?_
     repeat refine zA [1] ?_
     refine Run.cond (by rfl) (fun h=>?_) (fun h=>?_)
     .simp at h;omega
     .repeat refine zA [1] ?_
      exact⟨rfl,_,less_of [] 3 rfl (by rfl) trivial trivial (by kernel_rfl) rfl,_,_,_,_,_,_,_,_,by rfl,rfl,by rfl⟩
    .rcases hcase with hlt|hge
     .obtain⟨p,hp⟩:=get_ok hlt
      have hbad:6<p.right.length:=by
       rw [hn] at hp hlt;have:=List.findIdx_getElem (p:=fun p:GProd=>decide (6<p.right.length)) (xs:=g.prods) (w:=hlt);have e:g.prods[g.prods.findIdx fun p=>decide (6<p.right.length)]=p:=by rw [List.getElem?_eq_some_iff] at hp;exact hp.2
       rw [e] at this;simpa using this
      refine .inr ⟨p,[.box [.d (.int .i64 6)]],hp,rfl,.inl ⟨?_,?_⟩⟩
      .refine ayield_of_run (i:=2) (by rfl) (by rfl) (by rfl) ?_
       repeat refine zA [1] ?_
       refine⟨rfl,_,_,_,_,_,_,_,by rfl,?_⟩;refine Run.less ?_
       repeat refine zA [1] ?_
       refine Run.cond (by rfl) (fun h=>?_) (fun h=>?_)
       .repeat refine zA [1] ?_
        refine Yt ?_;exact⟨rfl,_,less_of [] 3 rfl (by rfl) trivial trivial (by kernel_rfl) rfl,_,_,_,_,_,_,_,_,by rfl,rfl,by rfl⟩
       .simp at h;omega
      .refine⟨trivial,_,_,by rfl,by rfl,Eq.trans (b:=some (.d (.int .i64 6))) (by kernel_rfl) ?_⟩
       have hm:manyF g=6:=by
        unfold manyF;rw [if_pos (.inr (.inr (.inr ⟨p,List.mem_of_getElem? hp,hbad⟩)))]
       rw [hm]
     .refine .inl ⟨hge,?_⟩
      repeat refine zA [1] ?_
      refine Yt ?_;refine⟨trivial,_,_,by rfl,by rfl,Eq.trans (b:=some (.d (.int .i64 0))) (by kernel_rfl) ?_⟩;have hm:manyF g=0:=by
       unfold manyF;rw [if_neg]
       rintro(h|h|h|⟨p,hp,h⟩)
       .exact h1 h
       .exact h2 h
       .exact h3 h
       .have:=List.findIdx_lt_length_of_exists (xs:=g.prods) (p:=fun p=>decide (6<p.right.length)) ⟨p,hp,by simpa using h⟩
        omega
      rw [hm]
end Go.Av
end
noncomputable section
namespace Go.Av
open Go Go.Proofs
set_option maxRecDepth 10000
theorem many_tok {g:Gram} (h:8<g.tokens.length):manyF g=6:=if_pos (.inl h)
theorem many_nam {g:Gram} (h:8<g.names.length):manyF g=6:=if_pos (.inr (.inl h))
theorem many_pro {g:Gram} (h:24<g.prods.length):manyF g=6:=if_pos (.inr (.inr (.inl h)))
theorem many_rig {g:Gram} {i:Nat} {p:GProd} (h:g.prods[i]?=some p) (h':6<p.right.length):manyF g=6:=if_pos (.inr (.inr (.inr ⟨p,List.mem_of_getElem? h,h'⟩)))
end Go.Av
end
noncomputable section
namespace Go.Av
open Go Go.Proofs
set_option maxRecDepth 10000
def namesF (g:Gram):Int:=if namedF g=0/\(¬ (smalls g).Nodup\/¬ g.names.Nodup) then 8 else namedF g
theorem named_small {g:Gram} {i:Nat} {s:List Nat} (h:(smalls g)[i]?=some s) (h':smallF s=false):namedF g=12:=if_pos (.inl ⟨s,List.mem_of_getElem? h,h'⟩)
theorem named_capital {g:Gram} {i:Nat} {s:List Nat} (h:g.names[i]?=some s) (h':capitalF s=false):namedF g=12:=if_pos (.inr ⟨s,List.mem_of_getElem? h,h'⟩)
theorem named_no {g:Gram} (h1:∀ j:Nat,j<(smalls g).length->∀ s,(smalls g)[j]?=some s->smallF s=true) (h2:∀ j:Nat,j<g.names.length->∀ s,g.names[j]?=some s->capitalF s=true):namedF g=0:=by
 refine if_neg ?_
 rintro(⟨s,hs,h⟩|⟨s,hs,h⟩)
 .obtain⟨j,hj,e⟩:=List.getElem_of_mem hs
  have:=h1 j hj s (by rw [List.getElem?_eq_getElem hj,e]);simp [this] at h
 .obtain⟨j,hj,e⟩:=List.getElem_of_mem hs
  have:=h2 j hj s (by rw [List.getElem?_eq_getElem hj,e]);simp [this] at h
theorem Fits.small {g:Gram} (hf:Fits g) {i:Nat} {s:List Nat} (h:(smalls g)[i]?=some s):s.length<=1099511627776:=by
 have:=List.mem_of_getElem? h;simp only [smalls,List.mem_append,List.mem_singleton] at this;rcases this with h|rfl
 .exact Nat.le_trans (hf.tokenS _ h) (by decide)
 .exact Nat.le_trans hf.sep (by decide)
theorem Fits.name {g:Gram} (hf:Fits g) {i:Nat} {s:List Nat} (h:g.names[i]?=some s):s.length<=1099511627776:=Nat.le_trans (hf.nameS _ (List.mem_of_getElem? h)) (by decide)
theorem findF_range (l:List (List Nat)) (s:List Nat):-1<=findF l s/\findF l s<l.length:=by
 unfold findF;split
 .rename_i h
  have:=List.idxOf_lt_length_iff.2 h;omega
 .omega
end Go.Av
end
noncomputable section
namespace Go.Av
open Go Go.Proofs
set_option maxRecDepth 10000
def rowA (k sz:Nat):List DV->AV
 |[]=>.d .nilsl
 |a :: l=>.sr k sz (a :: l)
def rowO (sz:Nat):List DV->List Ob
 |[]=>[]
 |_ :: l=>[.room (l.length+1) sz]
def prodsTo (g:Gram) (s:Int) (i:Nat):List Nat:=((g.prods.take i).zipIdx.filter (fun q=>decide (q.1.left=s))).map (·.2)
def prodsF (g:Gram) (s:Int):List Nat:=prodsTo g s g.prods.length
end Go.Av
end
noncomputable section
namespace Go.Av
open Go Go.Proofs
set_option maxRecDepth 10000
def goodS (g:Gram) (s:Int):Bool:=isTerm g s || isNonterm g s
def goodP (g:Gram) (p:GProd):Prop:=isNonterm g p.left=true/\∀ s ∈ p.right,goodS g s=true
def symbolsOK (g:Gram):Prop:=isNonterm g g.start=true/\∀ p ∈ g.prods,goodP g p
def orderBad (g:Gram):Prop:=∃ (i:Nat) (p q:GProd),g.prods[i]?=some p/\g.prods[i+1]?=some q/\q.left<p.left
def missing (g:Gram):Prop:=∃ i:Nat,i<g.names.length/\prodsF g (16+i)=[]
open Classical in
def symbolsF (g:Gram):Int:=if symbolsOK g then(if orderBad g then 9 else if missing g then 7 else 0) else 14
end Go.Av
end
noncomputable section
namespace Go.Av
open Go Go.Proofs
set_option maxRecDepth 10000
open Classical in
def checkF (g:Gram):Int:=if g.k<1\/4<g.k then 2 else if manyF g≠0 then manyF g else if g.tokens=[]\/g.names=[] then 5 else if namesF g≠0 then namesF g else symbolsF g
def symName (g:Gram) (s:Int):Option (List Nat):=if 16<=s then g.names[(s-16).toNat]? else if 0<=s then g.tokens[s.toNat]? else none
end Go.Av
end
noncomputable section
namespace Go.Av
open Go Go.Proofs
set_option maxRecDepth 10000
def nameS (g:Gram) (s:Int):List Nat:=(symName g s).getD []
end Go.Av
end
noncomputable section
namespace Go.Av
open Go Go.Proofs
set_option maxRecDepth 10000
theorem cutL_all {α:Type} (l:List α):cutL none (some (l.length:Int)) l=l:=by simp [cutL]
def namedG (g:Gram):Int:=if g.tokens=[]\/g.names=[] then 5 else namedF g
theorem namedG_of {g:Gram} (h1:g.tokens≠[]) (h2:g.names≠[]):namedG g=namedF g:=if_neg (by simp [h1,h2])
theorem named (g:Gram) (hf:Fits g):KnownCall Tryz.prog 78 [encG g] (.d (.int .i64 (namedG g))):=by
 have hft:=hf.tokens;have hfn:=hf.names;have hsl:(smalls g).length=g.tokens.length+1:=by simp [smalls]
 by_cases h1:g.tokens=[]
 .have e:namedG g=5:=if_pos (.inl h1)
  rw [e];refine knownE Yo (fnAt Tryz.func78 (by kernel_rfl) (by kernel_rfl):FnAt _ _ (mkFn Tryz.f78 [1,28])) ?_
  repeat' (first|refine zW [1,28] ?_|(refine zB [1,28] ?_ ?_<;>intro h<;>try exact zk h)|refine zX [1,28] ?_|(refine zE ?_;(rfl))|(exfalso;(simp_all<;>fail))|fail)
 .by_cases h2:g.names=[]
  .have e:namedG g=5:=if_pos (.inr h2)
   rw [e];have h1':g.tokens.length≠0:=by simpa using h1
   refine knownE Yo (fnAt Tryz.func78 (by kernel_rfl) (by kernel_rfl):FnAt _ _ (mkFn Tryz.f78 [1,28])) ?_
   repeat' (first|refine zW [1,28] ?_|(refine zB [1,28] ?_ ?_<;>intro h<;>try exact zk h)|refine zX [1,28] ?_|(refine zE ?_;(rfl))|(exfalso;(simp_all<;>fail))|fail)
  .rw [namedG_of h1 h2]
   have h1':g.tokens.length≠0:=by simpa using h1
   have h2':g.names.length≠0:=by simpa using h2
   refine knownE Yo (fnAt Tryz.func78 (by kernel_rfl) (by kernel_rfl):FnAt _ _ (mkFn Tryz.f78 [1,28])) ?_
   repeat' (first|refine zW [1,28] ?_|(refine zB [1,28] ?_ ?_<;>intro h<;>try exact zk h)|refine zX [1,28] ?_|refine oX (frz:=[1,28]) Yo ?_ (hf:=(by first|(simp [cutC]<;>fail)|(simp [cutC];omega)))|refine eX ?_ (hf:=(by first|(simp [cutC]<;>fail)|(simp [cutC];omega)))|refine oX (frz:=[1,28]) Yo ?_ (hv:=app1) (hf:=rfl) (he:=rfl)|refine eX ?_ (hv:=app1) (hf:=rfl) (he:=rfl)|refine oX (frz:=[1,28]) Yo ?_ (hv:=app0) (hf:=rfl) (he:=rfl)|refine eX ?_ (hv:=app0) (hf:=rfl) (he:=rfl)|(refine zE ?_;(exfalso;(simp_all<;>fail)))|fail)
   first|refine Run.tidy (tidy_of (objs:=_) [(1,(.d (.ep [.int .i64 g.k,strs g.tokens,.str g.sep,strs g.names,.int .i64 g.start,.sl 2 (g.prods.map encP)]))),(29,.d (strs (smalls g))),(30,.d (.int .i64 (smalls g).length)),(31,.d (.int .i64 0))] 0 (Eq.trans (b:=[]) rfl rfl) rfl (by repeat' (first|exact trivial|refine⟨(Or.inl rfl),?_⟩|refine⟨(Or.inr rfl),?_⟩|refine⟨rfl,?_⟩|refine⟨(Or.inr (Eq.trans (b:=some (.d (.sl 1 (cutL none (some ((g.tokens.map DV.str).length:Int)) (g.tokens.map DV.str)++[.str g.sep])))) rfl (by rw [cutL_all];simp [smalls]))),?_⟩|refine⟨(Or.inl (Eq.trans (b:=some (.d (.int .i64 ((cutL none (some ((g.tokens.map DV.str).length:Int)) (g.tokens.map DV.str)++[DV.str g.sep]).length:Nat)))) rfl (by rw [cutL_all];simp [smalls]))),?_⟩|fail)) (by repeat' (first|exact trivial|refine⟨(Or.inl rfl),?_⟩|refine⟨(Or.inr rfl),?_⟩|refine⟨rfl,?_⟩|refine⟨(Or.inr (Eq.trans (b:=some (.d (.sl 1 (cutL none (some ((g.tokens.map DV.str).length:Int)) (g.tokens.map DV.str)++[.str g.sep])))) rfl (by rw [cutL_all];simp [smalls]))),?_⟩|refine⟨(Or.inl (Eq.trans (b:=some (.d (.int .i64 ((cutL none (some ((g.tokens.map DV.str).length:Int)) (g.tokens.map DV.str)++[DV.str g.sep]).length:Nat)))) rfl (by rw [cutL_all];simp [smalls]))),?_⟩|fail)) rfl rfl) ?_|refine RunOps.tidy (tidy_of (objs:=_) [(1,(.d (.ep [.int .i64 g.k,strs g.tokens,.str g.sep,strs g.names,.int .i64 g.start,.sl 2 (g.prods.map encP)]))),(29,.d (strs (smalls g))),(30,.d (.int .i64 (smalls g).length)),(31,.d (.int .i64 0))] 0 (Eq.trans (b:=[]) rfl rfl) rfl (by repeat' (first|exact trivial|refine⟨(Or.inl rfl),?_⟩|refine⟨(Or.inr rfl),?_⟩|refine⟨rfl,?_⟩|refine⟨(Or.inr (Eq.trans (b:=some (.d (.sl 1 (cutL none (some ((g.tokens.map DV.str).length:Int)) (g.tokens.map DV.str)++[.str g.sep])))) rfl (by rw [cutL_all];simp [smalls]))),?_⟩|refine⟨(Or.inl (Eq.trans (b:=some (.d (.int .i64 ((cutL none (some ((g.tokens.map DV.str).length:Int)) (g.tokens.map DV.str)++[DV.str g.sep]).length:Nat)))) rfl (by rw [cutL_all];simp [smalls]))),?_⟩|fail)) (by repeat' (first|exact trivial|refine⟨(Or.inl rfl),?_⟩|refine⟨(Or.inr rfl),?_⟩|refine⟨rfl,?_⟩|refine⟨(Or.inr (Eq.trans (b:=some (.d (.sl 1 (cutL none (some ((g.tokens.map DV.str).length:Int)) (g.tokens.map DV.str)++[.str g.sep])))) rfl (by rw [cutL_all];simp [smalls]))),?_⟩|refine⟨(Or.inl (Eq.trans (b:=some (.d (.int .i64 ((cutL none (some ((g.tokens.map DV.str).length:Int)) (g.tokens.map DV.str)++[DV.str g.sep]).length:Nat)))) rfl (by rw [cutL_all];simp [smalls]))),?_⟩|fail)) rfl rfl) ?_
   refine Run.loop (fun i:Nat=>⟨PT.ofList [(1,(.d (.ep [.int .i64 g.k,strs g.tokens,.str g.sep,strs g.names,.int .i64 g.start,.sl 2 (g.prods.map encP)]))),(29,.d (strs (smalls g))),(30,.d (.int .i64 (smalls g).length)),(31,.d (.int .i64 i))],[],[]⟩) (fun i=>i<=(smalls g).length/\∀ j,j<i->∀ s,(smalls g)[j]?=some s->smallF s=true) (fun i=>(smalls g).length-i) 0 ⟨Nat.zero_le _,fun j hj=>by omega⟩ (weak_of (by repeat' (first|exact trivial|refine⟨rfl,?_⟩))) (fun i hi=>?_);obtain⟨hi1,hi2⟩:=hi;rcases Nat.lt_or_ge i (smalls g).length with hlt|hge
   .obtain⟨s,hs⟩:=get_ok hlt
    repeat' (first|refine zW [1,28] ?_|(refine zB [1,28] ?_ ?_<;>intro h<;>try exact zk h)|refine zX [1,28] ?_|refine oI (frz:=[1,28]) (v:=.d (.ep [.str s])) ?_ (he:=by first|(simp [gD,cellsD,hs]<;>fail)|fail)|refine eI (v:=.d (.ep [.str s])) ?_ (he:=by first|(simp [gD,cellsD,hs]<;>fail)|fail)|(refine zK (small _ (hf.small hs)) ?_ ?_<;>intro h<;>try exact zk h)|refine zC (small _ (hf.small hs)) ?_|(refine zE ?_;(rw [named_small hs (by simp_all)]))|(exact⟨i+1,⟨by omega,all_succ hi2 (fun q hq=>by rw [hs] at hq;cases hq;simp_all)⟩,by omega,weak_of (by repeat' (first|exact trivial|refine⟨rfl,?_⟩|refine⟨(inc_get (k:=i) (by kernel_rfl) (by omega)),?_⟩))⟩)|fail)
   .repeat' (first|refine zW [1,28] ?_|(refine zB [1,28] ?_ ?_<;>intro h<;>try exact zk h)|refine zX [1,28] ?_|(refine zE ?_;(skip))|fail)
    refine Run.loop (fun i:Nat=>⟨PT.ofList [(1,(.d (.ep [.int .i64 g.k,strs g.tokens,.str g.sep,strs g.names,.int .i64 g.start,.sl 2 (g.prods.map encP)]))),(40,.d (strs g.names)),(41,.d (.int .i64 (g.names.map DV.str).length)),(42,.d (.int .i64 i))],[],[]⟩) (fun i=>i<=g.names.length/\∀ j,j<i->∀ s,g.names[j]?=some s->capitalF s=true) (fun i=>g.names.length-i) 0 ⟨Nat.zero_le _,fun j hj=>by omega⟩ (weak_of (by repeat' (first|exact trivial|refine⟨rfl,?_⟩))) (fun k hk=>?_);obtain⟨hk1,hk2⟩:=hk;rcases Nat.lt_or_ge k g.names.length with hklt|hkge
    .obtain⟨s,hs⟩:=get_ok hklt
     repeat' (first|refine zW [1,28] ?_|(refine zB [1,28] ?_ ?_<;>intro h<;>try exact zk h)|refine zX [1,28] ?_|refine oI (frz:=[1,28]) (v:=.d (.ep [.str s])) ?_ (he:=by first|(simp [gD,cellsD,hs]<;>fail)|fail)|refine eI (v:=.d (.ep [.str s])) ?_ (he:=by first|(simp [gD,cellsD,hs]<;>fail)|fail)|(refine zK (capital _ (hf.name hs)) ?_ ?_<;>intro h<;>try exact zk h)|refine zC (capital _ (hf.name hs)) ?_|(refine zE ?_;(rw [named_capital hs (by simp_all)]))|(exact⟨k+1,⟨by omega,all_succ hk2 (fun q hq=>by rw [hs] at hq;cases hq;simp_all)⟩,by omega,weak_of (by repeat' (first|exact trivial|refine⟨rfl,?_⟩|refine⟨(inc_get (k:=k) (by kernel_rfl) (by omega)),?_⟩))⟩)|fail)
    .have h0:namedF g=0:=named_no (fun j hj=>hi2 j (by omega)) (fun j hj=>hk2 j (by omega))
     repeat' (first|refine zW [1,28] ?_|(refine zB [1,28] ?_ ?_<;>intro h<;>try exact zk h)|refine zX [1,28] ?_|(refine zE ?_;(rw [h0]))|fail)
end Go.Av
end
noncomputable section
namespace Go.Av
open Go Go.Proofs
set_option maxRecDepth 10000
def allN (g:Gram):List (List Nat):=smalls g++g.names
def diffF (g:Gram):Int:=if(allN g).Nodup then 0 else 8
def kvs (l:List (List Nat)):List (DV × DV):=l.map fun s=>(.str s,.bool true)
theorem kvs_pairs (l:List (List Nat)):kvs l=(l.map fun s=>((s,DV.bool true):List Nat × DV)).map fun p=>(.str p.1,p.2):=by simp [kvs]
theorem find_not {E:PT Ty} {t:TypeId} {l:List (List Nat)} {s:List Nat} (h:s ∉ l):findKV (eqKey E t) (.str s) (kvs l)=some none:=by
 rw [kvs_pairs,findKV_str];have:(l.map fun s=>((s,DV.bool true):List Nat × DV)).findIdx? (fun p=>p.1 == s)=none:=by
  rw [List.findIdx?_eq_none_iff];intro p hp;simp only [List.mem_map] at hp;obtain⟨x,hx,rfl⟩:=hp
  simp
  exact fun e=>h (e ▸ hx)
 rw [this];rfl
theorem find_in {E:PT Ty} {t:TypeId} {l:List (List Nat)} {s:List Nat} (h:s ∈ l):∃ j,findKV (eqKey E t) (.str s) (kvs l)=some (some (j,.bool true)):=by
 rw [kvs_pairs,findKV_str];cases hf:(l.map fun s=>((s,DV.bool true):List Nat × DV)).findIdx? (fun p=>p.1 == s) with
 |none =>
  rw [List.findIdx?_eq_none_iff] at hf;have:=hf (s,.bool true) (by simp [h]);simp at this
 |some j =>
  have hj:j<l.length:=by
   rw [List.findIdx?_eq_some_iff_getElem] at hf;obtain⟨h1,_⟩:=hf;simpa using h1
  exact⟨j,by simp [hj]⟩
theorem kvs_app (l:List (List Nat)) (s:List Nat):kvs l++[(.str s,.bool true)]=kvs (l++[s]):=by simp [kvs]
theorem nodup_take {l:List (List Nat)} {i:Nat} {s:List Nat} (h:l[i]?=some s) (hn:(l.take i).Nodup) (hs:s ∉ l.take i):(l.take (i+1)).Nodup:=by
 rw [List.take_add_one,h,List.nodup_append];refine⟨hn,by simp,fun a ha b hb=>?_⟩;simp at hb;subst hb;exact fun e=>hs (e ▸ ha)
theorem nodup_not {l:List (List Nat)} {i:Nat} {s:List Nat} (h:l[i]?=some s) (hs:s ∈ l.take i):¬ l.Nodup:=fun hn=>by
 obtain⟨j,hj,e⟩:=List.getElem_of_mem hs;have hji:j<i:=by simp at hj;omega
 have hi:=(List.getElem?_eq_some_iff.1 h).1;refine List.pairwise_iff_getElem.1 hn j i (by omega) hi hji ?_;rw [(List.getElem?_eq_some_iff.1 h).2];simpa using e
theorem different (g:Gram) (hf:Fits g):KnownCall Tryz.prog 79 [encG g] (.d (.int .i64 (diffF g))):=by
 have hft:=hf.tokens;have hfn:=hf.names;have hal:(allN g).length=g.tokens.length+1+g.names.length:=by simp [allN,smalls];omega
 refine knownE Yo (fnAt Tryz.func79 (by kernel_rfl) (by kernel_rfl):FnAt _ _ (mkFn Tryz.f79 [1,18])) ?_
 repeat' (first|refine zW [1,18] ?_|(refine zB [1,18] ?_ ?_<;>intro h<;>try exact zk h)|refine zX [1,18] ?_|refine oX (frz:=[1,18]) Yo ?_ (hf:=(by first|(simp [cutC]<;>fail)|(simp [cutC];omega)))|refine eX ?_ (hf:=(by first|(simp [cutC]<;>fail)|(simp [cutC];omega)))|refine oX (frz:=[1,18]) Yo ?_ (hv:=app1) (hf:=rfl) (he:=rfl)|refine eX ?_ (hv:=app1) (hf:=rfl) (he:=rfl)|refine oX (frz:=[1,18]) Yo ?_ (hv:=app0) (hf:=rfl) (he:=rfl)|refine eX ?_ (hv:=app0) (hf:=rfl) (he:=rfl)|(refine zE ?_;(skip))|fail)
 first|refine Run.tidy (tidy_of (objs:=_) [(1,(.d (.ep [.int .i64 g.k,strs g.tokens,.str g.sep,strs g.names,.int .i64 g.start,.sl 2 (g.prods.map encP)]))),(3,.mp 0),(22,.d (strs (allN g))),(23,.d (.int .i64 (allN g).length)),(24,.d (.int .i64 0))] 1 (Eq.trans (b:=[.map []]) rfl rfl) rfl (by repeat' (first|exact trivial|refine⟨(Or.inl rfl),?_⟩|refine⟨(Or.inr rfl),?_⟩|refine⟨rfl,?_⟩|refine⟨(Or.inr (Eq.trans (b:=some (.d (.sl 1 (cutL none (some ((g.tokens.map DV.str).length:Int)) (g.tokens.map DV.str)++[.str g.sep]++g.names.map .str)))) rfl (by rw [cutL_all];simp [allN,smalls]))),?_⟩|refine⟨(Or.inl (Eq.trans (b:=some (.d (.int .i64 ((cutL none (some ((g.tokens.map DV.str).length:Int)) (g.tokens.map DV.str)++[DV.str g.sep]++g.names.map DV.str).length:Nat)))) rfl (congrArg (fun n:Nat=>some (AV.d (DV.int .i64 n))) (by rw [cutL_all,hal];simp<;>omega)))),?_⟩|fail)) (by repeat' (first|exact trivial|refine⟨(Or.inl rfl),?_⟩|refine⟨(Or.inr rfl),?_⟩|refine⟨rfl,?_⟩|refine⟨(Or.inr (Eq.trans (b:=some (.d (.sl 1 (cutL none (some ((g.tokens.map DV.str).length:Int)) (g.tokens.map DV.str)++[.str g.sep]++g.names.map .str)))) rfl (by rw [cutL_all];simp [allN,smalls]))),?_⟩|refine⟨(Or.inl (Eq.trans (b:=some (.d (.int .i64 ((cutL none (some ((g.tokens.map DV.str).length:Int)) (g.tokens.map DV.str)++[DV.str g.sep]++g.names.map DV.str).length:Nat)))) rfl (congrArg (fun n:Nat=>some (AV.d (DV.int .i64 n))) (by rw [cutL_all,hal];simp<;>omega)))),?_⟩|fail)) rfl rfl) ?_|refine RunOps.tidy (tidy_of (objs:=_) [(1,(.d (.ep [.int .i64 g.k,strs g.tokens,.str g.sep,strs g.names,.int .i64 g.start,.sl 2 (g.prods.map encP)]))),(3,.mp 0),(22,.d (strs (allN g))),(23,.d (.int .i64 (allN g).length)),(24,.d (.int .i64 0))] 1 (Eq.trans (b:=[.map []]) rfl rfl) rfl (by repeat' (first|exact trivial|refine⟨(Or.inl rfl),?_⟩|refine⟨(Or.inr rfl),?_⟩|refine⟨rfl,?_⟩|refine⟨(Or.inr (Eq.trans (b:=some (.d (.sl 1 (cutL none (some ((g.tokens.map DV.str).length:Int)) (g.tokens.map DV.str)++[.str g.sep]++g.names.map .str)))) rfl (by rw [cutL_all];simp [allN,smalls]))),?_⟩|refine⟨(Or.inl (Eq.trans (b:=some (.d (.int .i64 ((cutL none (some ((g.tokens.map DV.str).length:Int)) (g.tokens.map DV.str)++[DV.str g.sep]++g.names.map DV.str).length:Nat)))) rfl (congrArg (fun n:Nat=>some (AV.d (DV.int .i64 n))) (by rw [cutL_all,hal];simp<;>omega)))),?_⟩|fail)) (by repeat' (first|exact trivial|refine⟨(Or.inl rfl),?_⟩|refine⟨(Or.inr rfl),?_⟩|refine⟨rfl,?_⟩|refine⟨(Or.inr (Eq.trans (b:=some (.d (.sl 1 (cutL none (some ((g.tokens.map DV.str).length:Int)) (g.tokens.map DV.str)++[.str g.sep]++g.names.map .str)))) rfl (by rw [cutL_all];simp [allN,smalls]))),?_⟩|refine⟨(Or.inl (Eq.trans (b:=some (.d (.int .i64 ((cutL none (some ((g.tokens.map DV.str).length:Int)) (g.tokens.map DV.str)++[DV.str g.sep]++g.names.map DV.str).length:Nat)))) rfl (congrArg (fun n:Nat=>some (AV.d (DV.int .i64 n))) (by rw [cutL_all,hal];simp<;>omega)))),?_⟩|fail)) rfl rfl) ?_
 refine Run.loop (fun i:Nat=>⟨PT.ofList [(1,(.d (.ep [.int .i64 g.k,strs g.tokens,.str g.sep,strs g.names,.int .i64 g.start,.sl 2 (g.prods.map encP)]))),(3,.mp 0),(22,.d (strs (allN g))),(23,.d (.int .i64 (allN g).length)),(24,.d (.int .i64 i))],[.map (kvs ((allN g).take i))],[]⟩) (fun i=>i<=(allN g).length/\((allN g).take i).Nodup) (fun i=>(allN g).length-i) 0 ⟨Nat.zero_le _,by simp⟩ (weak_of' rfl rfl (by repeat' (first|exact trivial|refine⟨rfl,?_⟩))) (fun i hi=>?_);obtain⟨hi1,hi2⟩:=hi;rcases Nat.lt_or_ge i (allN g).length with hlt|hge
 .obtain⟨s,hs⟩:=get_ok hlt
  by_cases hm:s ∈ (allN g).take i
  .obtain⟨j,hj⟩:=find_in (E:=Et) (t:=9) hm
   repeat' (first|refine zW [1,18] ?_|(refine zB [1,18] ?_ ?_<;>intro h<;>try exact zk h)|refine zX [1,18] ?_|refine oI (frz:=[1,18]) (v:=.d (.ep [.str s])) ?_ (he:=by first|(simp [gD,cellsD,hs]<;>fail)|fail)|refine eI (v:=.d (.ep [.str s])) ?_ (he:=by first|(simp [gD,cellsD,hs]<;>fail)|fail)|refine RunOps.x (frz:=[1,18]) Yo (by rfl) (evAny_lookup (by rfl) (by rfl) (by rfl) (by rfl) (by rfl) (by rfl) (by rfl) (by rfl) (by rfl) hj (by rfl)) rfl (v:=.d (.bool true)) rfl rfl (by rfl) (by rfl) ?_|(refine zE ?_;(rw [diffF,if_neg (nodup_not hs hm)]))|fail)
  .have hj:=find_not (E:=Et) (t:=9) hm
   repeat' (first|refine zW [1,18] ?_|(refine zB [1,18] ?_ ?_<;>intro h<;>try exact zk h)|refine zX [1,18] ?_|refine oI (frz:=[1,18]) (v:=.d (.ep [.str s])) ?_ (he:=by first|(simp [gD,cellsD,hs]<;>fail)|fail)|refine eI (v:=.d (.ep [.str s])) ?_ (he:=by first|(simp [gD,cellsD,hs]<;>fail)|fail)|refine RunOps.x (frz:=[1,18]) Yo (by rfl) (evAny_lookup (by rfl) (by rfl) (by rfl) (by rfl) (by rfl) (by rfl) (by rfl) (by rfl) (by rfl) hj (by rfl)) rfl (v:=.d (.bool false)) rfl rfl (by rfl) (by rfl) ?_|refine RunOps.x (frz:=[1,18]) Yo (by rfl) (evAny_mapUpdate (by rfl) (by rfl) (by rfl) (by rfl) (by rfl) (by rfl) (by rfl) (by rfl) (by rfl) hj) rfl rfl rfl (by rfl) (by rfl) ?_|(refine zE ?_;(skip))|(refine⟨i+1,⟨by omega,nodup_take hs hi2 hm⟩,by omega,weak_of' (by rw [List.take_add_one,hs];exact congrArg (fun q=>[Ob.map q]) (kvs_app _ _).symm) rfl (by repeat' (first|exact trivial|refine⟨rfl,?_⟩|refine⟨(inc_get (k:=i) (by kernel_rfl) (by omega)),?_⟩))⟩)|fail)
 .have hnd:(allN g).Nodup:=by rw [List.take_of_length_le hge] at hi2;exact hi2
  repeat' (first|refine zW [1,18] ?_|(refine zB [1,18] ?_ ?_<;>intro h<;>try exact zk h)|refine zX [1,18] ?_|(refine zE ?_;(rw [diffF,if_pos hnd]))|fail)
end Go.Av
end
noncomputable section
namespace Go.Av
open Go Go.Proofs
set_option maxRecDepth 10000
def idxP {α:Type} (l:List α) (p:α->Bool):Int:=if l.any p then(l.findIdx p:Nat) else -1
theorem idxP_at {α:Type} {l:List α} {p:α->Bool} {i:Nat} {x:α} (h:l[i]?=some x) (hx:p x=true) (hb:∀ j,j<i->∀ y,l[j]?=some y->p y=false):idxP l p=i:=by
 have hm:=List.mem_of_getElem? h;have ha:l.any p=true:=List.any_eq_true.2 ⟨x,hm,hx⟩;rw [idxP,if_pos ha];have h1:l.findIdx p<l.length:=List.findIdx_lt_length_of_exists ⟨x,hm,hx⟩;have h2:=List.findIdx_getElem (w:=h1);have h3:¬ l.findIdx p<i:=fun hlt=>by
  have:=hb _ hlt _ (List.getElem?_eq_getElem h1);rw [this] at h2;cases h2
 have h4:¬ i<l.findIdx p:=fun hlt=>by
  have h5:=List.not_of_lt_findIdx hlt;rw [(List.getElem?_eq_some_iff.1 h).2] at h5;simp [hx] at h5
 omega
theorem idxP_none {α:Type} {l:List α} {p:α->Bool} (hb:∀ j,j<l.length->∀ y,l[j]?=some y->p y=false):idxP l p=-1:=by
 rw [idxP,if_neg];intro ha;obtain⟨x,hx,hp⟩:=List.any_eq_true.1 ha;obtain⟨j,hj,e⟩:=List.getElem_of_mem hx;have:=hb j hj x (by rw [List.getElem?_eq_getElem hj,e]);rw [this] at hp;cases hp
theorem idxP_any {α:Type} (l:List α) (p:α->Bool):decide (0<=idxP l p)=l.any p:=by
 unfold idxP;cases h:l.any p<;>simp
theorem indexFuncInts (l:List Int) (hl:l.length<=1099511627776) (F:FuncId) (caps:List DV) (p:Int->Bool) (hp:∀ x ∈ l,KnownCall Tryz.prog F ((.int .i64 x) :: caps) (.d (.bool (p x)))) :
  KnownCall Tryz.prog 222 [(.sl 1 (l.map (.int .i64))),.fn (.func F) [] caps] (.d (.int .i64 (idxP l p))):=by
 refine knownE Yo (fnAt Tryz.func222 (by kernel_rfl) (by kernel_rfl):FnAt _ _ (mkFn Tryz.f222 [])) ?_
 repeat' (first|refine zW [] ?_|(refine zB [] ?_ ?_<;>intro h<;>try exact zk h)|refine zX [] ?_|(refine zE ?_;(skip))|fail)
 refine Run.loop (fun i:Nat=>⟨PT.ofList [(0,.d (.sl 1 (l.map (.int .i64)))),(1,.d (.fn (.func F) [] caps)),(7,.d (.int .i64 l.length)),(8,.d (.int .i64 i))],[],[]⟩) (fun i=>i<=l.length/\∀ j,j<i->∀ y,l[j]?=some y->p y=false) (fun i=>l.length-i) 0 ⟨Nat.zero_le _,fun j hj=>by omega⟩ (weak_of (by repeat' (first|exact trivial|refine⟨rfl,?_⟩|refine⟨Eq.trans (b:=some (.d (.int .i64 (l.map _).length))) rfl (by rw [List.length_map]),?_⟩|fail))) (fun i hi=>?_);obtain⟨hi1,hi2⟩:=hi;rcases Nat.lt_or_ge i l.length with hlt|hge
 .obtain⟨x,hx⟩:=get_ok hlt
  have hc:=hp x (List.mem_of_getElem? hx)
  repeat' (first|refine zW [] ?_|(refine zB [] ?_ ?_<;>intro h<;>try exact zk h)|refine zX [] ?_|refine oI (frz:=[]) (v:=.d (.ep [.int .i64 x])) ?_ (he:=by first|(simp [gD,cellsD,hx]<;>fail)|fail)|refine eI (v:=.d (.ep [.int .i64 x])) ?_ (he:=by first|(simp [gD,cellsD,hx]<;>fail)|fail)|(refine zK (hc) ?_ ?_<;>intro h<;>try exact zk h)|refine zC (hc) ?_|(refine zE ?_;(rw [idxP_at hx (by simp_all) hi2]))|(exact⟨i+1,⟨by omega,all_succ hi2 (fun q hq=>by rw [hx] at hq;cases hq;simp_all)⟩,by omega,weak_of (by repeat' (first|exact trivial|refine⟨rfl,?_⟩|refine⟨(inc_get (k:=i) (by kernel_rfl) (by omega)),?_⟩))⟩)|fail)
 .have hge:i=l.length:=by omega
  repeat' (first|refine zW [] ?_|(refine zB [] ?_ ?_<;>intro h<;>try exact zk h)|refine zX [] ?_|(refine zE ?_;(rw [idxP_none (fun j hj=>hi2 j (by omega))]))|fail)
theorem containsFuncInts (l:List Int) (hl:l.length<=1099511627776) (F:FuncId) (caps:List DV) (p:Int->Bool) (hp:∀ x ∈ l,KnownCall Tryz.prog F ((.int .i64 x) :: caps) (.d (.bool (p x)))) :
  KnownCall Tryz.prog 168 [(.sl 1 (l.map (.int .i64))),.fn (.func F) [] caps] (.d (.bool (l.any p))):=by
 refine knownE Yo (fnAt Tryz.func168 (by kernel_rfl) (by kernel_rfl):FnAt _ _ (mkFn Tryz.f168 [])) ?_;have e:=idxP_any l p
 repeat' (first|refine zW [] ?_|(refine zB [] ?_ ?_<;>intro h<;>try exact zk h)|refine zX [] ?_|(refine zK (indexFuncInts _ hl _ _ _ hp) ?_ ?_<;>intro h<;>try exact zk h)|refine zC (indexFuncInts _ hl _ _ _ hp) ?_|(refine zE ?_;(first|(rw [<- e]<;>simp_all<;>fail)|fail))|fail)
end Go.Av
end
noncomputable section
namespace Go.Av
open Go Go.Proofs
set_option maxRecDepth 10000
theorem prodsF_nil (g:Gram) (s:Int):prodsF g s=[] ↔ g.prods.any (fun p=>decide (p.left=s))=false:=by
 simp only [prodsF,prodsTo,List.take_length,List.map_eq_nil_iff,List.filter_eq_nil_iff,List.any_eq_false,decide_eq_true_eq];refine⟨fun h p hp=>?_,fun h q hq=>h q.1 (by have:=List.fst_mem_of_mem_zipIdx hq;exact this)⟩;obtain⟨j,hj,e⟩:=List.getElem_of_mem hp;exact h (p,j) (by rw [List.mem_zipIdx_iff_getElem?];rw [List.getElem?_eq_getElem hj,e])
theorem indexFuncA (l:List GProd) (hl:l.length<=1099511627776) (F:FuncId) (caps:List AV) (objs:List Ob) (p:GProd->Bool) (hp:∀ x ∈ l,ACall Tryz.prog F (.d (encP x) :: caps) objs (.d (.bool (p x))) objs) :
  ACall Tryz.prog 223 [.d (.sl 2 (l.map encP)),.fn (.func F) [] caps] objs (.d (.int .i64 (idxP l p))) objs:=by
 refine acall_of_run Yo (fnAt Tryz.func223 (by kernel_rfl) (by kernel_rfl):FnAt _ _ (mkFn Tryz.f223 [])) rfl rfl ?_
 repeat' (first|refine zW [] ?_|(refine zB [] ?_ ?_<;>intro h<;>try exact zk h)|refine zX [] ?_|(refine zE ?_;(skip))|fail)
 refine Run.loop (fun i:Nat=>⟨PT.ofList [(0,.d (.sl 2 (l.map encP))),(1,.fn (.func F) [] caps),(7,.d (.int .i64 l.length)),(8,.d (.int .i64 i))],objs,[]⟩) (fun i=>i<=l.length/\∀ j,j<i->∀ y,l[j]?=some y->p y=false) (fun i=>l.length-i) 0 ⟨Nat.zero_le _,fun j hj=>by omega⟩ (weak_of (by repeat' (first|exact trivial|refine⟨rfl,?_⟩|refine⟨Eq.trans (b:=some (.d (.int .i64 (l.map _).length))) rfl (by rw [List.length_map]),?_⟩|fail))) (fun i hi=>?_);obtain⟨hi1,hi2⟩:=hi;rcases Nat.lt_or_ge i l.length with hlt|hge
 .obtain⟨x,hx⟩:=get_ok hlt
  have hc:=hp x (List.mem_of_getElem? hx);cases hpx:p x with
  |true =>
   rw [hpx] at hc
   repeat' (first|refine zW [] ?_|(refine zB [] ?_ ?_<;>intro h<;>try exact zk h)|refine zX [] ?_|refine oI (frz:=[]) (v:=.d (.ep [.int .i64 x.left,ints x.right])) ?_ (he:=by first|(simp [gD,cellsD,hx,encP]<;>fail)|fail)|refine eI (v:=.d (.ep [.int .i64 x.left,ints x.right])) ?_ (he:=by first|(simp [gD,cellsD,hx,encP]<;>fail)|fail)|refine RunOps.call (by rfl) (by rfl) hc (by rfl) (by rfl) ?_|(refine zE ?_;(skip))|fail)
   refine Yt ?_;refine⟨trivial,rfl,?_⟩;rw [idxP_at hx hpx hi2];rfl
  |false =>
   rw [hpx] at hc
   repeat' (first|refine zW [] ?_|(refine zB [] ?_ ?_<;>intro h<;>try exact zk h)|refine zX [] ?_|refine oI (frz:=[]) (v:=.d (.ep [.int .i64 x.left,ints x.right])) ?_ (he:=by first|(simp [gD,cellsD,hx,encP]<;>fail)|fail)|refine eI (v:=.d (.ep [.int .i64 x.left,ints x.right])) ?_ (he:=by first|(simp [gD,cellsD,hx,encP]<;>fail)|fail)|refine RunOps.call (by rfl) (by rfl) hc (by rfl) (by rfl) ?_|(refine zE ?_;(skip))|(exact⟨i+1,⟨by omega,all_succ hi2 (fun q hq=>by rw [hx] at hq;cases hq;exact hpx)⟩,by omega,weak_of (by repeat' (first|exact trivial|refine⟨rfl,?_⟩|refine⟨(inc_get (k:=i) (by kernel_rfl) (by omega)),?_⟩))⟩)|fail)
 .have hge:i=l.length:=by omega
  repeat' (first|refine zW [] ?_|(refine zB [] ?_ ?_<;>intro h<;>try exact zk h)|refine zX [] ?_|(refine zE ?_;(skip))|fail)
  refine Yt ?_;refine⟨trivial,rfl,?_⟩;rw [idxP_none (fun j hj=>hi2 j (by omega))];rfl
theorem containsFuncA (l:List GProd) (hl:l.length<=1099511627776) (F:FuncId) (caps:List AV) (objs:List Ob) (p:GProd->Bool) (hp:∀ x ∈ l,ACall Tryz.prog F (.d (encP x) :: caps) objs (.d (.bool (p x))) objs) :
  ACall Tryz.prog 170 [.d (.sl 2 (l.map encP)),.fn (.func F) [] caps] objs (.d (.bool (l.any p))) objs:=by
 refine acall_of_run Yo (fnAt Tryz.func170 (by kernel_rfl) (by kernel_rfl):FnAt _ _ (mkFn Tryz.f170 [])) rfl rfl ?_
 repeat refine zA [] ?_
 refine RunOps.call (by rfl) (by rfl) (indexFuncA l hl F caps objs p hp) (by rfl) (by rfl) ?_
 repeat refine zA [] ?_
 refine Yt ?_;refine⟨trivial,rfl,Eq.trans (b:=some (.d (.bool (decide (idxP l p >= 0))))) (by kernel_rfl) ?_⟩;rw [show decide (idxP l p >= 0)=l.any p from idxP_any l p]
theorem complete1 (p:GProd) (i:Nat) (hi:i<=1048576):ACall Tryz.prog 171 [.d (encP p),.bp 0 0] [.box [.d (.int .i64 i)]] (.d (.bool (decide (p.left=16+(i:Int))))) [.box [.d (.int .i64 i)]]:=by
 have hw:IntKind.i64.wrap (16+(i:Int))=16+i:=wrap64 (by omega) (by omega);refine acall_of_run Yo (fnAt Tryz.func171 (by kernel_rfl) (by kernel_rfl):FnAt _ _ (mkFn Tryz.f171 [2])) rfl rfl ?_
 repeat refine zA [2] ?_
 refine Yt ?_;refine⟨trivial,rfl,Eq.trans (b:=some (.d (.bool (p.left == IntKind.i64.wrap (16+(i:Int)))))) (by kernel_rfl) ?_⟩;rw [hw]
 congr 3
open Classical in
def completeF (g:Gram):Int:=if missing g then 7 else 0
theorem complete (g:Gram) (hf:Fits g):KnownCall Tryz.prog 82 [encG g] (.d (.int .i64 (completeF g))):=by
 have hfp:=hf.prods;have hfn:=hf.names;refine knownE Yo (fnAt Tryz.func82 (by kernel_rfl) (by kernel_rfl):FnAt _ _ (mkFn Tryz.f82 [1])) ?_
 repeat' (first|refine zW [1] ?_|(refine zB [1] ?_ ?_<;>intro h<;>try exact zk h)|refine zX [1] ?_|(refine zE ?_;(skip))|fail)
 refine Run.loopT (fun i:Nat=>⟨PT.ofList [(1,(.d (.ep [.int .i64 g.k,strs g.tokens,.str g.sep,strs g.names,.int .i64 g.start,.sl 2 (g.prods.map encP)]))),(6,.d (.int .i64 (g.names.map DV.str).length)),(7,.d (.int .i64 i))],[],[]⟩) (fun i=>i<=g.names.length/\∀ j:Nat,j<i->prodsF g (16+j)≠[]) (fun i=>g.names.length-i) 0 ⟨Nat.zero_le _,fun j hj=>by omega⟩ (ti _ 0) (fun i hi=>?_);obtain⟨hi1,hi2⟩:=hi;rcases Nat.lt_or_ge i g.names.length with hlt|hge
 .have hc:=containsFuncA g.prods (by omega) 171 [.bp 0 0] [.box [.d (.int .i64 i)]] (fun p=>decide (p.left=16+(i:Int))) (fun x _=>complete1 x i (by omega))
  cases hpx:g.prods.any (fun p=>decide (p.left=16+(i:Int))) with
  |true =>
   rw [hpx] at hc
   repeat' (first|refine zW [1] ?_|(refine zB [1] ?_ ?_<;>intro h<;>try exact zk h)|refine zX [1] ?_|refine RunOps.call (by rfl) (by rfl) hc (by rfl) (by rfl) ?_|(refine zE ?_;(skip))|(exact⟨i+1,⟨by omega,all_succ hi2 (fun e=>by rw [prodsF_nil,hpx] at e;cases e)⟩,by omega,(ti _ 0)⟩)|fail)
  |false =>
   rw [hpx] at hc;have hm:missing g:=⟨i,hlt,by rw [prodsF_nil];exact hpx⟩
   repeat' (first|refine zW [1] ?_|(refine zB [1] ?_ ?_<;>intro h<;>try exact zk h)|refine zX [1] ?_|refine RunOps.call (by rfl) (by rfl) hc (by rfl) (by rfl) ?_|(refine zE ?_;(rw [completeF,if_pos hm]))|fail)
 .have hm:¬ missing g:=fun⟨j,h1,h2⟩=>hi2 j (by omega) h2
  repeat' (first|refine zW [1] ?_|(refine zB [1] ?_ ?_<;>intro h<;>try exact zk h)|refine zX [1] ?_|(refine zE ?_;(rw [completeF,if_neg hm]))|fail)
end Go.Av
end
noncomputable section
namespace Go.Av
open Go Go.Proofs
set_option maxRecDepth 10000
abbrev cellG (g:Gram):DV:=.ep [.int .i64 g.k,strs g.tokens,.str g.sep,strs g.names,.int .i64 g.start,.sl 2 (g.prods.map encP)]
theorem symbols1 (g:Gram) (s:Int) (hf:Fits g):KnownCall Tryz.prog 169 [.int .i64 s,cellG g] (.d (.bool (!goodS g s))):=by
 refine knownE Yo (fnAt Tryz.func169 (by kernel_rfl) (by kernel_rfl):FnAt _ _ (mkFn Tryz.f169 [])) ?_
 repeat' (first|refine zW [] ?_|(refine zB [] ?_ ?_<;>intro h<;>try exact zk h)|refine zX [] ?_|(refine zK (terminal g _) ?_ ?_<;>intro h<;>try exact zk h)|refine zC (terminal g _) ?_|(refine zK (nonterminal g _ hf) ?_ ?_<;>intro h<;>try exact zk h)|refine zC (nonterminal g _ hf) ?_|(refine zE ?_;(first|(simp_all [goodS]<;>fail)|(simp_all [goodS];omega)))|fail)
open Classical in
def badP (g:Gram) (p:GProd):Bool:=!isNonterm g p.left || p.right.any (fun s=>!goodS g s)
theorem badP_iff (g:Gram) (p:GProd):badP g p=false ↔ goodP g p:=by
 simp only [badP,goodP,Bool.or_eq_false_iff,Bool.not_eq_false',List.any_eq_false];refine and_congr Iff.rfl (forall_congr' fun s=>forall_congr' fun _=>?_)
 simp
open Classical in
def symsG (g:Gram):Int:=if symbolsOK g then 0 else 14
theorem symbols (g:Gram) (hf:Fits g):KnownCall Tryz.prog 80 [encG g] (.d (.int .i64 (symsG g))):=by
 have hfp:=hf.prods;cases hst:isNonterm g g.start with
 |false =>
  have e:symsG g=14:=by unfold symsG;rw [if_neg];exact fun h=>by rw [h.1] at hst;cases hst
  rw [e];have hc:=nonterminal g g.start hf;rw [hst] at hc;refine knownE Yo (fnAt Tryz.func80 (by kernel_rfl) (by kernel_rfl):FnAt _ _ (mkFn Tryz.f80 [1])) ?_
  repeat' (first|refine zW [1] ?_|(refine zB [1] ?_ ?_<;>intro h<;>try exact zk h)|refine zX [1] ?_|(refine zK (hc) ?_ ?_<;>intro h<;>try exact zk h)|refine zC (hc) ?_|(refine zE ?_;(rfl))|fail)
 |true =>
  have hc:=nonterminal g g.start hf;rw [hst] at hc;refine knownE Yo (fnAt Tryz.func80 (by kernel_rfl) (by kernel_rfl):FnAt _ _ (mkFn Tryz.f80 [1])) ?_
  repeat' (first|refine zW [1] ?_|(refine zB [1] ?_ ?_<;>intro h<;>try exact zk h)|refine zX [1] ?_|refine zC (hc) ?_|(refine zK (prodsOf g) ?_ ?_<;>intro h<;>try exact zk h)|refine zC (prodsOf g) ?_|(refine zE ?_;(rfl))|fail)
  obtain⟨n,hn⟩:∃ n,n=g.prods.findIdx (fun p=>badP g p):=⟨_,rfl⟩
  have hidx:n<=g.prods.length:=by rw [hn];exact List.findIdx_le_length
  have hcase:n<g.prods.length\/n=g.prods.length:=by omega
  refine Run.rangeProds (frz:=[1]) 1 (fun _=>[.box [.d (.int .i64 0)]]) g.prods (Nat.le_trans hf.prods (by decide)) (by rfl) (fun _=>rfl) (fun _=>rfl) (by kernel_rfl) n hidx (fun k p hk hp=>?_) ?_
  .have hgood:badP g p=false:=by
    rw [hn] at hk;have:=List.not_of_lt_findIdx hk;have e:g.prods[k]=p:=by rw [List.getElem?_eq_some_iff] at hp;exact hp.2
    simpa [e] using this
   have hpr:=hf.rights p (List.mem_of_getElem? hp);have hg:=(badP_iff g p).1 hgood;have hnt:=nonterminal g p.left hf;rw [hg.1] at hnt;have hcf:=containsFuncInts p.right (by omega) 169 [cellG g] (fun s=>!goodS g s) (fun s _=>symbols1 g s hf);rw [show p.right.any (fun s=>!goodS g s)=false from by simp only [badP,Bool.or_eq_false_iff] at hgood;exact hgood.2] at hcf;refine ayield_of_run (i:=2) (by rfl) (by rfl) (by rfl) ?_
   repeat refine zA [1] ?_
   refine⟨rfl,_,_,_,_,_,_,_,by rfl,?_⟩;refine Run.less ?_
   repeat' (first|refine zW [1] ?_|(refine zB [1] ?_ ?_<;>intro h<;>try exact zk h)|refine zX [1] ?_|refine zC (hnt) ?_|refine zC (hcf) ?_|(exact⟨rfl,_,less_of [] 3 rfl (by rfl) trivial trivial (by kernel_rfl) rfl,_,_,_,_,_,_,_,_,by rfl,rfl,by rfl⟩)|fail)
  .rcases hcase with hlt|hge
   .obtain⟨p,hp⟩:=get_ok hlt
    have hbad:badP g p=true:=by
     rw [hn] at hp hlt;have:=List.findIdx_getElem (p:=fun p:GProd=>badP g p) (xs:=g.prods) (w:=hlt);have e:g.prods[g.prods.findIdx fun p=>badP g p]=p:=by rw [List.getElem?_eq_some_iff] at hp;exact hp.2
     rw [e] at this;simpa using this
    have hpr:=hf.rights p (List.mem_of_getElem? hp);have e:symsG g=14:=by
     unfold symsG;rw [if_neg];intro h;have:=(badP_iff g p).2 (h.2 p (List.mem_of_getElem? hp));rw [hbad] at this;cases this
    rw [e];have hcf:=containsFuncInts p.right (by omega) 169 [cellG g] (fun s=>!goodS g s) (fun s _=>symbols1 g s hf);refine .inr ⟨p,[.box [.d (.int .i64 14)]],hp,rfl,.inl ⟨?_,?_⟩⟩
    .cases hl:isNonterm g p.left with
     |false =>
      have hnt:=nonterminal g p.left hf;rw [hl] at hnt;refine ayield_of_run (i:=2) (by rfl) (by rfl) (by rfl) ?_
      repeat refine zA [1] ?_
      refine⟨rfl,_,_,_,_,_,_,_,by rfl,?_⟩;refine Run.less ?_
      repeat' (first|refine zW [1] ?_|(refine zB [1] ?_ ?_<;>intro h<;>try exact zk h)|refine zX [1] ?_|refine zC (hnt) ?_|((refine Yt ?_;exact⟨rfl,_,less_of [] 3 rfl (by rfl) trivial trivial (by kernel_rfl) rfl,_,_,_,_,_,_,_,_,by rfl,rfl,by rfl⟩))|fail)
     |true =>
      have hnt:=nonterminal g p.left hf;rw [hl] at hnt;rw [show p.right.any (fun s=>!goodS g s)=true from by simpa [badP,hl] using hbad] at hcf;refine ayield_of_run (i:=2) (by rfl) (by rfl) (by rfl) ?_
      repeat refine zA [1] ?_
      refine⟨rfl,_,_,_,_,_,_,_,by rfl,?_⟩;refine Run.less ?_
      repeat' (first|refine zW [1] ?_|(refine zB [1] ?_ ?_<;>intro h<;>try exact zk h)|refine zX [1] ?_|refine zC (hnt) ?_|refine zC (hcf) ?_|((refine Yt ?_;exact⟨rfl,_,less_of [] 3 rfl (by rfl) trivial trivial (by kernel_rfl) rfl,_,_,_,_,_,_,_,_,by rfl,rfl,by rfl⟩))|fail)
    .refine⟨trivial,_,_,by rfl,by rfl,Eq.trans (b:=some (.d (.int .i64 14))) (by kernel_rfl) ?_⟩
     rfl
   .have e:symsG g=0:=by
     unfold symsG;rw [if_pos];refine⟨hst,fun p hp=>(badP_iff g p).1 ?_⟩;cases hb:badP g p with
     |false=>rfl
     |true =>
      have:=List.findIdx_lt_length_of_exists (xs:=g.prods) (p:=fun p=>badP g p) ⟨p,hp,hb⟩;omega
    rw [e];refine .inl ⟨hge,?_⟩
    repeat' (first|refine zW [1] ?_|(refine zB [1] ?_ ?_<;>intro h<;>try exact zk h)|refine zX [1] ?_|(refine zE ?_;(rfl))|fail)
end Go.Av
end
noncomputable section
namespace Go.Av
open Go Go.Proofs
set_option maxRecDepth 10000
theorem first_or (P:Nat->Bool):∀ N:Nat,∃ n,n<=N/\(∀ k,k<n->P k=false)/\(n=N\/(n<N/\P n=true))
 |0=>⟨0,Nat.le_refl _,fun k hk=>by omega,.inl rfl⟩
 |N+1=>by
  obtain⟨n,h1,h2,h3⟩:=first_or P N;rcases h3 with rfl|⟨h3,h4⟩
  .cases hp:P n with
   |true=>exact⟨n,by omega,h2,.inr ⟨by omega,hp⟩⟩
   |false=>exact⟨n+1,by omega,all_succ h2 hp,.inl rfl⟩
  .exact⟨n,by omega,h2,.inr ⟨by omega,h4⟩⟩
open Classical in
def ordBad (g:Gram) (k:Nat):Bool:=decide (0<k/\∃ p q,g.prods[k-1]?=some p/\g.prods[k]?=some q/\q.left<p.left)
open Classical in
theorem ordBad_iff (g:Gram) (k:Nat):ordBad g k=true ↔ (0<k/\∃ p q,g.prods[k-1]?=some p/\g.prods[k]?=some q/\q.left<p.left):=by unfold ordBad;exact decide_eq_true_iff
open Classical in
def orderedG (g:Gram):Int:=if orderBad g then 9 else 0
theorem ordered (g:Gram) (hf:Fits g):KnownCall Tryz.prog 81 [encG g] (.d (.int .i64 (orderedG g))):=by
 have hfp:=hf.prods;refine knownE Yo (fnAt Tryz.func81 (by kernel_rfl) (by kernel_rfl):FnAt _ _ (mkFn Tryz.f81 [1])) ?_
 repeat' (first|refine zW [1] ?_|(refine zB [1] ?_ ?_<;>intro h<;>try exact zk h)|refine zX [1] ?_|(refine zK (prodsOf g) ?_ ?_<;>intro h<;>try exact zk h)|refine zC (prodsOf g) ?_|(refine zE ?_;(skip))|fail)
 obtain⟨n,hidx,hbefore,hcase⟩:=first_or (ordBad g) g.prods.length;refine Run.rangeProds (frz:=[1]) 1 (fun _=>[.box [.d (.int .i64 0)]]) g.prods (Nat.le_trans hf.prods (by decide)) (by rfl) (fun _=>rfl) (fun _=>rfl) (by kernel_rfl) n hidx (fun k p hk hp=>?_) ?_
 .have hgood:=hbefore k hk
  have hkl:=(List.getElem?_eq_some_iff.1 hp).1;rcases k with _|k
  .refine ayield_of_run (i:=2) (by rfl) (by rfl) (by rfl) ?_
   repeat refine zA [1] ?_
   refine⟨rfl,_,_,_,_,_,_,_,by rfl,?_⟩;refine Run.less ?_
   repeat' (first|refine zW [1] ?_|(refine zB [1] ?_ ?_<;>intro h<;>try exact zk h)|refine zX [1] ?_|(exact⟨rfl,_,less_of [] 3 rfl (by rfl) trivial trivial (by kernel_rfl) rfl,_,_,_,_,_,_,_,_,by rfl,rfl,by rfl⟩)|fail)
  .obtain⟨q,hq⟩:=get_ok (show k<g.prods.length by omega)
   have hno:¬ p.left<q.left:=fun h=>by
    have:ordBad g (k+1)=true:=(ordBad_iff _ _).2 ⟨Nat.succ_pos _,q,p,hq,hp,h⟩;rw [this] at hgood;cases hgood
   have hw:IntKind.i64.wrap (((k+1:Nat):Int)-1)=(k:Nat):=by rw [wrap64 (by omega) (by omega)];omega
   refine ayield_of_run (i:=2) (by rfl) (by rfl) (by rfl) ?_
   repeat refine zA [1] ?_
   refine⟨rfl,_,_,_,_,_,_,_,by rfl,?_⟩;refine Run.less ?_
   repeat' (first|refine oX (frz:=[1]) (v:=.d (.int .i64 (k:Nat))) Yo ?_ (he:=(congrArg (fun n=>AV.d (.int .i64 n)) hw))|refine eX (v:=.d (.int .i64 (k:Nat))) ?_ (he:=(congrArg (fun n=>AV.d (.int .i64 n)) hw))|refine zW [1] ?_|(refine zB [1] ?_ ?_<;>intro h<;>try exact zk h)|refine zX [1] ?_|refine oI (frz:=[1]) (v:=.d (.ep [.int .i64 q.left,ints q.right])) ?_ (he:=by first|(simp [gD,cellsD,hq,encP]<;>fail)|fail)|refine eI (v:=.d (.ep [.int .i64 q.left,ints q.right])) ?_ (he:=by first|(simp [gD,cellsD,hq,encP]<;>fail)|fail)|(exact⟨rfl,_,less_of [] 3 rfl (by rfl) trivial trivial (by kernel_rfl) rfl,_,_,_,_,_,_,_,_,by rfl,rfl,by rfl⟩)|((exfalso;first|(simp_all<;>fail)|(simp_all;omega)))|fail)
 .rcases hcase with hge|⟨hlt,hbad⟩
  .have e:orderedG g=0:=by
    unfold orderedG;rw [if_neg]
    rintro⟨i,p,q,h1,h2,h3⟩
    have hi:=(List.getElem?_eq_some_iff.1 h2).1;have:=hbefore (i+1) (by omega);rw [show ordBad g (i+1)=true from(ordBad_iff _ _).2 ⟨Nat.succ_pos _,p,q,h1,h2,h3⟩] at this;cases this
   rw [e];refine .inl ⟨hge,?_⟩
   repeat' (first|refine zW [1] ?_|(refine zB [1] ?_ ?_<;>intro h<;>try exact zk h)|refine zX [1] ?_|(refine zE ?_;(rfl))|fail)
  .have hb:=(ordBad_iff _ _).1 hbad
   obtain⟨hn0,q,p,hq,hp,hlt2⟩:=hb;rcases n with _|k
   .omega
   .have hq:g.prods[k]?=some q:=hq
    have e:orderedG g=9:=by unfold orderedG;rw [if_pos ⟨k,q,p,hq,hp,hlt2⟩]
    rw [e];have hkl:=(List.getElem?_eq_some_iff.1 hp).1;have hw:IntKind.i64.wrap (((k+1:Nat):Int)-1)=(k:Nat):=by rw [wrap64 (by omega) (by omega)];omega
    refine .inr ⟨p,[.box [.d (.int .i64 9)]],hp,rfl,.inl ⟨?_,?_⟩⟩
    .refine ayield_of_run (i:=2) (by rfl) (by rfl) (by rfl) ?_
     repeat refine zA [1] ?_
     refine⟨rfl,_,_,_,_,_,_,_,by rfl,?_⟩;refine Run.less ?_
     repeat' (first|refine oX (frz:=[1]) (v:=.d (.int .i64 (k:Nat))) Yo ?_ (he:=(congrArg (fun n=>AV.d (.int .i64 n)) hw))|refine eX (v:=.d (.int .i64 (k:Nat))) ?_ (he:=(congrArg (fun n=>AV.d (.int .i64 n)) hw))|refine zW [1] ?_|(refine zB [1] ?_ ?_<;>intro h<;>try exact zk h)|refine zX [1] ?_|refine oI (frz:=[1]) (v:=.d (.ep [.int .i64 q.left,ints q.right])) ?_ (he:=by first|(simp [gD,cellsD,hq,encP]<;>fail)|fail)|refine eI (v:=.d (.ep [.int .i64 q.left,ints q.right])) ?_ (he:=by first|(simp [gD,cellsD,hq,encP]<;>fail)|fail)|((refine Yt ?_;exact⟨rfl,_,less_of [] 3 rfl (by rfl) trivial trivial (by kernel_rfl) rfl,_,_,_,_,_,_,_,_,by rfl,rfl,by rfl⟩))|((exfalso;first|(simp_all<;>fail)|(simp_all;omega)))|fail)
    .refine⟨trivial,_,_,by rfl,by rfl,Eq.trans (b:=some (.d (.int .i64 9))) (by kernel_rfl) ?_⟩
     rfl
def checks (g:Gram):List Int:=[manyF g,namedG g,diffF g,symsG g,orderedG g,completeF g]
def firstErr:List Int->Int
 |[]=>0
 |e :: r=>if e=0 then firstErr r else e
def checkG (g:Gram):Int:=if g.k<1\/4<g.k then 2 else firstErr (checks g)
theorem firstErr_at:∀ {l:List Int} {i:Nat} {e:Int},l[i]?=some e->e≠0->(∀ j,j<i->l[j]?=some 0)->firstErr l=e
 |[],i,e,h,_,_=>by simp at h
 |a :: r,0,e,h,he,_=>by simp at h;subst h;simp [firstErr,he]
 |a :: r,i+1,e,h,he,hb=>by
  have ha:a=0:=by have:=hb 0 (by omega);simpa using this
  subst ha;simp only [firstErr,if_true];exact firstErr_at (i:=i) (by simpa using h) he (fun j hj=>by have:=hb (j+1) (by omega);simpa using this)
theorem firstErr_none:∀ {l:List Int},(∀ j,j<l.length->l[j]?=some 0)->firstErr l=0
 |[],_=>rfl
 |a :: r,hb=>by
  have ha:a=0:=by have:=hb 0 (by simp);simpa using this
  subst ha;simp only [firstErr,if_true];exact firstErr_none (fun j hj=>by have:=hb (j+1) (by simpa using hj);simpa using this)
abbrev looksD:List DV:=[.fn (.func 77) [] [],.fn (.func 78) [] [],.fn (.func 79) [] [],.fn (.func 80) [] [],.fn (.func 81) [] [],.fn (.func 82) [] []]
theorem checkGr (g:Gram) (hf:Fits g):KnownCall Tryz.prog 20 [encG g] (.d (.int .i64 (checkG g))):=by
 by_cases hk:g.k<1\/4<g.k
 .have e:checkG g=2:=if_pos hk
  rw [e];refine knownE Yo (fnAt Tryz.func20 (by kernel_rfl) (by kernel_rfl):FnAt _ _ (mkFn Tryz.f20 [1,13,200001])) ?_;refine Yq ?_
  repeat' (first|refine zW [1,13,200001] ?_|(refine zB [1,13,200001] ?_ ?_<;>intro h<;>try exact zk h)|refine zX [1,13,200001] ?_|(refine zE ?_;(skip))|fail)
  refine Run.scope ?_
  repeat' (first|refine zW [1,13,200001] ?_|(refine zB [1,13,200001] ?_ ?_<;>intro h<;>try exact zk h)|refine zX [1,13,200001] ?_|(refine zE ?_;(rfl))|((exfalso;first|(simp_all<;>fail)|(simp_all;omega)))|fail)
 .have e:checkG g=firstErr (checks g):=if_neg hk
  rw [e];rw [not_or] at hk;refine knownE Yo (fnAt Tryz.func20 (by kernel_rfl) (by kernel_rfl):FnAt _ _ (mkFn Tryz.f20 [1,13,200001])) ?_
  repeat' (first|refine zW [1,13,200001] ?_|(refine zB [1,13,200001] ?_ ?_<;>intro h<;>try exact zk h)|refine zX [1,13,200001] ?_|(refine zE ?_;(skip))|fail)
  refine Run.scope ?_
  repeat' (first|refine zW [1,13,200001] ?_|(refine zB [1,13,200001] ?_ ?_<;>intro h<;>try exact zk h)|refine zX [1,13,200001] ?_|refine Run.label ?_|(refine zE ?_;(skip))|((exfalso;first|(simp_all<;>fail)|(simp_all;omega)))|fail)
  refine Run.loop (fun i:Nat=>⟨PT.ofList [(1,(.d (.ep [.int .i64 g.k,strs g.tokens,.str g.sep,strs g.names,.int .i64 g.start,.sl 2 (g.prods.map encP)]))),(2,.d (.int .i64 0)),(13,.d (.sl 1 looksD)),(14,.d (.int .i64 6)),(15,.d (.int .i64 i))],[],[]⟩) (fun i=>i<=6/\∀ j,j<i->(checks g)[j]?=some 0) (fun i=>6-i) 0 ⟨Nat.zero_le _,fun j hj=>by omega⟩ (weak_of (by repeat' (first|exact trivial|refine⟨rfl,?_⟩))) (fun i hi=>?_);obtain⟨hi1,hi2⟩:=hi;have hcs:i=0\/i=1\/i=2\/i=3\/i=4\/i=5\/i=6:=by omega
  rcases hcs with h|h|h|h|h|h|h<;>subst h
  .have hc:=many g hf
   by_cases he:manyF g=0
   .have hnext:(checks g)[0]?=some 0:=by rw [<- he];rfl
    rw [he] at hc
    repeat' (first|refine zW [1,13,200001] ?_|(refine zB [1,13,200001] ?_ ?_<;>intro h<;>try exact zk h)|refine zX [1,13,200001] ?_|refine zC (hc) ?_|(refine zE ?_;(skip))|(exact⟨1,⟨by omega,all_succ hi2 hnext⟩,by omega,weak_of (by repeat' (first|exact trivial|refine⟨rfl,?_⟩))⟩)|fail)
   .repeat' (first|refine zW [1,13,200001] ?_|(refine zB [1,13,200001] ?_ ?_<;>intro h<;>try exact zk h)|refine zX [1,13,200001] ?_|refine zC (hc) ?_|(refine zE ?_;(rw [firstErr_at (i:=0) (show(checks g)[0]?=some (manyF g) from rfl) he hi2]))|((exfalso;(simp_all<;>fail)))|fail)
  .have hc:=named g hf
   by_cases he:namedG g=0
   .have hnext:(checks g)[1]?=some 0:=by rw [<- he];rfl
    rw [he] at hc
    repeat' (first|refine zW [1,13,200001] ?_|(refine zB [1,13,200001] ?_ ?_<;>intro h<;>try exact zk h)|refine zX [1,13,200001] ?_|refine zC (hc) ?_|(refine zE ?_;(skip))|(exact⟨2,⟨by omega,all_succ hi2 hnext⟩,by omega,weak_of (by repeat' (first|exact trivial|refine⟨rfl,?_⟩))⟩)|fail)
   .repeat' (first|refine zW [1,13,200001] ?_|(refine zB [1,13,200001] ?_ ?_<;>intro h<;>try exact zk h)|refine zX [1,13,200001] ?_|refine zC (hc) ?_|(refine zE ?_;(rw [firstErr_at (i:=1) (show(checks g)[1]?=some (namedG g) from rfl) he hi2]))|((exfalso;(simp_all<;>fail)))|fail)
  .have hc:=different g hf
   by_cases he:diffF g=0
   .have hnext:(checks g)[2]?=some 0:=by rw [<- he];rfl
    rw [he] at hc
    repeat' (first|refine zW [1,13,200001] ?_|(refine zB [1,13,200001] ?_ ?_<;>intro h<;>try exact zk h)|refine zX [1,13,200001] ?_|refine zC (hc) ?_|(refine zE ?_;(skip))|(exact⟨3,⟨by omega,all_succ hi2 hnext⟩,by omega,weak_of (by repeat' (first|exact trivial|refine⟨rfl,?_⟩))⟩)|fail)
   .repeat' (first|refine zW [1,13,200001] ?_|(refine zB [1,13,200001] ?_ ?_<;>intro h<;>try exact zk h)|refine zX [1,13,200001] ?_|refine zC (hc) ?_|(refine zE ?_;(rw [firstErr_at (i:=2) (show(checks g)[2]?=some (diffF g) from rfl) he hi2]))|((exfalso;(simp_all<;>fail)))|fail)
  .have hc:=symbols g hf
   by_cases he:symsG g=0
   .have hnext:(checks g)[3]?=some 0:=by rw [<- he];rfl
    rw [he] at hc
    repeat' (first|refine zW [1,13,200001] ?_|(refine zB [1,13,200001] ?_ ?_<;>intro h<;>try exact zk h)|refine zX [1,13,200001] ?_|refine zC (hc) ?_|(refine zE ?_;(skip))|(exact⟨4,⟨by omega,all_succ hi2 hnext⟩,by omega,weak_of (by repeat' (first|exact trivial|refine⟨rfl,?_⟩))⟩)|fail)
   .repeat' (first|refine zW [1,13,200001] ?_|(refine zB [1,13,200001] ?_ ?_<;>intro h<;>try exact zk h)|refine zX [1,13,200001] ?_|refine zC (hc) ?_|(refine zE ?_;(rw [firstErr_at (i:=3) (show(checks g)[3]?=some (symsG g) from rfl) he hi2]))|((exfalso;(simp_all<;>fail)))|fail)
  .have hc:=ordered g hf
   by_cases he:orderedG g=0
   .have hnext:(checks g)[4]?=some 0:=by rw [<- he];rfl
    rw [he] at hc
    repeat' (first|refine zW [1,13,200001] ?_|(refine zB [1,13,200001] ?_ ?_<;>intro h<;>try exact zk h)|refine zX [1,13,200001] ?_|refine zC (hc) ?_|(refine zE ?_;(skip))|(exact⟨5,⟨by omega,all_succ hi2 hnext⟩,by omega,weak_of (by repeat' (first|exact trivial|refine⟨rfl,?_⟩))⟩)|fail)
   .repeat' (first|refine zW [1,13,200001] ?_|(refine zB [1,13,200001] ?_ ?_<;>intro h<;>try exact zk h)|refine zX [1,13,200001] ?_|refine zC (hc) ?_|(refine zE ?_;(rw [firstErr_at (i:=4) (show(checks g)[4]?=some (orderedG g) from rfl) he hi2]))|((exfalso;(simp_all<;>fail)))|fail)
  .have hc:=complete g hf
   by_cases he:completeF g=0
   .have hnext:(checks g)[5]?=some 0:=by rw [<- he];rfl
    rw [he] at hc
    repeat' (first|refine zW [1,13,200001] ?_|(refine zB [1,13,200001] ?_ ?_<;>intro h<;>try exact zk h)|refine zX [1,13,200001] ?_|refine zC (hc) ?_|(refine zE ?_;(skip))|(exact⟨6,⟨by omega,all_succ hi2 hnext⟩,by omega,weak_of (by repeat' (first|exact trivial|refine⟨rfl,?_⟩))⟩)|fail)
   .repeat' (first|refine zW [1,13,200001] ?_|(refine zB [1,13,200001] ?_ ?_<;>intro h<;>try exact zk h)|refine zX [1,13,200001] ?_|refine zC (hc) ?_|(refine zE ?_;(rw [firstErr_at (i:=5) (show(checks g)[5]?=some (completeF g) from rfl) he hi2]))|((exfalso;(simp_all<;>fail)))|fail)
  .repeat' (first|refine zW [1,13,200001] ?_|(refine zB [1,13,200001] ?_ ?_<;>intro h<;>try exact zk h)|refine zX [1,13,200001] ?_|(refine zE ?_;(rw [firstErr_none (l:=checks g) hi2]))|fail)
end Go.Av
end
noncomputable section
namespace Go.Av
open Go Go.Proofs
set_option maxRecDepth 10000
theorem named_zero {g:Gram} (h:namedF g=0):(∀ s ∈ smalls g,smallF s=true)/\∀ s ∈ g.names,capitalF s=true:=by
 unfold namedF at h;split at h
 .omega
 .rename_i hn
  simp only [not_or,not_exists,not_and,Bool.not_eq_false] at hn;exact hn
theorem small_capital {s:List Nat} (h1:smallF s=true) (h2:capitalF s=true):False:=by
 simp only [smallF,capitalF,Bool.and_eq_true,decide_eq_true_eq] at h1 h2;omega
theorem allN_nodup {g:Gram} (h:namedF g=0):(allN g).Nodup ↔ (smalls g).Nodup/\g.names.Nodup:=by
 obtain⟨h1,h2⟩:=named_zero h;rw [allN,List.nodup_append];refine⟨fun h=>⟨h.1,h.2.1⟩,fun h=>⟨h.1,h.2,fun a ha b hb e=>small_capital (h1 a ha) (e ▸ h2 b hb)⟩⟩
theorem checkG_eq (g:Gram):checkG g=checkF g:=by
 unfold checkG checkF;split
 .rfl
 .simp only [checks,firstErr]
  by_cases h1:manyF g=0
  .simp only [h1,ne_eq,not_true_eq_false,if_false,if_true]
   by_cases h2:g.tokens=[]\/g.names=[]
   .have:namedG g=5:=if_pos h2
    simp [this,h2]
   .have:namedG g=namedF g:=if_neg h2
    simp only [this,if_neg h2];by_cases h3:namedF g=0
    .simp only [h3,if_true]
     by_cases h4:(allN g).Nodup
     .have h5:=(allN_nodup h3).1 h4
      have h6:diffF g=0:=if_pos h4;have h7:namesF g=0:=by unfold namesF;rw [if_neg (by simp [h5.1,h5.2]),h3]
      simp only [h6,h7,ne_eq,not_true_eq_false,if_false,if_true];unfold symsG orderedG completeF symbolsF;by_cases a:symbolsOK g<;>by_cases b:orderBad g<;>by_cases c:missing g<;>simp [a,b,c]
     .have h6:diffF g=8:=if_neg h4
      have h7:namesF g=8:=by
       unfold namesF;rw [if_pos];refine⟨h3,?_⟩;by_cases h5:(smalls g).Nodup
       .exact .inr fun h8=>h4 ((allN_nodup h3).2 ⟨h5,h8⟩)
       .exact .inl h5
      simp [h6,h7]
    .have h7:namesF g=namedF g:=by unfold namesF;rw [if_neg (by simp [h3])]
     simp [h3,h7]
  .simp [h1]
theorem grCheck (g:Gram) (hf:Fits g):KnownCall Tryz.prog 20 [encG g] (.d (.int .i64 (checkF g))):=by rw [<- checkG_eq];exact checkGr g hf
end Go.Av
end
noncomputable section
namespace Go.Av
open Go Go.Proofs
set_option maxRecDepth 10000
end Go.Av
end
noncomputable section
namespace Go.Av
open Go Go.Proofs
set_option maxRecDepth 10000
end Go.Av
end
noncomputable section
namespace Go.Av
open Go Go.Proofs
set_option maxRecDepth 10000
end Go.Av
end
noncomputable section
namespace Go.Av
open Go Go.Proofs
set_option maxRecDepth 10000
end Go.Av
end
noncomputable section
namespace Go.Av
open Go Go.Proofs
set_option maxRecDepth 10000
abbrev boxG0:Ob:=.box [.d (.int .i64 0),.d .nilsl,.d (.str []),.d .nilsl,.d (.int .i64 0),.d .nilsl]
end Go.Av
end
noncomputable section
namespace Go.Av
open Go Go.Proofs
set_option maxRecDepth 10000
structure SRule where
 name:List Nat
 alts:List (List (List Nat))
structure Src where
 k:Int
 tokens:List (List Nat)
 sep:List Nat
 start:List Nat
 rules:List SRule
abbrev alts (l:List (List (List Nat))):DV:=.sl 1 (l.map strs)
def encR (r:SRule):DV:=.agg [.str r.name,alts r.alts]
abbrev encX (x:Src):DV:=.agg [.int .i64 x.k,strs x.tokens,.str x.sep,.str x.start,.sl 2 (x.rules.map encR)]
abbrev cellX (x:Src):AV:=.d (.ep [.int .i64 x.k,strs x.tokens,.str x.sep,.str x.start,.sl 2 (x.rules.map encR)])
structure FitsX (x:Src):Prop where
 tokens:x.tokens.length<=1048576
 rules:x.rules.length<=1048576
 alts:∀ r ∈ x.rules,r.alts.length<=1048576
 names:∀ r ∈ x.rules,∀ a ∈ r.alts,a.length<=1048576
 sep:x.sep.length<=1048576
 start:x.start.length<=1048576
 tokenS:∀ s ∈ x.tokens,s.length<=1048576
 ruleS:∀ r ∈ x.rules,r.name.length<=1048576
 nameS:∀ r ∈ x.rules,∀ a ∈ r.alts,∀ s ∈ a,s.length<=1048576
section
variable {α:Type} {l:List α} {p:α->Bool} {i:Nat} {x:α}
theorem any_next (h:l[i]?=some x) (hb:(l.take i).any p=false) (hx:p x=false):(l.take (i+1)).any p=false:=by
 rw [List.take_add_one,h,List.any_append,hb];simp [hx]
theorem any_hit (h:l[i]?=some x) (hx:p x=true):l.any p=true:=List.any_eq_true.2 ⟨x,List.mem_of_getElem? h,hx⟩
theorem any_end (hb:(l.take l.length).any p=false):l.any p=false:=by rw [List.take_length] at hb;exact hb
end
theorem has08 (l:List (List Nat)) (s:List Nat) (hl:l.length<=1099511627776):KnownCall Tryz.prog 196 [strs l,.str s] (.d (.bool (l.any fun y=>decide (y=s)))):=by
 refine knownE Yo (fnAt Tryz.func196 (by kernel_rfl) (by kernel_rfl):FnAt _ _ (mkFn Tryz.f196 [])) ?_
 repeat' (first|refine zW [] ?_|(refine zB [] ?_ ?_<;>intro h<;>try exact zk h)|refine zX [] ?_|(refine zE ?_;(skip))|fail)
 refine Run.loop (fun i:Nat=>⟨PT.ofList [(0,.d (strs l)),(1,.d (.str s)),(5,.d (.int .i64 i))],[],[]⟩) (fun i=>i<=l.length/\(l.take i).any (fun y=>decide (y=s))=false) (fun i=>l.length-i) 0 ⟨Nat.zero_le _,rfl⟩ (weak_of (by repeat' (first|exact trivial|refine⟨rfl,?_⟩))) (fun i hi=>?_);rcases Nat.lt_or_ge i l.length with hlt|hge
 .obtain⟨y,hy⟩:=get_ok hlt
  by_cases hys:y=s
  .rw [any_hit hy (p:=fun y=>decide (y=s)) (by simp [hys])]
   repeat' (first|refine zW [] ?_|(refine zB [] ?_ ?_<;>intro h<;>try exact zk h)|refine zX [] ?_|refine oI (frz:=[]) (v:=.d (.ep [.str y])) ?_ (he:=by first|(simp [gD,cellsD,hy]<;>fail)|fail)|refine eI (v:=.d (.ep [.str y])) ?_ (he:=by first|(simp [gD,cellsD,hy]<;>fail)|fail)|(refine zE ?_;(rfl))|((exfalso;(simp at h<;>fail)))|((exfalso;simp [hys] at h<;>fail))|fail)
  .repeat' (first|refine zW [] ?_|(refine zB [] ?_ ?_<;>intro h<;>try exact zk h)|refine zX [] ?_|refine oI (frz:=[]) (v:=.d (.ep [.str y])) ?_ (he:=by first|(simp [gD,cellsD,hy]<;>fail)|fail)|refine eI (v:=.d (.ep [.str y])) ?_ (he:=by first|(simp [gD,cellsD,hy]<;>fail)|fail)|(refine zE ?_;((exfalso;simp [hys] at h<;>fail)))|(exact⟨i+1,⟨hlt,any_next hy hi.2 (by simp [hys])⟩,by omega,weak_of (by repeat' (first|exact trivial|refine⟨rfl,?_⟩|refine⟨(inc_get (k:=i) (by kernel_rfl) (by omega)),?_⟩))⟩)|fail)
 .have hie:i=l.length:=by omega
  subst hie;rw [any_end hi.2]
  repeat' (first|refine zW [] ?_|(refine zB [] ?_ ?_<;>intro h<;>try exact zk h)|refine zX [] ?_|(refine zE ?_;(rfl))|fail)
theorem rules08 (x:Src) (hf:FitsX x):KnownCall Tryz.prog 131 [encX x] (.d (strs (x.rules.map (·.name)))):=by
 have hr:=hf.rules;refine knownE2 Yo (fnAt Tryz.func131 (by kernel_rfl) (by kernel_rfl):FnAt _ _ (mkFn Tryz.f131 [1,19])) ?_
 repeat' (first|refine zW [1,19] ?_|(refine zB [1,19] ?_ ?_<;>intro h<;>try exact zk h)|refine zX [1,19] ?_|(refine Yt ?_;refine r2 ?_;first|done|(skip))|fail)
 refine Run.loop (fun y:Nat × List DV=>⟨PT.ofList [(1,cellX x),(3,rowA 0 1 y.2),(4,.d (.int .i64 y.1))],rowO 1 y.2,[]⟩) (fun y=>y.1<=x.rules.length/\y.2=(x.rules.take y.1).map (fun r=>.str r.name)) (fun y=>x.rules.length-y.1) (0,[]) ⟨Nat.zero_le _,rfl⟩ (weak_of (by repeat' (first|exact trivial|refine⟨rfl,?_⟩))) (fun y hy=>?_);obtain⟨i,acc⟩:=y;obtain⟨hi1,hi2⟩:=hy;simp only at hi1 hi2 |-;have hal:acc.length<=i:=by rw [hi2];simp;omega
 rcases Nat.lt_or_ge i x.rules.length with hlt|hge
 .obtain⟨r,hr⟩:=get_ok hlt
  have hnext:acc++[.str r.name]=(x.rules.take (i+1)).map (fun r=>.str r.name):=by rw [List.take_add_one,hr,hi2];simp
  rcases acc with _|⟨a,l⟩
  .repeat' (first|refine zW [1,19] ?_|(refine zB [1,19] ?_ ?_<;>intro h<;>try exact zk h)|refine zX [1,19] ?_|refine oI (frz:=[1,19]) (v:=.d (.ep [.str r.name,alts r.alts])) ?_ (he:=by first|(simp [gD,cellsD,hr,encR]<;>fail)|fail)|refine eI (v:=.d (.ep [.str r.name,alts r.alts])) ?_ (he:=by first|(simp [gD,cellsD,hr,encR]<;>fail)|fail)|refine oX (frz:=[1,19]) Yo ?_ (hv:=app1) (hf:=rfl) (he:=rfl)|refine eX ?_ (hv:=app1) (hf:=rfl) (he:=rfl)|refine oX (frz:=[1,19]) Yo ?_ (hv:=app0) (hf:=rfl) (he:=rfl)|refine eX ?_ (hv:=app0) (hf:=rfl) (he:=rfl)|(refine Yt ?_;refine r2 ?_;first|done|(skip))|(exact⟨(i+1,[.str r.name]),⟨hlt,hnext⟩,by simp only;omega,weak_of' (by rfl) rfl (by repeat' (first|exact trivial|refine⟨rfl,?_⟩|refine⟨(inc_get (k:=i) (by kernel_rfl) (by omega)),?_⟩))⟩)|fail)
  .have hal':l.length+1<=i:=hal
   repeat' (first|refine zW [1,19] ?_|(refine zB [1,19] ?_ ?_<;>intro h<;>try exact zk h)|refine zX [1,19] ?_|refine oI (frz:=[1,19]) (v:=.d (.ep [.str r.name,alts r.alts])) ?_ (he:=by first|(simp [gD,cellsD,hr,encR]<;>fail)|fail)|refine eI (v:=.d (.ep [.str r.name,alts r.alts])) ?_ (he:=by first|(simp [gD,cellsD,hr,encR]<;>fail)|fail)|refine oX (frz:=[1,19]) Yo ?_ (hv:=app1) (hf:=rfl) (he:=rfl)|refine eX ?_ (hv:=app1) (hf:=rfl) (he:=rfl)|refine oX (frz:=[1,19]) Yo ?_ (hv:=app0) (hf:=rfl) (he:=rfl)|refine eX ?_ (hv:=app0) (hf:=rfl) (he:=rfl)|(refine Yt ?_;refine r2 ?_;first|done|(skip))|(exact⟨(i+1,a :: (l++[DV.str r.name])),⟨hlt,hnext⟩,by simp only;omega,weak_of' (by show [Ob.room ((l++[_]).length+1) 1]=[Ob.room (l.length+1+1) 1];rw [List.length_append];rfl) rfl (by repeat' (first|exact trivial|refine⟨rfl,?_⟩|refine⟨(inc_get (k:=i) (by kernel_rfl) (by omega)),?_⟩))⟩)|fail)
 .have hge:i=x.rules.length:=by omega
  have he:(x.rules.map (·.name)).map DV.str=acc:=by rw [hi2,hge,List.take_length,List.map_map];rfl
  rw [show strs (x.rules.map (·.name))=.sl 1 ((x.rules.map (·.name)).map DV.str) from rfl,he];rcases acc with _|⟨a,l⟩
  .repeat' (first|refine zW [1,19] ?_|(refine zB [1,19] ?_ ?_<;>intro h<;>try exact zk h)|refine zX [1,19] ?_|(refine Yt ?_;refine r2 ?_;first|done|(exact .d .nil))|fail)
  .repeat' (first|refine zW [1,19] ?_|(refine zB [1,19] ?_ ?_<;>intro h<;>try exact zk h)|refine zX [1,19] ?_|(refine Yt ?_;refine r2 ?_;first|done|(exact .refl))|fail)
def shortX (x:Src):Bool:=x.rules.any (fun r=>r.alts.isEmpty) || x.tokens.isEmpty || x.rules.isEmpty
theorem short08 (x:Src) (hf:FitsX x):KnownCall Tryz.prog 127 [encX x] (.d (.bool (shortX x))):=by
 have hrl:=hf.rules;refine knownE Yo (fnAt Tryz.func127 (by kernel_rfl) (by kernel_rfl):FnAt _ _ (mkFn Tryz.f127 [1])) ?_
 repeat' (first|refine zW [1] ?_|(refine zB [1] ?_ ?_<;>intro h<;>try exact zk h)|refine zX [1] ?_|(refine zE ?_;(skip))|fail)
 refine Run.loop (fun i:Nat=>⟨PT.ofList [(1,cellX x),(3,.d (.int .i64 i))],[],[]⟩) (fun i=>i<=x.rules.length/\(x.rules.take i).any (fun r=>r.alts.isEmpty)=false) (fun i=>x.rules.length-i) 0 ⟨Nat.zero_le _,rfl⟩ (weak_of (by repeat' (first|exact trivial|refine⟨rfl,?_⟩))) (fun i hi=>?_);rcases Nat.lt_or_ge i x.rules.length with hlt|hge
 .obtain⟨r,hr⟩:=get_ok hlt
  cases ha:r.alts with
  |nil =>
   have hs:shortX x=true:=by unfold shortX;rw [any_hit hr (p:=fun r=>r.alts.isEmpty) (by simp [ha])];rfl
   rw [hs]
   repeat' (first|refine zW [1] ?_|(refine zB [1] ?_ ?_<;>intro h<;>try exact zk h)|refine zX [1] ?_|refine oI (frz:=[1]) (v:=.d (.ep [.str r.name,alts []])) ?_ (he:=by first|(simp [gD,cellsD,hr,encR,ha]<;>fail)|fail)|refine eI (v:=.d (.ep [.str r.name,alts []])) ?_ (he:=by first|(simp [gD,cellsD,hr,encR,ha]<;>fail)|fail)|(refine zE ?_;(rfl))|((exfalso;(simp at h<;>fail)))|fail)
  |cons a l =>
   repeat' (first|refine zW [1] ?_|(refine zB [1] ?_ ?_<;>intro h<;>try exact zk h)|refine zX [1] ?_|refine oI (frz:=[1]) (v:=.d (.ep [.str r.name,alts (a :: l)])) ?_ (he:=by first|(simp [gD,cellsD,hr,encR,ha]<;>fail)|fail)|refine eI (v:=.d (.ep [.str r.name,alts (a :: l)])) ?_ (he:=by first|(simp [gD,cellsD,hr,encR,ha]<;>fail)|fail)|(refine zE ?_;((exfalso;(simp at h<;>omega))))|(exact⟨i+1,⟨hlt,any_next hr hi.2 (by simp [ha])⟩,by omega,weak_of (by repeat' (first|exact trivial|refine⟨rfl,?_⟩|refine⟨(inc_get (k:=i) (by kernel_rfl) (by omega)),?_⟩))⟩)|fail)
 .have hie:i=x.rules.length:=by omega
  subst hie;have hs:shortX x=(x.tokens.isEmpty || x.rules.isEmpty):=by unfold shortX;rw [any_end hi.2];simp
  rw [hs];cases ht:x.tokens with
  |nil=>repeat' (first|refine zW [1] ?_|(refine zB [1] ?_ ?_<;>intro h<;>try exact zk h)|refine zX [1] ?_|(refine zE ?_;(rfl))|((exfalso;(simp_all<;>fail)))|((exfalso;(simp_all<;>omega)))|fail)
  |cons t ts =>
   cases hx:x.rules with
   |nil=>repeat' (first|refine zW [1] ?_|(refine zB [1] ?_ ?_<;>intro h<;>try exact zk h)|refine zX [1] ?_|(refine zE ?_;(rfl))|((exfalso;(simp_all<;>fail)))|((exfalso;(simp_all<;>omega)))|fail)
   |cons r rs=>repeat' (first|refine zW [1] ?_|(refine zB [1] ?_ ?_<;>intro h<;>try exact zk h)|refine zX [1] ?_|(refine zE ?_;(rfl))|((exfalso;(simp_all<;>fail)))|((exfalso;(simp_all<;>omega)))|fail)
theorem twice08 (l:List (List Nat)) (hl:l.length<=1099511627776):KnownCall Tryz.prog 130 [strs l] (.d (.bool (decide (¬ l.Nodup)))):=by
 refine knownE Yo (fnAt Tryz.func130 (by kernel_rfl) (by kernel_rfl):FnAt _ _ (mkFn Tryz.f130 [])) ?_
 repeat' (first|refine zW [] ?_|(refine zB [] ?_ ?_<;>intro h<;>try exact zk h)|refine zX [] ?_|(refine zE ?_;(skip))|fail)
 refine Run.loop (fun i:Nat=>⟨PT.ofList [(0,.d (strs l)),(3,.d (.int .i64 i))],[],[]⟩) (fun i=>i<=l.length/\(l.take i).Nodup) (fun i=>l.length-i) 0 ⟨Nat.zero_le _,by simp⟩ (weak_of (by repeat' (first|exact trivial|refine⟨rfl,?_⟩))) (fun i hi=>?_);rcases Nat.lt_or_ge i l.length with hlt|hge
 .obtain⟨x,hx⟩:=get_ok hlt
  have hh:=has08 (l.take i) x (by simp;omega);have hc:AV.d (DV.sl 1 (cutL none (some (i:Int)) (l.map DV.str)))=.d (strs (l.take i)):=by simp [cutL,List.map_take]
  by_cases hm:x ∈ l.take i
  .rw [show(l.take i).any (fun y=>decide (y=x))=true from List.any_eq_true.2 ⟨x,hm,by simp⟩] at hh
   rw [decide_eq_true (nodup_not hx hm)]
   repeat' (first|refine zW [] ?_|(refine zB [] ?_ ?_<;>intro h<;>try exact zk h)|refine zX [] ?_|refine zC (hh) ?_|refine oI (frz:=[]) (v:=.d (.ep [.str x])) ?_ (he:=by first|(simp [gD,cellsD,hx]<;>fail)|fail)|refine eI (v:=.d (.ep [.str x])) ?_ (he:=by first|(simp [gD,cellsD,hx]<;>fail)|fail)|refine eX (v:=.d (strs (l.take i))) ?_ (hf:=by first|(simp [cutC,maxC]<;>fail)|(simp [cutC,maxC];omega)) (he:=hc)|(refine zE ?_;(rfl))|((exfalso;(simp at h<;>omega)))|fail)
  .rw [show(l.take i).any (fun y=>decide (y=x))=false from by rw [List.any_eq_false];intro y hy he;exact hm (by simpa using (by simpa using he:y=x) ▸ hy)] at hh
   have hn:=nodup_take hx hi.2 hm
   repeat' (first|refine zW [] ?_|(refine zB [] ?_ ?_<;>intro h<;>try exact zk h)|refine zX [] ?_|refine zC (hh) ?_|refine oI (frz:=[]) (v:=.d (.ep [.str x])) ?_ (he:=by first|(simp [gD,cellsD,hx]<;>fail)|fail)|refine eI (v:=.d (.ep [.str x])) ?_ (he:=by first|(simp [gD,cellsD,hx]<;>fail)|fail)|refine eX (v:=.d (strs (l.take i))) ?_ (hf:=by first|(simp [cutC,maxC]<;>fail)|(simp [cutC,maxC];omega)) (he:=hc)|(refine zE ?_;((exfalso;(simp at h<;>omega))))|(exact⟨i+1,⟨hlt,hn⟩,by omega,weak_of (by repeat' (first|exact trivial|refine⟨rfl,?_⟩|refine⟨(inc_get (k:=i) (by kernel_rfl) (by omega)),?_⟩))⟩)|fail)
 .have hie:i=l.length:=by omega
  subst hie;have hn:=hi.2;rw [List.take_length] at hn;rw [decide_eq_false (by simpa using hn)]
  repeat' (first|refine zW [] ?_|(refine zB [] ?_ ?_<;>intro h<;>try exact zk h)|refine zX [] ?_|(refine zE ?_;(rfl))|fail)
end Go.Av
end
noncomputable section
namespace Go.Av
open Go Go.Proofs
set_option maxRecDepth 10000
def W64 (n:Int):Prop:=-9223372036854775808<=n/\n<=9223372036854775807
end Go.Av
end
noncomputable section
namespace Go.Av
open Go Go.Proofs
set_option maxRecDepth 10000
theorem vN8 {x:Int} {n:Nat} (h:x=(n:Int)) (hn:n<=1099511627776):AV.d (.int .i64 (IntKind.i64.wrap x))=.d (.int .i64 (n:Int)):=by
 subst h;exact congrArg (fun n=>AV.d (.int .i64 n)) (wrap_nat hn)
def longA (a:List (List Nat)):Bool:=decide (6<a.length)
def sumTo (x:Src) (i:Nat):Nat:=((x.rules.take i).map (·.alts.length)).sum
theorem sumTo_succ {x:Src} {i:Nat} {r:SRule} (h:x.rules[i]?=some r):sumTo x (i+1)=sumTo x i+r.alts.length:=by
 simp [sumTo,List.take_add_one,h]
theorem sumTo_le {x:Src} (hf:FitsX x):∀ {i:Nat},i<=x.rules.length->sumTo x i<=i*1048576
 |0,_=>by simp [sumTo]
 |i+1,hi=>by
  obtain⟨r,hr⟩:=get_ok (show i<x.rules.length by omega);have h1:=sumTo_le hf (i:=i) (by omega);have h2:=hf.alts r (List.mem_of_getElem? hr);rw [sumTo_succ hr,Nat.succ_mul];omega
theorem le_sum:∀ {l:List Nat} {a:Nat},a ∈ l->a<=l.sum
 |b :: l,a,h=>by
  rw [List.sum_cons];rcases List.mem_cons.1 h with rfl|h
  .omega
  .have:=le_sum h;omega
theorem le_sumTo {x:Src} {r:SRule} (h:r ∈ x.rules):r.alts.length<=sumTo x x.rules.length:=by
 unfold sumTo;rw [List.take_length];obtain⟨i,hi,rfl⟩:=List.getElem_of_mem h;exact le_sum (List.mem_map.2 ⟨_,h,rfl⟩)
def fullX (x:Src):Bool:=x.rules.any (fun r=>r.alts.any longA) || decide (8<x.tokens.length) || decide (8<x.rules.length) || decide (24<sumTo x x.rules.length)
theorem fullX_end {x:Src} (h:(x.rules.take x.rules.length).any (fun r=>(r.alts.take 25).any longA)=false):fullX x=(decide (8<x.tokens.length) || decide (8<x.rules.length) || decide (24<sumTo x x.rules.length)):=by
 by_cases hs:24<sumTo x x.rules.length
 .simp [fullX,hs]
 .have:x.rules.any (fun r=>r.alts.any longA)=false:=by
   rw [List.any_eq_false];intro r hr;have h1:=le_sumTo hr;rw [List.take_length,List.any_eq_false] at h;have h2:=h r hr;rw [List.take_of_length_le (by omega)] at h2;exact h2
  simp [fullX,this]
theorem full08 (x:Src) (hf:FitsX x):KnownCall Tryz.prog 128 [encX x] (.d (.bool (fullX x))):=by
 have hrl:=hf.rules;refine knownE Yo (fnAt Tryz.func128 (by kernel_rfl) (by kernel_rfl):FnAt _ _ (mkFn Tryz.f128 [1])) ?_
 repeat' (first|refine zW [1] ?_|(refine zB [1] ?_ ?_<;>intro h<;>try exact zk h)|refine zX [1] ?_|(refine zE ?_;(skip))|fail)
 refine Run.loop (fun i:Nat=>⟨PT.ofList [(1,cellX x),(3,.d (.int .i64 (sumTo x i:Nat))),(4,.d (.int .i64 i))],[],[]⟩) (fun i=>i<=x.rules.length/\i<=9/\(x.rules.take i).any (fun r=>(r.alts.take 25).any longA)=false) (fun i=>x.rules.length-i) 0 ⟨Nat.zero_le _,Nat.zero_le _,rfl⟩ (weak_of (by repeat' (first|exact trivial|refine⟨rfl,?_⟩))) (fun i hi=>?_);obtain⟨hi1,hi2,hi3⟩:=hi;by_cases hlt:i<x.rules.length/\i<=8
 .obtain⟨hl1,hl2⟩:=hlt
  obtain⟨r,hr⟩:=get_ok hl1;have hra:=hf.alts r (List.mem_of_getElem? hr);have hsl:=sumTo_le hf (i:=i) hi1;have hsum:AV.d (.int .i64 (IntKind.i64.wrap ((sumTo x i:Nat)+((r.alts.map strs).length:Int))))=.d (.int .i64 (sumTo x (i+1):Nat)):=vN8 (by rw [sumTo_succ hr];simp) (by rw [sumTo_succ hr];omega)
  repeat' (first|refine oX (frz:=[1]) (v:=.d (.int .i64 (sumTo x (i+1):Nat))) Yo ?_ (he:=(hsum))|refine eX (v:=.d (.int .i64 (sumTo x (i+1):Nat))) ?_ (he:=(hsum))|refine zW [1] ?_|(refine zB [1] ?_ ?_<;>intro h<;>try exact zk h)|refine zX [1] ?_|refine oI (frz:=[1]) (v:=.d (.ep [.str r.name,alts r.alts])) ?_ (he:=by first|(simp [gD,cellsD,hr,encR]<;>fail)|fail)|refine eI (v:=.d (.ep [.str r.name,alts r.alts])) ?_ (he:=by first|(simp [gD,cellsD,hr,encR]<;>fail)|fail)|(refine zE ?_;(skip))|((exfalso;(simp at h<;>omega)))|fail)
  refine Run.loop (fun k:Nat=>⟨PT.ofList [(1,cellX x),(3,.d (.int .i64 (sumTo x (i+1):Nat))),(4,.d (.int .i64 i)),(5,.d (.int .i64 k))],[],[]⟩) (fun k=>k<=r.alts.length/\k<=25/\(r.alts.take k).any longA=false) (fun k=>r.alts.length-k) 0 ⟨Nat.zero_le _,Nat.zero_le _,rfl⟩ (weak_of (by repeat' (first|exact trivial|refine⟨rfl,?_⟩))) (fun k hk=>?_);obtain⟨hk1,hk2,hk3⟩:=hk;by_cases hkl:k<r.alts.length/\k<=24
  .obtain⟨hm1,hm2⟩:=hkl
   obtain⟨a,ha⟩:=get_ok hm1;cases hla:longA a with
   |true =>
    have hfx:fullX x=true:=by unfold fullX;rw [any_hit hr (p:=fun r=>r.alts.any longA) (any_hit ha hla)];rfl
    have hla':6<a.length:=by simpa [longA] using hla
    rw [hfx]
    repeat' (first|refine zW [1] ?_|(refine zB [1] ?_ ?_<;>intro h<;>try exact zk h)|refine zX [1] ?_|refine oI (frz:=[1]) (v:=.d (.ep [.str r.name,alts r.alts])) ?_ (he:=by first|(simp [gD,cellsD,hr,encR]<;>fail)|fail)|refine eI (v:=.d (.ep [.str r.name,alts r.alts])) ?_ (he:=by first|(simp [gD,cellsD,hr,encR]<;>fail)|fail)|refine oI (frz:=[1]) (v:=.d (.ep [strs a])) ?_ (he:=by first|(simp [gD,cellsD,ha]<;>fail)|fail)|refine eI (v:=.d (.ep [strs a])) ?_ (he:=by first|(simp [gD,cellsD,ha]<;>fail)|fail)|(refine zE ?_;(rfl))|((exfalso;(simp at h<;>omega)))|fail)
   |false =>
    have hla':¬ 6<a.length:=by simpa [longA] using hla
    repeat' (first|refine zW [1] ?_|(refine zB [1] ?_ ?_<;>intro h<;>try exact zk h)|refine zX [1] ?_|refine oI (frz:=[1]) (v:=.d (.ep [.str r.name,alts r.alts])) ?_ (he:=by first|(simp [gD,cellsD,hr,encR]<;>fail)|fail)|refine eI (v:=.d (.ep [.str r.name,alts r.alts])) ?_ (he:=by first|(simp [gD,cellsD,hr,encR]<;>fail)|fail)|refine oI (frz:=[1]) (v:=.d (.ep [strs a])) ?_ (he:=by first|(simp [gD,cellsD,ha]<;>fail)|fail)|refine eI (v:=.d (.ep [strs a])) ?_ (he:=by first|(simp [gD,cellsD,ha]<;>fail)|fail)|(refine zE ?_;((exfalso;(simp at h<;>omega))))|(exact⟨k+1,⟨by omega,by omega,any_next ha hk3 hla⟩,by omega,weak_of (by repeat' (first|exact trivial|refine⟨rfl,?_⟩|refine⟨(inc_get (k:=k) (by kernel_rfl) (by omega)),?_⟩))⟩)|((exfalso;(simp at h<;>omega)))|fail)
  .have hall:(r.alts.take 25).any longA=false:=by
    rcases Nat.lt_or_ge k 25 with hc|hc
    .have:k=r.alts.length:=by omega
     subst this;rw [List.take_length] at hk3;rw [List.take_of_length_le (by omega)];exact hk3
    .have:k=25:=by omega
     subst this;exact hk3
   by_cases hka:k<r.alts.length
   .have hkb:¬ k<=24:=fun e=>hkl ⟨hka,e⟩
    repeat' (first|refine zW [1] ?_|(refine zB [1] ?_ ?_<;>intro h<;>try exact zk h)|refine zX [1] ?_|refine oI (frz:=[1]) (v:=.d (.ep [.str r.name,alts r.alts])) ?_ (he:=by first|(simp [gD,cellsD,hr,encR]<;>fail)|fail)|refine eI (v:=.d (.ep [.str r.name,alts r.alts])) ?_ (he:=by first|(simp [gD,cellsD,hr,encR]<;>fail)|fail)|(refine zE ?_;(skip))|(exact⟨i+1,⟨by omega,by omega,any_next hr hi3 hall⟩,by omega,weak_of (by repeat' (first|exact trivial|refine⟨rfl,?_⟩|refine⟨(inc_get (k:=i) (by kernel_rfl) (by omega)),?_⟩))⟩)|((exfalso;(simp at h<;>omega)))|fail)
   .repeat' (first|refine zW [1] ?_|(refine zB [1] ?_ ?_<;>intro h<;>try exact zk h)|refine zX [1] ?_|refine oI (frz:=[1]) (v:=.d (.ep [.str r.name,alts r.alts])) ?_ (he:=by first|(simp [gD,cellsD,hr,encR]<;>fail)|fail)|refine eI (v:=.d (.ep [.str r.name,alts r.alts])) ?_ (he:=by first|(simp [gD,cellsD,hr,encR]<;>fail)|fail)|(refine zE ?_;(skip))|(exact⟨i+1,⟨by omega,by omega,any_next hr hi3 hall⟩,by omega,weak_of (by repeat' (first|exact trivial|refine⟨rfl,?_⟩|refine⟨(inc_get (k:=i) (by kernel_rfl) (by omega)),?_⟩))⟩)|((exfalso;(simp at h<;>omega)))|fail)
 .by_cases h8:8<x.rules.length
  .have hi9:i=9:=by omega
   subst hi9;have hfx:fullX x=true:=by simp [fullX,h8]
   rw [hfx];by_cases ht:8<x.tokens.length
   .by_cases hn:9<x.rules.length
    .repeat' (first|refine zW [1] ?_|(refine zB [1] ?_ ?_<;>intro h<;>try exact zk h)|refine zX [1] ?_|(refine zE ?_;(rfl))|((exfalso;(simp at h<;>omega)))|fail)
    .repeat' (first|refine zW [1] ?_|(refine zB [1] ?_ ?_<;>intro h<;>try exact zk h)|refine zX [1] ?_|(refine zE ?_;(rfl))|((exfalso;(simp at h<;>omega)))|fail)
   .by_cases hn:9<x.rules.length
    .repeat' (first|refine zW [1] ?_|(refine zB [1] ?_ ?_<;>intro h<;>try exact zk h)|refine zX [1] ?_|(refine zE ?_;(rfl))|((exfalso;(simp at h<;>omega)))|fail)
    .repeat' (first|refine zW [1] ?_|(refine zB [1] ?_ ?_<;>intro h<;>try exact zk h)|refine zX [1] ?_|(refine zE ?_;(rfl))|((exfalso;(simp at h<;>omega)))|fail)
  .have hie:i=x.rules.length:=by omega
   subst hie;rw [fullX_end hi3,decide_eq_false h8];by_cases ht:8<x.tokens.length
   .rw [decide_eq_true ht]
    repeat' (first|refine zW [1] ?_|(refine zB [1] ?_ ?_<;>intro h<;>try exact zk h)|refine zX [1] ?_|(refine zE ?_;(rfl))|((exfalso;(simp at h<;>omega)))|fail)
   .rw [decide_eq_false ht]
    by_cases hs:24<sumTo x x.rules.length
    .rw [decide_eq_true hs]
     repeat' (first|refine zW [1] ?_|(refine zB [1] ?_ ?_<;>intro h<;>try exact zk h)|refine zX [1] ?_|(refine zE ?_;(rfl))|((exfalso;(simp at h<;>omega)))|fail)
    .rw [decide_eq_false hs]
     repeat' (first|refine zW [1] ?_|(refine zB [1] ?_ ?_<;>intro h<;>try exact zk h)|refine zX [1] ?_|(refine zE ?_;(rfl))|((exfalso;(simp at h<;>omega)))|fail)
end Go.Av
end
noncomputable section
namespace Go.Av
open Go Go.Proofs
set_option maxRecDepth 10000
def noName (s:List Nat):Bool:=!smallF s && !capitalF s
def misR (r:SRule):Bool:=!capitalF r.name || r.alts.any (fun a=>a.any noName)
def misX (x:Src):Bool:=x.tokens.any (fun s=>!smallF s) || x.rules.any misR || !smallF x.sep || !capitalF x.start
theorem misnamed08 (x:Src) (hf:FitsX x):KnownCall Tryz.prog 129 [encX x] (.d (.bool (misX x))):=by
 have hrl:=hf.rules;have htl:=hf.tokens;refine knownE Yo (fnAt Tryz.func129 (by kernel_rfl) (by kernel_rfl):FnAt _ _ (mkFn Tryz.f129 [1])) ?_
 repeat' (first|refine zW [1] ?_|(refine zB [1] ?_ ?_<;>intro h<;>try exact zk h)|refine zX [1] ?_|(refine zE ?_;(skip))|fail)
 refine Run.loop (fun i:Nat=>⟨PT.ofList [(1,cellX x),(3,.d (.int .i64 i))],[],[]⟩) (fun i=>i<=x.tokens.length/\(x.tokens.take i).any (fun s=>!smallF s)=false) (fun i=>x.tokens.length-i) 0 ⟨Nat.zero_le _,rfl⟩ (weak_of (by repeat' (first|exact trivial|refine⟨rfl,?_⟩))) (fun i hi=>?_);rcases Nat.lt_or_ge i x.tokens.length with hlt|hge
 .obtain⟨s,hs⟩:=get_ok hlt
  have hsm:=refSmall s (Nat.le_trans (hf.tokenS s (List.mem_of_getElem? hs)) (by decide));cases hb:smallF s with
  |true =>
   rw [hb] at hsm
   repeat' (first|refine zW [1] ?_|(refine zB [1] ?_ ?_<;>intro h<;>try exact zk h)|refine zX [1] ?_|refine oI (frz:=[1]) (v:=.d (.ep [.str s])) ?_ (he:=by first|(simp [gD,cellsD,hs]<;>fail)|fail)|refine eI (v:=.d (.ep [.str s])) ?_ (he:=by first|(simp [gD,cellsD,hs]<;>fail)|fail)|refine zC (hsm) ?_|(refine zE ?_;(skip))|(exact⟨i+1,⟨hlt,any_next hs hi.2 (by simp [hb])⟩,by omega,weak_of (by repeat' (first|exact trivial|refine⟨rfl,?_⟩|refine⟨(inc_get (k:=i) (by kernel_rfl) (by omega)),?_⟩))⟩)|((exfalso;(simp at h<;>omega)))|fail)
  |false =>
   rw [hb] at hsm;have hm:misX x=true:=by unfold misX;rw [any_hit hs (p:=fun s=>!smallF s) (by simp [hb])];rfl
   rw [hm]
   repeat' (first|refine zW [1] ?_|(refine zB [1] ?_ ?_<;>intro h<;>try exact zk h)|refine zX [1] ?_|refine oI (frz:=[1]) (v:=.d (.ep [.str s])) ?_ (he:=by first|(simp [gD,cellsD,hs]<;>fail)|fail)|refine eI (v:=.d (.ep [.str s])) ?_ (he:=by first|(simp [gD,cellsD,hs]<;>fail)|fail)|refine zC (hsm) ?_|(refine zE ?_;(rfl))|((exfalso;(simp at h<;>omega)))|fail)
 .have hie:i=x.tokens.length:=by omega
  have htk:=hi.2;rw [hie,List.take_length] at htk;subst hie
  repeat' (first|refine zW [1] ?_|(refine zB [1] ?_ ?_<;>intro h<;>try exact zk h)|refine zX [1] ?_|(refine zE ?_;(skip))|fail)
  refine Run.loop (fun i:Nat=>⟨PT.ofList [(1,cellX x),(4,.d (.int .i64 i))],[],[]⟩) (fun i=>i<=x.rules.length/\(x.rules.take i).any misR=false) (fun i=>x.rules.length-i) 0 ⟨Nat.zero_le _,rfl⟩ (weak_of (by repeat' (first|exact trivial|refine⟨rfl,?_⟩))) (fun i hi=>?_);rcases Nat.lt_or_ge i x.rules.length with hlt|hge
  .obtain⟨r,hr⟩:=get_ok hlt
   have hmem:=List.mem_of_getElem? hr;have hra:=hf.alts r hmem;have hcm:=refCapital r.name (Nat.le_trans (hf.ruleS r hmem) (by decide));cases hb:capitalF r.name with
   |false =>
    rw [hb] at hcm;have hm:misX x=true:=by unfold misX;rw [any_hit hr (p:=misR) (by simp [misR,hb])];simp
    rw [hm]
    repeat' (first|refine zW [1] ?_|(refine zB [1] ?_ ?_<;>intro h<;>try exact zk h)|refine zX [1] ?_|refine oI (frz:=[1]) (v:=.d (.ep [.str r.name,alts r.alts])) ?_ (he:=by first|(simp [gD,cellsD,hr,encR]<;>fail)|fail)|refine eI (v:=.d (.ep [.str r.name,alts r.alts])) ?_ (he:=by first|(simp [gD,cellsD,hr,encR]<;>fail)|fail)|refine zC (hcm) ?_|(refine zE ?_;(rfl))|((exfalso;(simp at h<;>omega)))|fail)
   |true =>
    rw [hb] at hcm
    repeat' (first|refine zW [1] ?_|(refine zB [1] ?_ ?_<;>intro h<;>try exact zk h)|refine zX [1] ?_|refine oI (frz:=[1]) (v:=.d (.ep [.str r.name,alts r.alts])) ?_ (he:=by first|(simp [gD,cellsD,hr,encR]<;>fail)|fail)|refine eI (v:=.d (.ep [.str r.name,alts r.alts])) ?_ (he:=by first|(simp [gD,cellsD,hr,encR]<;>fail)|fail)|refine zC (hcm) ?_|(refine zE ?_;(skip))|fail)
    refine Run.loop (fun k:Nat=>⟨PT.ofList [(1,cellX x),(4,.d (.int .i64 i)),(5,.d (.int .i64 k))],[],[]⟩) (fun k=>k<=r.alts.length/\(r.alts.take k).any (fun a=>a.any noName)=false) (fun k=>r.alts.length-k) 0 ⟨Nat.zero_le _,rfl⟩ (weak_of (by repeat' (first|exact trivial|refine⟨rfl,?_⟩))) (fun k hk=>?_);rcases Nat.lt_or_ge k r.alts.length with hkl|hkg
    .obtain⟨a,ha⟩:=get_ok hkl
     have hmema:=List.mem_of_getElem? ha;have hal:=hf.names r hmem a hmema
     repeat' (first|refine zW [1] ?_|(refine zB [1] ?_ ?_<;>intro h<;>try exact zk h)|refine zX [1] ?_|refine oI (frz:=[1]) (v:=.d (.ep [.str r.name,alts r.alts])) ?_ (he:=by first|(simp [gD,cellsD,hr,encR]<;>fail)|fail)|refine eI (v:=.d (.ep [.str r.name,alts r.alts])) ?_ (he:=by first|(simp [gD,cellsD,hr,encR]<;>fail)|fail)|(refine zE ?_;(skip))|((exfalso;(simp at h<;>omega)))|fail)
     refine Run.loop (fun j:Nat=>⟨PT.ofList [(1,cellX x),(4,.d (.int .i64 i)),(5,.d (.int .i64 k)),(6,.d (.int .i64 j))],[],[]⟩) (fun j=>j<=a.length/\(a.take j).any noName=false) (fun j=>a.length-j) 0 ⟨Nat.zero_le _,rfl⟩ (weak_of (by repeat' (first|exact trivial|refine⟨rfl,?_⟩))) (fun j hj=>?_);rcases Nat.lt_or_ge j a.length with hjl|hjg
     .obtain⟨s,hs⟩:=get_ok hjl
      have hsl:=Nat.le_trans (hf.nameS r hmem a hmema s (List.mem_of_getElem? hs)) (show 1048576<=1099511627776 by decide);have hsm:=refSmall s hsl;have hsc:=refCapital s hsl;cases hc1:smallF s with
      |true =>
       rw [hc1] at hsm
       repeat' (first|refine zW [1] ?_|(refine zB [1] ?_ ?_<;>intro h<;>try exact zk h)|refine zX [1] ?_|refine oI (frz:=[1]) (v:=.d (.ep [.str r.name,alts r.alts])) ?_ (he:=by first|(simp [gD,cellsD,hr,encR]<;>fail)|fail)|refine eI (v:=.d (.ep [.str r.name,alts r.alts])) ?_ (he:=by first|(simp [gD,cellsD,hr,encR]<;>fail)|fail)|refine oI (frz:=[1]) (v:=.d (.ep [strs a])) ?_ (he:=by first|(simp [gD,cellsD,ha]<;>fail)|fail)|refine eI (v:=.d (.ep [strs a])) ?_ (he:=by first|(simp [gD,cellsD,ha]<;>fail)|fail)|refine oI (frz:=[1]) (v:=.d (.ep [.str s])) ?_ (he:=by first|(simp [gD,cellsD,hs]<;>fail)|fail)|refine eI (v:=.d (.ep [.str s])) ?_ (he:=by first|(simp [gD,cellsD,hs]<;>fail)|fail)|refine zC (hsm) ?_|refine zC (hsc) ?_|(refine zE ?_;(skip))|(exact⟨j+1,⟨hjl,any_next hs hj.2 (by simp [noName,hc1])⟩,by omega,weak_of (by repeat' (first|exact trivial|refine⟨rfl,?_⟩|refine⟨(inc_get (k:=j) (by kernel_rfl) (by omega)),?_⟩))⟩)|((exfalso;(simp at h<;>omega)))|fail)
      |false =>
       rw [hc1] at hsm;cases hc2:capitalF s with
       |true =>
        rw [hc2] at hsc
        repeat' (first|refine zW [1] ?_|(refine zB [1] ?_ ?_<;>intro h<;>try exact zk h)|refine zX [1] ?_|refine oI (frz:=[1]) (v:=.d (.ep [.str r.name,alts r.alts])) ?_ (he:=by first|(simp [gD,cellsD,hr,encR]<;>fail)|fail)|refine eI (v:=.d (.ep [.str r.name,alts r.alts])) ?_ (he:=by first|(simp [gD,cellsD,hr,encR]<;>fail)|fail)|refine oI (frz:=[1]) (v:=.d (.ep [strs a])) ?_ (he:=by first|(simp [gD,cellsD,ha]<;>fail)|fail)|refine eI (v:=.d (.ep [strs a])) ?_ (he:=by first|(simp [gD,cellsD,ha]<;>fail)|fail)|refine oI (frz:=[1]) (v:=.d (.ep [.str s])) ?_ (he:=by first|(simp [gD,cellsD,hs]<;>fail)|fail)|refine eI (v:=.d (.ep [.str s])) ?_ (he:=by first|(simp [gD,cellsD,hs]<;>fail)|fail)|refine zC (hsm) ?_|refine zC (hsc) ?_|(refine zE ?_;(skip))|(exact⟨j+1,⟨hjl,any_next hs hj.2 (by simp [noName,hc2])⟩,by omega,weak_of (by repeat' (first|exact trivial|refine⟨rfl,?_⟩|refine⟨(inc_get (k:=j) (by kernel_rfl) (by omega)),?_⟩))⟩)|((exfalso;(simp at h<;>omega)))|fail)
       |false =>
        rw [hc2] at hsc;have hm:misX x=true:=by unfold misX;rw [any_hit hr (p:=misR) (by simp only [misR];rw [any_hit ha (p:=fun a=>a.any noName) (any_hit hs (by simp [noName,hc1,hc2]))];simp)];simp
        rw [hm]
        repeat' (first|refine zW [1] ?_|(refine zB [1] ?_ ?_<;>intro h<;>try exact zk h)|refine zX [1] ?_|refine oI (frz:=[1]) (v:=.d (.ep [.str r.name,alts r.alts])) ?_ (he:=by first|(simp [gD,cellsD,hr,encR]<;>fail)|fail)|refine eI (v:=.d (.ep [.str r.name,alts r.alts])) ?_ (he:=by first|(simp [gD,cellsD,hr,encR]<;>fail)|fail)|refine oI (frz:=[1]) (v:=.d (.ep [strs a])) ?_ (he:=by first|(simp [gD,cellsD,ha]<;>fail)|fail)|refine eI (v:=.d (.ep [strs a])) ?_ (he:=by first|(simp [gD,cellsD,ha]<;>fail)|fail)|refine oI (frz:=[1]) (v:=.d (.ep [.str s])) ?_ (he:=by first|(simp [gD,cellsD,hs]<;>fail)|fail)|refine eI (v:=.d (.ep [.str s])) ?_ (he:=by first|(simp [gD,cellsD,hs]<;>fail)|fail)|refine zC (hsm) ?_|refine zC (hsc) ?_|(refine zE ?_;(rfl))|((exfalso;(simp at h<;>omega)))|fail)
     .have hje:j=a.length:=by omega
      subst hje;have haa:=any_end hj.2
      repeat' (first|refine zW [1] ?_|(refine zB [1] ?_ ?_<;>intro h<;>try exact zk h)|refine zX [1] ?_|refine oI (frz:=[1]) (v:=.d (.ep [.str r.name,alts r.alts])) ?_ (he:=by first|(simp [gD,cellsD,hr,encR]<;>fail)|fail)|refine eI (v:=.d (.ep [.str r.name,alts r.alts])) ?_ (he:=by first|(simp [gD,cellsD,hr,encR]<;>fail)|fail)|refine oI (frz:=[1]) (v:=.d (.ep [strs a])) ?_ (he:=by first|(simp [gD,cellsD,ha]<;>fail)|fail)|refine eI (v:=.d (.ep [strs a])) ?_ (he:=by first|(simp [gD,cellsD,ha]<;>fail)|fail)|(refine zE ?_;(skip))|(exact⟨k+1,⟨hkl,any_next ha hk.2 haa⟩,by omega,weak_of (by repeat' (first|exact trivial|refine⟨rfl,?_⟩|refine⟨(inc_get (k:=k) (by kernel_rfl) (by omega)),?_⟩))⟩)|((exfalso;(simp at h<;>omega)))|fail)
    .have hke:k=r.alts.length:=by omega
     subst hke;have hkk:=any_end hk.2
     repeat' (first|refine zW [1] ?_|(refine zB [1] ?_ ?_<;>intro h<;>try exact zk h)|refine zX [1] ?_|refine oI (frz:=[1]) (v:=.d (.ep [.str r.name,alts r.alts])) ?_ (he:=by first|(simp [gD,cellsD,hr,encR]<;>fail)|fail)|refine eI (v:=.d (.ep [.str r.name,alts r.alts])) ?_ (he:=by first|(simp [gD,cellsD,hr,encR]<;>fail)|fail)|(refine zE ?_;(skip))|(exact⟨i+1,⟨hlt,any_next hr hi.2 (by simp only [misR,hb,hkk];rfl)⟩,by omega,weak_of (by repeat' (first|exact trivial|refine⟨rfl,?_⟩|refine⟨(inc_get (k:=i) (by kernel_rfl) (by omega)),?_⟩))⟩)|((exfalso;(simp at h<;>omega)))|fail)
  .have hie:i=x.rules.length:=by omega
   subst hie;have hm:misX x=(!smallF x.sep || !capitalF x.start):=by unfold misX;rw [htk,any_end hi.2];simp
   rw [hm];have hsm:=refSmall x.sep (Nat.le_trans hf.sep (by decide));have hsc:=refCapital x.start (Nat.le_trans hf.start (by decide));cases hc1:smallF x.sep with
   |false =>
    rw [hc1] at hsm
    repeat' (first|refine zW [1] ?_|(refine zB [1] ?_ ?_<;>intro h<;>try exact zk h)|refine zX [1] ?_|refine zC (hsm) ?_|refine zC (hsc) ?_|(refine zE ?_;(rfl))|((exfalso;(simp at h<;>omega)))|fail)
   |true =>
    rw [hc1] at hsm;cases hc2:capitalF x.start with
    |false =>
     rw [hc2] at hsc
     repeat' (first|refine zW [1] ?_|(refine zB [1] ?_ ?_<;>intro h<;>try exact zk h)|refine zX [1] ?_|refine zC (hsm) ?_|refine zC (hsc) ?_|(refine zE ?_;(rfl))|((exfalso;(simp at h<;>omega)))|fail)
    |true =>
     rw [hc2] at hsc
     repeat' (first|refine zW [1] ?_|(refine zB [1] ?_ ?_<;>intro h<;>try exact zk h)|refine zX [1] ?_|refine zC (hsm) ?_|refine zC (hsc) ?_|(refine zE ?_;(rfl))|((exfalso;(simp at h<;>omega)))|fail)
end Go.Av
end
noncomputable section
namespace Go.Av
open Go Go.Proofs
set_option maxRecDepth 10000
def hasF (l:List (List Nat)) (s:List Nat):Bool:=l.any fun y=>decide (y=s)
def usesR (s:List Nat) (r:SRule):Bool:=r.alts.any (fun a=>hasF a s)
def usesX (x:Src) (s:List Nat):Bool:=x.rules.any (usesR s)
theorem uses08 (x:Src) (t:List Nat) (hf:FitsX x):KnownCall Tryz.prog 132 [encX x,.str t] (.d (.bool (usesX x t))):=by
 have hrl:=hf.rules;refine knownE Yo (fnAt Tryz.func132 (by kernel_rfl) (by kernel_rfl):FnAt _ _ (mkFn Tryz.f132 [2])) ?_
 repeat' (first|refine zW [2] ?_|(refine zB [2] ?_ ?_<;>intro h<;>try exact zk h)|refine zX [2] ?_|(refine zE ?_;(skip))|fail)
 refine Run.loop (fun i:Nat=>⟨PT.ofList [(1,.d (.str t)),(2,cellX x),(5,.d (.int .i64 i))],[],[]⟩) (fun i=>i<=x.rules.length/\(x.rules.take i).any (usesR t)=false) (fun i=>x.rules.length-i) 0 ⟨Nat.zero_le _,rfl⟩ (weak_of (by repeat' (first|exact trivial|refine⟨rfl,?_⟩))) (fun i hi=>?_);rcases Nat.lt_or_ge i x.rules.length with hlt|hge
 .obtain⟨r,hr⟩:=get_ok hlt
  have hmem:=List.mem_of_getElem? hr;have hra:=hf.alts r hmem
  repeat' (first|refine zW [2] ?_|(refine zB [2] ?_ ?_<;>intro h<;>try exact zk h)|refine zX [2] ?_|(refine zE ?_;(skip))|((exfalso;(simp at h<;>omega)))|fail)
  refine Run.loop (fun k:Nat=>⟨PT.ofList [(1,.d (.str t)),(2,cellX x),(5,.d (.int .i64 i)),(6,.d (.int .i64 k))],[],[]⟩) (fun k=>k<=r.alts.length/\(r.alts.take k).any (fun a=>hasF a t)=false) (fun k=>r.alts.length-k) 0 ⟨Nat.zero_le _,rfl⟩ (weak_of (by repeat' (first|exact trivial|refine⟨rfl,?_⟩))) (fun k hk=>?_);rcases Nat.lt_or_ge k r.alts.length with hkl|hkg
  .obtain⟨a,ha⟩:=get_ok hkl
   have hh:=has08 a t (Nat.le_trans (hf.names r hmem a (List.mem_of_getElem? ha)) (by decide));cases hb:hasF a t with
   |true =>
    rw [show(a.any fun y=>decide (y=t))=true from hb] at hh;have hu:usesX x t=true:=any_hit hr (p:=usesR t) (any_hit ha (p:=fun a=>hasF a t) hb);rw [hu]
    repeat' (first|refine zW [2] ?_|(refine zB [2] ?_ ?_<;>intro h<;>try exact zk h)|refine zX [2] ?_|refine oI (frz:=[2]) (v:=.d (.ep [.str r.name,alts r.alts])) ?_ (he:=by first|(simp [gD,cellsD,hr,encR]<;>fail)|fail)|refine eI (v:=.d (.ep [.str r.name,alts r.alts])) ?_ (he:=by first|(simp [gD,cellsD,hr,encR]<;>fail)|fail)|refine oI (frz:=[2]) (v:=.d (.ep [strs a])) ?_ (he:=by first|(simp [gD,cellsD,ha]<;>fail)|fail)|refine eI (v:=.d (.ep [strs a])) ?_ (he:=by first|(simp [gD,cellsD,ha]<;>fail)|fail)|refine zC (hh) ?_|(refine zE ?_;(rfl))|((exfalso;(simp at h<;>omega)))|fail)
   |false =>
    rw [show(a.any fun y=>decide (y=t))=false from hb] at hh
    repeat' (first|refine zW [2] ?_|(refine zB [2] ?_ ?_<;>intro h<;>try exact zk h)|refine zX [2] ?_|refine oI (frz:=[2]) (v:=.d (.ep [.str r.name,alts r.alts])) ?_ (he:=by first|(simp [gD,cellsD,hr,encR]<;>fail)|fail)|refine eI (v:=.d (.ep [.str r.name,alts r.alts])) ?_ (he:=by first|(simp [gD,cellsD,hr,encR]<;>fail)|fail)|refine oI (frz:=[2]) (v:=.d (.ep [strs a])) ?_ (he:=by first|(simp [gD,cellsD,ha]<;>fail)|fail)|refine eI (v:=.d (.ep [strs a])) ?_ (he:=by first|(simp [gD,cellsD,ha]<;>fail)|fail)|refine zC (hh) ?_|(refine zE ?_;(skip))|(exact⟨k+1,⟨hkl,any_next ha hk.2 hb⟩,by omega,weak_of (by repeat' (first|exact trivial|refine⟨rfl,?_⟩|refine⟨(inc_get (k:=k) (by kernel_rfl) (by omega)),?_⟩))⟩)|((exfalso;(simp at h<;>omega)))|fail)
  .have hke:k=r.alts.length:=by omega
   subst hke;have hkk:=any_end hk.2
   repeat' (first|refine zW [2] ?_|(refine zB [2] ?_ ?_<;>intro h<;>try exact zk h)|refine zX [2] ?_|refine oI (frz:=[2]) (v:=.d (.ep [.str r.name,alts r.alts])) ?_ (he:=by first|(simp [gD,cellsD,hr,encR]<;>fail)|fail)|refine eI (v:=.d (.ep [.str r.name,alts r.alts])) ?_ (he:=by first|(simp [gD,cellsD,hr,encR]<;>fail)|fail)|(refine zE ?_;(skip))|(exact⟨i+1,⟨hlt,any_next hr hi.2 hkk⟩,by omega,weak_of (by repeat' (first|exact trivial|refine⟨rfl,?_⟩|refine⟨(inc_get (k:=i) (by kernel_rfl) (by omega)),?_⟩))⟩)|((exfalso;(simp at h<;>omega)))|fail)
 .have hie:i=x.rules.length:=by omega
  subst hie;rw [show usesX x t=false from any_end hi.2]
  repeat' (first|refine zW [2] ?_|(refine zB [2] ?_ ?_<;>intro h<;>try exact zk h)|refine zX [2] ?_|(refine zE ?_;(rfl))|((exfalso;(simp at h<;>omega)))|fail)
abbrev ruleNames (x:Src):List (List Nat):=x.rules.map (·.name)
def unkS (x:Src) (s:List Nat):Bool:=!hasF (ruleNames x) s && !hasF x.tokens s
def unkR (x:Src) (r:SRule):Bool:=r.alts.any (fun a=>a.any (unkS x))
def unkX (x:Src):Bool:=x.rules.any (unkR x) || !hasF (ruleNames x) x.start
theorem unknown08 (x:Src) (hf:FitsX x):KnownCall Tryz.prog 133 [encX x] (.d (.bool (unkX x))):=by
 have hrl:=hf.rules;have htl:=hf.tokens;have hrn:=rules08 x hf;have hnl:(ruleNames x).length<=1099511627776:=by simp;omega
 obtain⟨ns,hns⟩:∃ ns,ns=ruleNames x:=⟨_,rfl⟩
 rw [show x.rules.map (·.name)=ns from hns.symm] at hrn;rw [<- hns] at hnl;have hunk:∀ s,unkS x s=(!hasF ns s && !hasF x.tokens s):=fun s=>by rw [hns];rfl
 refine knownE Yo (fnAt Tryz.func133 (by kernel_rfl) (by kernel_rfl):FnAt _ _ (mkFn Tryz.f133 [1])) ?_
 repeat' (first|refine zW [1] ?_|(refine zB [1] ?_ ?_<;>intro h<;>try exact zk h)|refine zX [1] ?_|(refine zK (hrn) ?_ ?_<;>intro h<;>try exact zk h)|refine zC (hrn) ?_|(refine zE ?_;(skip))|fail)
 refine Run.loop (fun i:Nat=>⟨PT.ofList [(1,cellX x),(3,.d (strs ns)),(4,.d (.int .i64 i))],[],[]⟩) (fun i=>i<=x.rules.length/\(x.rules.take i).any (unkR x)=false) (fun i=>x.rules.length-i) 0 ⟨Nat.zero_le _,rfl⟩ (weak_of (by repeat' (first|exact trivial|refine⟨rfl,?_⟩))) (fun i hi=>?_);rcases Nat.lt_or_ge i x.rules.length with hlt|hge
 .obtain⟨r,hr⟩:=get_ok hlt
  have hmem:=List.mem_of_getElem? hr;have hra:=hf.alts r hmem
  repeat' (first|refine zW [1] ?_|(refine zB [1] ?_ ?_<;>intro h<;>try exact zk h)|refine zX [1] ?_|(refine zE ?_;(skip))|((exfalso;(simp at h<;>omega)))|fail)
  refine Run.loop (fun k:Nat=>⟨PT.ofList [(1,cellX x),(3,.d (strs ns)),(4,.d (.int .i64 i)),(5,.d (.int .i64 k))],[],[]⟩) (fun k=>k<=r.alts.length/\(r.alts.take k).any (fun a=>a.any (unkS x))=false) (fun k=>r.alts.length-k) 0 ⟨Nat.zero_le _,rfl⟩ (weak_of (by repeat' (first|exact trivial|refine⟨rfl,?_⟩))) (fun k hk=>?_);rcases Nat.lt_or_ge k r.alts.length with hkl|hkg
  .obtain⟨a,ha⟩:=get_ok hkl
   have hmema:=List.mem_of_getElem? ha;have hal:=hf.names r hmem a hmema
   repeat' (first|refine zW [1] ?_|(refine zB [1] ?_ ?_<;>intro h<;>try exact zk h)|refine zX [1] ?_|refine oI (frz:=[1]) (v:=.d (.ep [.str r.name,alts r.alts])) ?_ (he:=by first|(simp [gD,cellsD,hr,encR]<;>fail)|fail)|refine eI (v:=.d (.ep [.str r.name,alts r.alts])) ?_ (he:=by first|(simp [gD,cellsD,hr,encR]<;>fail)|fail)|(refine zE ?_;(skip))|((exfalso;(simp at h<;>omega)))|fail)
   refine Run.loop (fun j:Nat=>⟨PT.ofList [(1,cellX x),(3,.d (strs ns)),(4,.d (.int .i64 i)),(5,.d (.int .i64 k)),(6,.d (.int .i64 j))],[],[]⟩) (fun j=>j<=a.length/\(a.take j).any (unkS x)=false) (fun j=>a.length-j) 0 ⟨Nat.zero_le _,rfl⟩ (weak_of (by repeat' (first|exact trivial|refine⟨rfl,?_⟩))) (fun j hj=>?_);rcases Nat.lt_or_ge j a.length with hjl|hjg
   .obtain⟨s,hs⟩:=get_ok hjl
    have h1:=has08 ns s hnl;have h2:=has08 x.tokens s (Nat.le_trans htl (by decide));have hu:=hunk s;cases hc1:hasF ns s with
    |true =>
     rw [show(ns.any fun y=>decide (y=s))=true from hc1] at h1;rw [hc1] at hu
     repeat' (first|refine zW [1] ?_|(refine zB [1] ?_ ?_<;>intro h<;>try exact zk h)|refine zX [1] ?_|refine oI (frz:=[1]) (v:=.d (.ep [.str r.name,alts r.alts])) ?_ (he:=by first|(simp [gD,cellsD,hr,encR]<;>fail)|fail)|refine eI (v:=.d (.ep [.str r.name,alts r.alts])) ?_ (he:=by first|(simp [gD,cellsD,hr,encR]<;>fail)|fail)|refine oI (frz:=[1]) (v:=.d (.ep [strs a])) ?_ (he:=by first|(simp [gD,cellsD,ha]<;>fail)|fail)|refine eI (v:=.d (.ep [strs a])) ?_ (he:=by first|(simp [gD,cellsD,ha]<;>fail)|fail)|refine oI (frz:=[1]) (v:=.d (.ep [.str s])) ?_ (he:=by first|(simp [gD,cellsD,hs]<;>fail)|fail)|refine eI (v:=.d (.ep [.str s])) ?_ (he:=by first|(simp [gD,cellsD,hs]<;>fail)|fail)|refine zC (h1) ?_|refine zC (h2) ?_|(refine zE ?_;(skip))|(exact⟨j+1,⟨hjl,any_next hs hj.2 (by rw [hu];rfl)⟩,by omega,weak_of (by repeat' (first|exact trivial|refine⟨rfl,?_⟩|refine⟨(inc_get (k:=j) (by kernel_rfl) (by omega)),?_⟩))⟩)|((exfalso;(simp at h<;>omega)))|fail)
    |false =>
     rw [show(ns.any fun y=>decide (y=s))=false from hc1] at h1;rw [hc1] at hu;cases hc2:hasF x.tokens s with
     |true =>
      rw [show(x.tokens.any fun y=>decide (y=s))=true from hc2] at h2;rw [hc2] at hu
      repeat' (first|refine zW [1] ?_|(refine zB [1] ?_ ?_<;>intro h<;>try exact zk h)|refine zX [1] ?_|refine oI (frz:=[1]) (v:=.d (.ep [.str r.name,alts r.alts])) ?_ (he:=by first|(simp [gD,cellsD,hr,encR]<;>fail)|fail)|refine eI (v:=.d (.ep [.str r.name,alts r.alts])) ?_ (he:=by first|(simp [gD,cellsD,hr,encR]<;>fail)|fail)|refine oI (frz:=[1]) (v:=.d (.ep [strs a])) ?_ (he:=by first|(simp [gD,cellsD,ha]<;>fail)|fail)|refine eI (v:=.d (.ep [strs a])) ?_ (he:=by first|(simp [gD,cellsD,ha]<;>fail)|fail)|refine oI (frz:=[1]) (v:=.d (.ep [.str s])) ?_ (he:=by first|(simp [gD,cellsD,hs]<;>fail)|fail)|refine eI (v:=.d (.ep [.str s])) ?_ (he:=by first|(simp [gD,cellsD,hs]<;>fail)|fail)|refine zC (h1) ?_|refine zC (h2) ?_|(refine zE ?_;(skip))|(exact⟨j+1,⟨hjl,any_next hs hj.2 (by rw [hu];rfl)⟩,by omega,weak_of (by repeat' (first|exact trivial|refine⟨rfl,?_⟩|refine⟨(inc_get (k:=j) (by kernel_rfl) (by omega)),?_⟩))⟩)|((exfalso;(simp at h<;>omega)))|fail)
     |false =>
      rw [show(x.tokens.any fun y=>decide (y=s))=false from hc2] at h2;rw [hc2] at hu;have hm:unkX x=true:=by unfold unkX;rw [any_hit hr (p:=unkR x) (by unfold unkR;exact any_hit ha (p:=fun a=>a.any (unkS x)) (any_hit hs (by rw [hu];rfl)))];rfl
      rw [hm]
      repeat' (first|refine zW [1] ?_|(refine zB [1] ?_ ?_<;>intro h<;>try exact zk h)|refine zX [1] ?_|refine oI (frz:=[1]) (v:=.d (.ep [.str r.name,alts r.alts])) ?_ (he:=by first|(simp [gD,cellsD,hr,encR]<;>fail)|fail)|refine eI (v:=.d (.ep [.str r.name,alts r.alts])) ?_ (he:=by first|(simp [gD,cellsD,hr,encR]<;>fail)|fail)|refine oI (frz:=[1]) (v:=.d (.ep [strs a])) ?_ (he:=by first|(simp [gD,cellsD,ha]<;>fail)|fail)|refine eI (v:=.d (.ep [strs a])) ?_ (he:=by first|(simp [gD,cellsD,ha]<;>fail)|fail)|refine oI (frz:=[1]) (v:=.d (.ep [.str s])) ?_ (he:=by first|(simp [gD,cellsD,hs]<;>fail)|fail)|refine eI (v:=.d (.ep [.str s])) ?_ (he:=by first|(simp [gD,cellsD,hs]<;>fail)|fail)|refine zC (h1) ?_|refine zC (h2) ?_|(refine zE ?_;(rfl))|((exfalso;(simp at h<;>omega)))|fail)
   .have hje:j=a.length:=by omega
    subst hje;have haa:=any_end hj.2
    repeat' (first|refine zW [1] ?_|(refine zB [1] ?_ ?_<;>intro h<;>try exact zk h)|refine zX [1] ?_|refine oI (frz:=[1]) (v:=.d (.ep [.str r.name,alts r.alts])) ?_ (he:=by first|(simp [gD,cellsD,hr,encR]<;>fail)|fail)|refine eI (v:=.d (.ep [.str r.name,alts r.alts])) ?_ (he:=by first|(simp [gD,cellsD,hr,encR]<;>fail)|fail)|refine oI (frz:=[1]) (v:=.d (.ep [strs a])) ?_ (he:=by first|(simp [gD,cellsD,ha]<;>fail)|fail)|refine eI (v:=.d (.ep [strs a])) ?_ (he:=by first|(simp [gD,cellsD,ha]<;>fail)|fail)|(refine zE ?_;(skip))|(exact⟨k+1,⟨hkl,any_next ha hk.2 haa⟩,by omega,weak_of (by repeat' (first|exact trivial|refine⟨rfl,?_⟩|refine⟨(inc_get (k:=k) (by kernel_rfl) (by omega)),?_⟩))⟩)|((exfalso;(simp at h<;>omega)))|fail)
  .have hke:k=r.alts.length:=by omega
   subst hke;have hkk:=any_end hk.2
   repeat' (first|refine zW [1] ?_|(refine zB [1] ?_ ?_<;>intro h<;>try exact zk h)|refine zX [1] ?_|refine oI (frz:=[1]) (v:=.d (.ep [.str r.name,alts r.alts])) ?_ (he:=by first|(simp [gD,cellsD,hr,encR]<;>fail)|fail)|refine eI (v:=.d (.ep [.str r.name,alts r.alts])) ?_ (he:=by first|(simp [gD,cellsD,hr,encR]<;>fail)|fail)|(refine zE ?_;(skip))|(exact⟨i+1,⟨hlt,any_next hr hi.2 hkk⟩,by omega,weak_of (by repeat' (first|exact trivial|refine⟨rfl,?_⟩|refine⟨(inc_get (k:=i) (by kernel_rfl) (by omega)),?_⟩))⟩)|((exfalso;(simp at h<;>omega)))|fail)
 .have hie:i=x.rules.length:=by omega
  subst hie;have h1:=has08 ns x.start hnl;have hm:unkX x=!hasF ns x.start:=by unfold unkX;rw [any_end hi.2,hns];rfl
  rw [hm];cases hc1:hasF ns x.start with
  |true =>
   rw [show(ns.any fun y=>decide (y=x.start))=true from hc1] at h1
   repeat' (first|refine zW [1] ?_|(refine zB [1] ?_ ?_<;>intro h<;>try exact zk h)|refine zX [1] ?_|refine zC (h1) ?_|(refine zE ?_;(rfl))|((exfalso;(simp at h<;>omega)))|fail)
  |false =>
   rw [show(ns.any fun y=>decide (y=x.start))=false from hc1] at h1
   repeat' (first|refine zW [1] ?_|(refine zB [1] ?_ ?_<;>intro h<;>try exact zk h)|refine zX [1] ?_|refine zC (h1) ?_|(refine zE ?_;(rfl))|((exfalso;(simp at h<;>omega)))|fail)
def smallsX (x:Src):List (List Nat):=x.tokens++[x.sep]
def twoX (x:Src):Bool:=decide (¬ (smallsX x).Nodup) || decide (¬ (ruleNames x).Nodup)
def checkX (x:Src):Int:=if x.k<1\/4<x.k then 2 else if shortX x=true then 5 else if fullX x=true then 6 else if misX x=true then 12 else if twoX x=true then 8 else if usesX x x.sep=true then 14 else if unkX x=true then 7 else 0
theorem strs_smallsX (x:Src):DV.sl 1 ([]++x.tokens.map DV.str++[DV.str x.sep])=strs (smallsX x):=by simp [smallsX]
theorem checkX_k {x:Src} (h:x.k<1\/4<x.k):checkX x=2:=if_pos h
theorem check08 (x:Src) (hf:FitsX x):KnownCall Tryz.prog 36 [encX x] (.d (.int .i64 (checkX x))):=by
 have htl:=hf.tokens;have hrl:=hf.rules;have c1:=short08 x hf;have c2:=full08 x hf;have c3:=misnamed08 x hf;have c4:=twice08 (smallsX x) (by simp [smallsX];omega);have c5:=rules08 x hf;have c6:=twice08 (ruleNames x) (by simp;omega);have c7:=uses08 x x.sep hf;have c8:=unknown08 x hf;rw [<- strs_smallsX] at c4;by_cases hk:x.k<1\/4<x.k
 .rw [checkX_k hk]
  by_cases hk1:x.k<1
  .refine knownE Yo (fnAt Tryz.func36 (by kernel_rfl) (by kernel_rfl):FnAt _ _ (mkFn Tryz.f36 [1,28])) ?_
   repeat' (first|refine zW [1,28] ?_|(refine zB [1,28] ?_ ?_<;>intro h<;>try exact zk h)|refine zX [1,28] ?_|(refine zE ?_;(rfl))|((exfalso;(simp at h<;>omega)))|fail)
  .have hk4:4<x.k:=by omega
   refine knownE Yo (fnAt Tryz.func36 (by kernel_rfl) (by kernel_rfl):FnAt _ _ (mkFn Tryz.f36 [1,28])) ?_
   repeat' (first|refine zW [1,28] ?_|(refine zB [1,28] ?_ ?_<;>intro h<;>try exact zk h)|refine zX [1,28] ?_|(refine zE ?_;(rfl))|((exfalso;(simp at h<;>omega)))|fail)
 .have hk1:¬ x.k<1:=fun h=>hk (.inl h)
  have hk4:¬ 4<x.k:=fun h=>hk (.inr h);have hc:checkX x=if shortX x=true then 5 else if fullX x=true then 6 else if misX x=true then 12 else if(decide (¬ (smallsX x).Nodup) || decide (¬ (ruleNames x).Nodup))=true then 8 else if usesX x x.sep=true then 14 else if unkX x=true then 7 else 0:=if_neg hk;rw [hc];generalize shortX x=b1 at c1 |-;generalize fullX x=b2 at c2 |-;generalize misX x=b3 at c3 |-;generalize decide (¬ (smallsX x).Nodup)=b4 at c4 |-;generalize decide (¬ (ruleNames x).Nodup)=b5 at c6 |-;generalize usesX x x.sep=b6 at c7 |-;generalize unkX x=b7 at c8 |-;cases b1 with
  |true =>
   refine knownE Yo (fnAt Tryz.func36 (by kernel_rfl) (by kernel_rfl):FnAt _ _ (mkFn Tryz.f36 [1,28])) ?_
   repeat' (first|refine zW [1,28] ?_|(refine zB [1,28] ?_ ?_<;>intro h<;>try exact zk h)|refine zX [1,28] ?_|refine zC (c1) ?_|(refine zE ?_;(rfl))|((exfalso;(simp at h<;>omega)))|fail)
  |false =>
   cases b2 with
   |true =>
    refine knownE Yo (fnAt Tryz.func36 (by kernel_rfl) (by kernel_rfl):FnAt _ _ (mkFn Tryz.f36 [1,28])) ?_
    repeat' (first|refine zW [1,28] ?_|(refine zB [1,28] ?_ ?_<;>intro h<;>try exact zk h)|refine zX [1,28] ?_|refine zC (c1) ?_|refine zC (c2) ?_|(refine zE ?_;(rfl))|((exfalso;(simp at h<;>omega)))|fail)
   |false =>
    cases b3 with
    |true =>
     refine knownE Yo (fnAt Tryz.func36 (by kernel_rfl) (by kernel_rfl):FnAt _ _ (mkFn Tryz.f36 [1,28])) ?_
     repeat' (first|refine zW [1,28] ?_|(refine zB [1,28] ?_ ?_<;>intro h<;>try exact zk h)|refine zX [1,28] ?_|refine zC (c1) ?_|refine zC (c2) ?_|refine zC (c3) ?_|(refine zE ?_;(rfl))|((exfalso;(simp at h<;>omega)))|fail)
    |false =>
     refine knownE Yo (fnAt Tryz.func36 (by kernel_rfl) (by kernel_rfl):FnAt _ _ (mkFn Tryz.f36 [1,28])) ?_
     repeat' (first|refine zW [1,28] ?_|(refine zB [1,28] ?_ ?_<;>intro h<;>try exact zk h)|refine zX [1,28] ?_|refine zC (c1) ?_|refine zC (c2) ?_|refine zC (c3) ?_|(refine zLb (c4) ?_ ?_<;>intro h<;>try exact zk h)|refine zL (c4) ?_|(refine zK (c5) ?_ ?_<;>intro h<;>try exact zk h)|refine zC (c5) ?_|(refine zK (c6) ?_ ?_<;>intro h<;>try exact zk h)|refine zC (c6) ?_|(refine zK (c7) ?_ ?_<;>intro h<;>try exact zk h)|refine zC (c7) ?_|(refine zK (c8) ?_ ?_<;>intro h<;>try exact zk h)|refine zC (c8) ?_|refine oX (frz:=[1,28]) Yo ?_ (hv:=app1) (hf:=rfl) (he:=rfl)|refine eX ?_ (hv:=app1) (hf:=rfl) (he:=rfl)|refine oX (frz:=[1,28]) Yo ?_ (hv:=app0) (hf:=rfl) (he:=rfl)|refine eX ?_ (hv:=app0) (hf:=rfl) (he:=rfl)|(refine zE ?_;(first|rfl|(simp_all<;>fail)))|((exfalso;(simp at h<;>omega)))|((exfalso;simp_all<;>fail))|fail)
end Go.Av
end
noncomputable section
namespace Go.Av
open Go Go.Proofs
set_option maxRecDepth 10000
theorem indexFuncStrs (l:List (List Nat)) (hl:l.length<=1099511627776) (F:FuncId) (caps:List DV) (p:(List Nat)->Bool) (hp:∀ x ∈ l,KnownCall Tryz.prog F ((.str x) :: caps) (.d (.bool (p x)))) :
  KnownCall Tryz.prog 237 [(.sl 1 (l.map .str)),.fn (.func F) [] caps] (.d (.int .i64 (idxP l p))):=by
 refine knownE Yo (fnAt Tryz.func237 (by kernel_rfl) (by kernel_rfl):FnAt _ _ (mkFn Tryz.f237 [])) ?_
 repeat' (first|refine zW [] ?_|(refine zB [] ?_ ?_<;>intro h<;>try exact zk h)|refine zX [] ?_|(refine zE ?_;(skip))|fail)
 refine Run.loop (fun i:Nat=>⟨PT.ofList [(0,.d (.sl 1 (l.map .str))),(1,.d (.fn (.func F) [] caps)),(7,.d (.int .i64 l.length)),(8,.d (.int .i64 i))],[],[]⟩) (fun i=>i<=l.length/\∀ j,j<i->∀ y,l[j]?=some y->p y=false) (fun i=>l.length-i) 0 ⟨Nat.zero_le _,fun j hj=>by omega⟩ (weak_of (by repeat' (first|exact trivial|refine⟨rfl,?_⟩|refine⟨Eq.trans (b:=some (.d (.int .i64 (l.map _).length))) rfl (by rw [List.length_map]),?_⟩|fail))) (fun i hi=>?_);obtain⟨hi1,hi2⟩:=hi;rcases Nat.lt_or_ge i l.length with hlt|hge
 .obtain⟨x,hx⟩:=get_ok hlt
  have hc:=hp x (List.mem_of_getElem? hx)
  repeat' (first|refine zW [] ?_|(refine zB [] ?_ ?_<;>intro h<;>try exact zk h)|refine zX [] ?_|refine oI (frz:=[]) (v:=.d (.ep [.str x])) ?_ (he:=by first|(simp [gD,cellsD,hx]<;>fail)|fail)|refine eI (v:=.d (.ep [.str x])) ?_ (he:=by first|(simp [gD,cellsD,hx]<;>fail)|fail)|(refine zK (hc) ?_ ?_<;>intro h<;>try exact zk h)|refine zC (hc) ?_|(refine zE ?_;(rw [idxP_at hx (by simp_all) hi2]))|(exact⟨i+1,⟨by omega,all_succ hi2 (fun q hq=>by rw [hx] at hq;cases hq;simp_all)⟩,by omega,weak_of (by repeat' (first|exact trivial|refine⟨rfl,?_⟩|refine⟨(inc_get (k:=i) (by kernel_rfl) (by omega)),?_⟩))⟩)|fail)
 .have hge:i=l.length:=by omega
  repeat' (first|refine zW [] ?_|(refine zB [] ?_ ?_<;>intro h<;>try exact zk h)|refine zX [] ?_|(refine zE ?_;(rw [idxP_none (fun j hj=>hi2 j (by omega))]))|fail)
theorem containsFuncStrs (l:List (List Nat)) (hl:l.length<=1099511627776) (F:FuncId) (caps:List DV) (p:(List Nat)->Bool) (hp:∀ x ∈ l,KnownCall Tryz.prog F ((.str x) :: caps) (.d (.bool (p x)))) :
  KnownCall Tryz.prog 202 [(.sl 1 (l.map .str)),.fn (.func F) [] caps] (.d (.bool (l.any p))):=by
 refine knownE Yo (fnAt Tryz.func202 (by kernel_rfl) (by kernel_rfl):FnAt _ _ (mkFn Tryz.f202 [])) ?_;have e:=idxP_any l p
 repeat' (first|refine zW [] ?_|(refine zB [] ?_ ?_<;>intro h<;>try exact zk h)|refine zX [] ?_|(refine zK (indexFuncStrs _ hl _ _ _ hp) ?_ ?_<;>intro h<;>try exact zk h)|refine zC (indexFuncStrs _ hl _ _ _ hp) ?_|(refine zE ?_;(first|(rw [<- e]<;>simp_all<;>fail)|fail))|fail)
theorem indexFuncRules (l:List SRule) (hl:l.length<=1099511627776) (F:FuncId) (caps:List DV) (p:SRule->Bool) (hp:∀ x ∈ l,KnownCall Tryz.prog F ((encR x) :: caps) (.d (.bool (p x)))) :
  KnownCall Tryz.prog 201 [(.sl 2 (l.map encR)),.fn (.func F) [] caps] (.d (.int .i64 (idxP l p))):=by
 refine knownE Yo (fnAt Tryz.func201 (by kernel_rfl) (by kernel_rfl):FnAt _ _ (mkFn Tryz.f201 [])) ?_
 repeat' (first|refine zW [] ?_|(refine zB [] ?_ ?_<;>intro h<;>try exact zk h)|refine zX [] ?_|(refine zE ?_;(skip))|fail)
 refine Run.loop (fun i:Nat=>⟨PT.ofList [(0,.d (.sl 2 (l.map encR))),(1,.d (.fn (.func F) [] caps)),(7,.d (.int .i64 l.length)),(8,.d (.int .i64 i))],[],[]⟩) (fun i=>i<=l.length/\∀ j,j<i->∀ y,l[j]?=some y->p y=false) (fun i=>l.length-i) 0 ⟨Nat.zero_le _,fun j hj=>by omega⟩ (weak_of (by repeat' (first|exact trivial|refine⟨rfl,?_⟩|refine⟨Eq.trans (b:=some (.d (.int .i64 (l.map _).length))) rfl (by rw [List.length_map]),?_⟩|fail))) (fun i hi=>?_);obtain⟨hi1,hi2⟩:=hi;rcases Nat.lt_or_ge i l.length with hlt|hge
 .obtain⟨x,hx⟩:=get_ok hlt
  have hc:=hp x (List.mem_of_getElem? hx)
  repeat' (first|refine zW [] ?_|(refine zB [] ?_ ?_<;>intro h<;>try exact zk h)|refine zX [] ?_|refine oI (frz:=[]) (v:=.d (.ep [.str x.name,alts x.alts])) ?_ (he:=by first|(simp [gD,cellsD,hx,encR]<;>fail)|fail)|refine eI (v:=.d (.ep [.str x.name,alts x.alts])) ?_ (he:=by first|(simp [gD,cellsD,hx,encR]<;>fail)|fail)|(refine zK (hc) ?_ ?_<;>intro h<;>try exact zk h)|refine zC (hc) ?_|(refine zE ?_;(rw [idxP_at hx (by simp_all) hi2]))|(exact⟨i+1,⟨by omega,all_succ hi2 (fun q hq=>by rw [hx] at hq;cases hq;simp_all)⟩,by omega,weak_of (by repeat' (first|exact trivial|refine⟨rfl,?_⟩|refine⟨(inc_get (k:=i) (by kernel_rfl) (by omega)),?_⟩))⟩)|fail)
 .have hge:i=l.length:=by omega
  repeat' (first|refine zW [] ?_|(refine zB [] ?_ ?_<;>intro h<;>try exact zk h)|refine zX [] ?_|(refine zE ?_;(rw [idxP_none (fun j hj=>hi2 j (by omega))]))|fail)
theorem containsFuncRules (l:List SRule) (hl:l.length<=1099511627776) (F:FuncId) (caps:List DV) (p:SRule->Bool) (hp:∀ x ∈ l,KnownCall Tryz.prog F ((encR x) :: caps) (.d (.bool (p x)))) :
  KnownCall Tryz.prog 117 [(.sl 2 (l.map encR)),.fn (.func F) [] caps] (.d (.bool (l.any p))):=by
 refine knownE Yo (fnAt Tryz.func117 (by kernel_rfl) (by kernel_rfl):FnAt _ _ (mkFn Tryz.f117 [])) ?_;have e:=idxP_any l p
 repeat' (first|refine zW [] ?_|(refine zB [] ?_ ?_<;>intro h<;>try exact zk h)|refine zX [] ?_|(refine zK (indexFuncRules _ hl _ _ _ hp) ?_ ?_<;>intro h<;>try exact zk h)|refine zC (indexFuncRules _ hl _ _ _ hp) ?_|(refine zE ?_;(first|(rw [<- e]<;>simp_all<;>fail)|fail))|fail)
def headsO (r0:SRule):List DV->List Ob
 |[]=>[]
 |_ :: l=>[.box [.d (.str r0.name),.d (alts r0.alts)],.room (l.length+1) 1]
theorem heads (x:Src) (hf:FitsX x):KnownCall Tryz.prog 115 [encX x] (.d (strs (x.rules.map (·.name)))):=by
 have hrl:=hf.rules;obtain⟨r0,hr0⟩:∃ r0:SRule,∀ r,x.rules[0]?=some r->r=r0:=⟨(x.rules[0]?).getD ⟨[],[]⟩,fun r h=>by rw [h];rfl⟩
 refine knownE2 Yo (fnAt Tryz.func115 (by kernel_rfl) (by kernel_rfl):FnAt _ _ (mkFn Tryz.f115 [1,16])) ?_
 repeat' (first|refine zW [1,16] ?_|(refine zB [1,16] ?_ ?_<;>intro h<;>try exact zk h)|refine zX [1,16] ?_|(refine Yt ?_;refine r2 ?_;first|done|(skip))|fail)
 refine Run.loopT (fun y:Nat × List DV=>⟨PT.ofList [(3,rowA 1 1 y.2),(7,.d (.sl 2 (x.rules.map encR))),(8,.d (.int .i64 (x.rules.map encR).length)),(9,.d (.int .i64 y.1))],headsO r0 y.2,[]⟩) (fun y=>y.1<=x.rules.length/\y.2=(x.rules.take y.1).map (fun r=>.str r.name)) (fun y=>x.rules.length-y.1) (0,[]) ⟨Nat.zero_le _,rfl⟩ (ti _ 0) (fun y hy=>?_);obtain⟨i,acc⟩:=y;obtain⟨hi1,hi2⟩:=hy;simp only at hi1 hi2 |-;have hal:acc.length<=i:=by rw [hi2];simp;omega
 rcases Nat.lt_or_ge i x.rules.length with hlt|hge
 .obtain⟨r,hr⟩:=get_ok hlt
  have hnext:acc++[DV.str r.name]=(x.rules.take (i+1)).map (fun r=>.str r.name):=by rw [List.take_add_one,hr,hi2];simp
  rcases acc with _|⟨a,l⟩
  .have hi0:i=0:=by
    have:=congrArg List.length hi2;simp at this;omega
   have hrr:=hr0 r (by rw [<- hi0];exact hr);subst hrr
   repeat' (first|refine zW [1,16] ?_|(refine zB [1,16] ?_ ?_<;>intro h<;>try exact zk h)|refine zX [1,16] ?_|refine oI (frz:=[1,16]) (v:=.d (.ep [.str r.name,alts r.alts])) ?_ (he:=by first|(simp [gD,cellsD,hr,encR]<;>fail)|fail)|refine eI (v:=.d (.ep [.str r.name,alts r.alts])) ?_ (he:=by first|(simp [gD,cellsD,hr,encR]<;>fail)|fail)|refine oX (frz:=[1,16]) Yo ?_ (hv:=app1) (hf:=rfl) (he:=rfl)|refine eX ?_ (hv:=app1) (hf:=rfl) (he:=rfl)|refine oX (frz:=[1,16]) Yo ?_ (hv:=app0) (hf:=rfl) (he:=rfl)|refine eX ?_ (hv:=app0) (hf:=rfl) (he:=rfl)|(refine Yt ?_;refine r2 ?_;first|done|(skip))|(exact⟨(i+1,[DV.str r.name]),⟨hlt,hnext⟩,by simp only;omega,(ti _ 2 (Eq.trans (b:=[.box [.d (.str r.name),.d (alts r.alts)],.room 1 1]) rfl (by first|rfl|(simp [rowA,rowO,headsO]<;>fail))))⟩)|fail)
  .have hal':l.length+1<=i:=hal
   repeat' (first|refine zW [1,16] ?_|(refine zB [1,16] ?_ ?_<;>intro h<;>try exact zk h)|refine zX [1,16] ?_|refine oI (frz:=[1,16]) (v:=.d (.ep [.str r.name,alts r.alts])) ?_ (he:=by first|(simp [gD,cellsD,hr,encR]<;>fail)|fail)|refine eI (v:=.d (.ep [.str r.name,alts r.alts])) ?_ (he:=by first|(simp [gD,cellsD,hr,encR]<;>fail)|fail)|refine oX (frz:=[1,16]) Yo ?_ (hv:=app1) (hf:=rfl) (he:=rfl)|refine eX ?_ (hv:=app1) (hf:=rfl) (he:=rfl)|refine oX (frz:=[1,16]) Yo ?_ (hv:=app0) (hf:=rfl) (he:=rfl)|refine eX ?_ (hv:=app0) (hf:=rfl) (he:=rfl)|(refine Yt ?_;refine r2 ?_;first|done|(skip))|(exact⟨(i+1,a :: (l++[DV.str r.name])),⟨hlt,hnext⟩,by simp only;omega,(ti _ 2 (Eq.trans (b:=[.box [.d (.str r0.name),.d (alts r0.alts)],.room (l.length+1+1) 1]) rfl (by first|rfl|(simp [rowA,rowO,headsO]<;>fail))))⟩)|fail)
 .have hge:i=x.rules.length:=by omega
  have he:(x.rules.map (·.name)).map DV.str=acc:=by rw [hi2,hge,List.take_length,List.map_map];rfl
  rw [show strs (x.rules.map (·.name))=.sl 1 ((x.rules.map (·.name)).map DV.str) from rfl,he];rcases acc with _|⟨a,l⟩
  .repeat' (first|refine zW [1,16] ?_|(refine zB [1,16] ?_ ?_<;>intro h<;>try exact zk h)|refine zX [1,16] ?_|(refine Yt ?_;refine r2 ?_;first|done|(exact .d .nil))|fail)
  .repeat' (first|refine zW [1,16] ?_|(refine zB [1,16] ?_ ?_<;>intro h<;>try exact zk h)|refine zX [1,16] ?_|(refine Yt ?_;refine r2 ?_;first|done|(exact .refl))|fail)
theorem twiceS (l:List (List Nat)) (hl:l.length<=1099511627776):KnownCall Tryz.prog 124 [strs l] (.d (.bool (decide (¬ l.Nodup)))):=by
 refine knownE Yo (fnAt Tryz.func124 (by kernel_rfl) (by kernel_rfl):FnAt _ _ (mkFn Tryz.f124 [])) ?_
 repeat' (first|refine zW [] ?_|(refine zB [] ?_ ?_<;>intro h<;>try exact zk h)|refine zX [] ?_|(refine zE ?_;(skip))|fail)
 refine Run.loop (fun i:Nat=>⟨PT.ofList [(0,.d (strs l)),(5,.d (strs l)),(6,.d (.int .i64 (l.map DV.str).length)),(7,.d (.int .i64 i))],[],[]⟩) (fun i=>i<=l.length/\(l.take i).Nodup) (fun i=>l.length-i) 0 ⟨Nat.zero_le _,by simp⟩ (weak_of (by repeat' (first|exact trivial|refine⟨rfl,?_⟩))) (fun i hi=>?_);rcases Nat.lt_or_ge i l.length with hlt|hge
 .obtain⟨x,hx⟩:=get_ok hlt
  have hh:=contains (l.take i) x (by simp;omega);have hc:AV.d (DV.sl 1 (cutL none (some (i:Int)) (l.map DV.str)))=.d (strs (l.take i)):=by simp [cutL,List.map_take]
  by_cases hm:x ∈ l.take i
  .rw [decide_eq_true hm] at hh
   rw [decide_eq_true (nodup_not hx hm)]
   repeat' (first|refine zW [] ?_|(refine zB [] ?_ ?_<;>intro h<;>try exact zk h)|refine zX [] ?_|refine zC (hh) ?_|refine oI (frz:=[]) (v:=.d (.ep [.str x])) ?_ (he:=by first|(simp [gD,cellsD,hx]<;>fail)|fail)|refine eI (v:=.d (.ep [.str x])) ?_ (he:=by first|(simp [gD,cellsD,hx]<;>fail)|fail)|refine oX (frz:=[]) (v:=.d (strs (l.take i))) Yo ?_ (hf:=by first|(simp [cutC,maxC]<;>fail)|(simp [cutC,maxC];omega)) (he:=hc)|(refine zE ?_;(rfl))|((exfalso;(simp at h<;>omega)))|fail)
  .rw [decide_eq_false hm] at hh
   have hn:=nodup_take hx hi.2 hm
   repeat' (first|refine zW [] ?_|(refine zB [] ?_ ?_<;>intro h<;>try exact zk h)|refine zX [] ?_|refine zC (hh) ?_|refine oI (frz:=[]) (v:=.d (.ep [.str x])) ?_ (he:=by first|(simp [gD,cellsD,hx]<;>fail)|fail)|refine eI (v:=.d (.ep [.str x])) ?_ (he:=by first|(simp [gD,cellsD,hx]<;>fail)|fail)|refine oX (frz:=[]) (v:=.d (strs (l.take i))) Yo ?_ (hf:=by first|(simp [cutC,maxC]<;>fail)|(simp [cutC,maxC];omega)) (he:=hc)|(refine zE ?_;((exfalso;(simp at h<;>omega))))|(exact⟨i+1,⟨hlt,hn⟩,by omega,weak_of (by repeat' (first|exact trivial|refine⟨rfl,?_⟩|refine⟨(inc_get (k:=i) (by kernel_rfl) (by omega)),?_⟩))⟩)|fail)
 .have hie:i=l.length:=by omega
  subst hie;have hn:=hi.2;rw [List.take_length] at hn;rw [decide_eq_false (by simpa using hn)]
  repeat' (first|refine zW [] ?_|(refine zB [] ?_ ?_<;>intro h<;>try exact zk h)|refine zX [] ?_|(refine zE ?_;(rfl))|((exfalso;(simp at h<;>omega)))|fail)
theorem fullX_all {x:Src} (h:(x.rules.take x.rules.length).any (fun r=>r.alts.any longA)=false):fullX x=(decide (8<x.tokens.length) || decide (8<x.rules.length) || decide (24<sumTo x x.rules.length)):=by
 unfold fullX;rw [any_end h];simp
theorem fullS (x:Src) (hf:FitsX x):KnownCall Tryz.prog 119 [encX x] (.d (.bool (fullX x))):=by
 have hrl:=hf.rules;refine knownE Yo (fnAt Tryz.func119 (by kernel_rfl) (by kernel_rfl):FnAt _ _ (mkFn Tryz.f119 [1])) ?_
 repeat' (first|refine zW [1] ?_|(refine zB [1] ?_ ?_<;>intro h<;>try exact zk h)|refine zX [1] ?_|(refine zE ?_;(skip))|fail)
 refine Run.loopT (fun i:Nat=>⟨PT.ofList [(1,cellX x),(3,.d (.int .i64 (sumTo x i:Nat))),(9,.d (.sl 2 (x.rules.map encR))),(10,.d (.int .i64 (x.rules.map encR).length)),(11,.d (.int .i64 i))],[],[]⟩) (fun i=>i<=x.rules.length/\(x.rules.take i).any (fun r=>r.alts.any longA)=false) (fun i=>x.rules.length-i) 0 ⟨Nat.zero_le _,rfl⟩ (ti _ 0) (fun i hi=>?_);obtain⟨hi1,hi3⟩:=hi;rcases Nat.lt_or_ge i x.rules.length with hlt|hge
 .obtain⟨r,hr⟩:=get_ok hlt
  have hra:=hf.alts r (List.mem_of_getElem? hr);have hsl:=sumTo_le hf (i:=i) hi1;have hsum:AV.d (.int .i64 (IntKind.i64.wrap ((sumTo x i:Nat)+((r.alts.map strs).length:Int))))=.d (.int .i64 (sumTo x (i+1):Nat)):=vN8 (by rw [sumTo_succ hr];simp) (by rw [sumTo_succ hr];omega)
  repeat' (first|refine oX (frz:=[1]) (v:=.d (.int .i64 (sumTo x (i+1):Nat))) Yo ?_ (he:=(hsum))|refine eX (v:=.d (.int .i64 (sumTo x (i+1):Nat))) ?_ (he:=(hsum))|refine zW [1] ?_|(refine zB [1] ?_ ?_<;>intro h<;>try exact zk h)|refine zX [1] ?_|refine oI (frz:=[1]) (v:=.d (.ep [.str r.name,alts r.alts])) ?_ (he:=by first|(simp [gD,cellsD,hr,encR]<;>fail)|fail)|refine eI (v:=.d (.ep [.str r.name,alts r.alts])) ?_ (he:=by first|(simp [gD,cellsD,hr,encR]<;>fail)|fail)|(refine zE ?_;(skip))|((exfalso;(simp at h<;>omega)))|fail)
  refine Run.loopT (fun k:Nat=>⟨PT.ofList [(1,cellX x),(3,.d (.int .i64 (sumTo x (i+1):Nat))),(9,.d (.sl 2 (x.rules.map encR))),(10,.d (.int .i64 (x.rules.map encR).length)),(11,.d (.int .i64 i)),(21,.d (alts r.alts)),(22,.d (.int .i64 (r.alts.map strs).length)),(23,.d (.int .i64 k))],[],[]⟩) (fun k=>k<=r.alts.length/\(r.alts.take k).any longA=false) (fun k=>r.alts.length-k) 0 ⟨Nat.zero_le _,rfl⟩ (ti _ 0) (fun k hk=>?_);obtain⟨hk1,hk3⟩:=hk;rcases Nat.lt_or_ge k r.alts.length with hkl|hkg
  .obtain⟨a,ha⟩:=get_ok hkl
   cases hla:longA a with
   |true =>
    have hfx:fullX x=true:=by unfold fullX;rw [any_hit hr (p:=fun r=>r.alts.any longA) (any_hit ha hla)];rfl
    have hla':6<a.length:=by simpa [longA] using hla
    rw [hfx]
    repeat' (first|refine zW [1] ?_|(refine zB [1] ?_ ?_<;>intro h<;>try exact zk h)|refine zX [1] ?_|refine oI (frz:=[1]) (v:=.d (.ep [strs a])) ?_ (he:=by first|(simp [gD,cellsD,ha]<;>fail)|fail)|refine eI (v:=.d (.ep [strs a])) ?_ (he:=by first|(simp [gD,cellsD,ha]<;>fail)|fail)|(refine zE ?_;(rfl))|((exfalso;(simp at h<;>omega)))|fail)
   |false =>
    have hla':¬ 6<a.length:=by simpa [longA] using hla
    repeat' (first|refine zW [1] ?_|(refine zB [1] ?_ ?_<;>intro h<;>try exact zk h)|refine zX [1] ?_|refine oI (frz:=[1]) (v:=.d (.ep [strs a])) ?_ (he:=by first|(simp [gD,cellsD,ha]<;>fail)|fail)|refine eI (v:=.d (.ep [strs a])) ?_ (he:=by first|(simp [gD,cellsD,ha]<;>fail)|fail)|(refine zE ?_;((exfalso;(simp at h<;>omega))))|(exact⟨k+1,⟨by omega,any_next ha hk3 hla⟩,by omega,(ti _ 0)⟩)|((exfalso;(simp at h<;>omega)))|fail)
  .have hke:k=r.alts.length:=by omega
   subst hke;have hall:=any_end hk3
   repeat' (first|refine zW [1] ?_|(refine zB [1] ?_ ?_<;>intro h<;>try exact zk h)|refine zX [1] ?_|(refine zE ?_;(skip))|(exact⟨i+1,⟨by omega,any_next hr hi3 hall⟩,by omega,(ti _ 0)⟩)|((exfalso;(simp at h<;>omega)))|fail)
 .have hie:i=x.rules.length:=by omega
  subst hie;rw [fullX_all hi3];by_cases ht:8<x.tokens.length
  .rw [decide_eq_true ht]
   repeat' (first|refine zW [1] ?_|(refine zB [1] ?_ ?_<;>intro h<;>try exact zk h)|refine zX [1] ?_|(refine zE ?_;(rfl))|((exfalso;(simp at h<;>omega)))|fail)
  .rw [decide_eq_false ht]
   by_cases h8:8<x.rules.length
   .rw [decide_eq_true h8]
    repeat' (first|refine zW [1] ?_|(refine zB [1] ?_ ?_<;>intro h<;>try exact zk h)|refine zX [1] ?_|(refine zE ?_;(rfl))|((exfalso;(simp at h<;>omega)))|fail)
   .rw [decide_eq_false h8]
    by_cases hs:24<sumTo x x.rules.length
    .rw [decide_eq_true hs]
     repeat' (first|refine zW [1] ?_|(refine zB [1] ?_ ?_<;>intro h<;>try exact zk h)|refine zX [1] ?_|(refine zE ?_;(rfl))|((exfalso;(simp at h<;>omega)))|fail)
    .rw [decide_eq_false hs]
     repeat' (first|refine zW [1] ?_|(refine zB [1] ?_ ?_<;>intro h<;>try exact zk h)|refine zX [1] ?_|(refine zE ?_;(rfl))|((exfalso;(simp at h<;>omega)))|fail)
end Go.Av
end
noncomputable section
namespace Go.Av
open Go Go.Proofs
set_option maxRecDepth 10000
theorem vT8 {p:Prop} [Decidable p] (h:p):AV.d (.bool (decide p))=.d (.bool true):=by rw [decide_eq_true h]
theorem vF8 {p:Prop} [Decidable p] (h:¬ p):AV.d (.bool (decide p))=.d (.bool false):=by rw [decide_eq_false h]
section
variable {E:PT Ty} {H:Hd} {frz:List Nat} {rd:Operand->AV} {objs:List Ob} {o:Oper} {args:Array Operand} {tys:Array TypeId} {a b:Operand} {ts tx e:TypeId} {yts z:Ty} {szx k:Nat} {ys:List DV}
theorem appV (hlen:ys.length<=16777216) (hop:o.op=.call ⟨.builtin .append,args,tys⟩:=by rfl) (ha:args.toList=[a,b]:=by rfl) (ht:tys.toList=[ts,tx]:=by rfl)
  (hv:hintV o.dst frz=true:=by rfl) (h1:E.get? ts=some yts:=by rfl) (h2:yts.desc=.slice e:=by rfl) (h3:E.get? e=some z:=by rfl) (h4:appSrc E z tx (rd b) objs=some (szx,ys):=by rfl) (h5:(Nat.ble 1 z.size && Nat.ble 1 z.bytes)=true:=by rfl) (hk:z.size=k:=by rfl)
  (h6:szx=k\/ys=[]:=by first|rfl|(exact Or.inl rfl)|(exact Or.inr rfl))
  (h7:rd a=.d .nilsl:=by rfl) (h11:Nat.ble z.bytes 65536=true:=by rfl) :
  evAny E H frz rd objs o=some (.vs objs.length k 0 ys.length,some (objs++[.vec e (isAggT z.desc) k ys.length ((flatD ys).map .d)]),true):=by
 obtain⟨dst,op,ty,pos,after,guard⟩:=o;obtain⟨desc,size,bytes,zero⟩:=yts;simp only at hop h2 hv;subst hop h2 hk;have hb:∀ q:Nat,Nat.beq q q=true:=fun q=>Nat.beq_refl q;have hs:srcSz szx z.size ys=z.size:=by
  rcases h6 with rfl|rfl
  .cases ys<;>rfl
  .rfl
 have hm:Nat.ble (ys.length*z.bytes) 1099511627776=true:=Nat.ble_eq_true_of_le (Nat.le_trans (Nat.mul_le_mul hlen (Nat.le_of_ble_eq_true h11)) (by decide));simp only [evAny,ha,ht,hv,appendR,h1,appSrc0,h3,h4,h5,hs,hb,h7,hm,Bool.and_self,if_true,Option.map_some]
end
theorem appSrc_make {n:Nat} (hn:n<=1048576) {objs:List Ob}:appSrc Et ty9 3 (.d (.int .i64 (n:Nat))) objs=some (1,List.replicate n (.str [])):=by
 have h1:Nat.ble n 1048576=true:=Nat.ble_eq_true_of_le hn;have h2:Nat.ble (n*ty9.bytes) 1099511627776=true:=Nat.ble_eq_true_of_le (Nat.le_trans (Nat.mul_le_mul hn (show ty9.bytes<=16 from Nat.le_refl _)) (by decide));have h3:(decide (0<=((n:Nat):Int)) && Nat.ble ((n:Nat):Int).toNat 1048576 && Nat.ble (((n:Nat):Int).toNat*ty9.bytes) 1099511627776 && (isAggT ty9.desc || Nat.beq ty9.size 1))=true:=by
  rw [Int.toNat_natCast,h1,h2];simp;exact .inr rfl
 show(match decide (0<=((n:Nat):Int)) && Nat.ble ((n:Nat):Int).toNat 1048576 && Nat.ble (((n:Nat):Int).toNat*ty9.bytes) 1099511627776 && (isAggT ty9.desc || Nat.beq ty9.size 1) with
  |true=>some (ty9.size,List.replicate ((n:Nat):Int).toNat (zeroE ty9))
  |false=>none)=_
 rw [h3];rfl
theorem cloneA (l:List (List Nat)) (hl:l.length<=1048576):ACall Tryz.prog 72 [.d (strs l)] [] (.sr 0 1 ([]++l.map DV.str)) [.room (([]:List DV).length+(l.map DV.str).length) 1]:=by
 refine acall_of_run Yo (fnAt Tryz.func72 (by kernel_rfl) (by kernel_rfl):FnAt _ _ (mkFn Tryz.f72 [])) rfl rfl ?_
 repeat refine zG [] ?_
 refine zX [] ?_
 repeat refine zG [] ?_
 refine zX [] ?_;refine oNil Yo (fun hnil=>?_) ?_
 .have hl0:l=[]:=by simpa using hnil
  subst hl0
  repeat refine zG [] ?_
  refine zX [] ?_
  repeat refine zG [] ?_
  refine Run.mkRoom 2 1 [(2,.sr 0 1 [])] rfl (ofList_cases (by intro p hp;simp at hp;subst hp;exact .inl ⟨rfl,rfl⟩)) ?_;refine Yt ?_;exact⟨trivial,rfl,rfl⟩
 .repeat refine zG [] ?_
  iterate 2 refine zX [] ?_
  refine oX (frz:=[]) Yo ?_ (hv:=app1) (hf:=rfl) (he:=rfl);refine zX [] ?_
  repeat refine zG [] ?_
  refine Yt ?_;exact⟨trivial,rfl,rfl⟩
theorem grow0:ACall Tryz.prog 236 [.d .nilsl,.d (.int .i64 (0:Nat))] [] (.sr 0 1 []) [.room 0 1]:=by
 refine nil_room ?_;refine acall_of_run Yo (fnAt Tryz.func236 (by kernel_rfl) (by kernel_rfl):FnAt _ _ (mkFn Tryz.f236 [])) rfl rfl ?_
 repeat refine zG [] ?_
 refine zX [] ?_
 repeat refine zG [] ?_
 refine zX [] ?_
 first|refine oX (frz:=[]) (v:=.d (.bool false)) Yo ?_ (he:=(vF8 (by decide)))|refine eX (v:=.d (.bool false)) ?_ (he:=(vF8 (by decide)))
 repeat refine zG [] ?_
 iterate 5 refine zX [] ?_
 first|refine oX (frz:=[]) (v:=.d (.int .i64 0)) Yo ?_ (he:=(rfl))|refine eX (v:=.d (.int .i64 0)) ?_ (he:=(rfl))
 first|refine oX (frz:=[]) (v:=.d (.int .i64 (0:Nat))) Yo ?_ (he:=(rfl))|refine eX (v:=.d (.int .i64 (0:Nat))) ?_ (he:=(rfl))
 refine zX [] ?_
 repeat refine zG [] ?_
 refine zX [] ?_
 first|refine oX (frz:=[]) (v:=.d (.bool false)) Yo ?_ (he:=(vF8 (by decide)))|refine eX (v:=.d (.bool false)) ?_ (he:=(vF8 (by decide)))
 repeat refine zG [] ?_
 iterate 2 refine zX [] ?_
 repeat refine zG [] ?_
 refine Yt ?_;exact⟨trivial,rfl,rfl⟩
theorem growN (n:Nat) (h0:0<n) (hn:n<=1048576):∃ m cs,ACall Tryz.prog 236 [.d .nilsl,.d (.int .i64 (n:Nat))] [] (.vs 0 1 0 0) [.vec 9 false 1 m cs]:=by
 refine⟨(List.replicate n (DV.str [])).length,(flatD (List.replicate n (.str []))).map .d,?_⟩;refine acall_of_run Yo (fnAt Tryz.func236 (by kernel_rfl) (by kernel_rfl):FnAt _ _ (mkFn Tryz.f236 [65558,200000])) rfl rfl ?_
 repeat refine zG [65558,200000] ?_
 refine zX [65558,200000] ?_
 repeat refine zG [65558,200000] ?_
 refine zX [65558,200000] ?_
 first|refine oX (frz:=[65558,200000]) (v:=.d (.bool false)) Yo ?_ (he:=(vF8 (by omega)))|refine eX (v:=.d (.bool false)) ?_ (he:=(vF8 (by omega)))
 repeat refine zG [65558,200000] ?_
 iterate 5 refine zX [65558,200000] ?_
 first|refine oX (frz:=[65558,200000]) (v:=.d (.int .i64 0)) Yo ?_ (he:=(rfl))|refine eX (v:=.d (.int .i64 0)) ?_ (he:=(rfl))
 first|refine oX (frz:=[65558,200000]) (v:=.d (.int .i64 (n:Nat))) Yo ?_ (he:=(vN8 (by omega) (by omega)))|refine eX (v:=.d (.int .i64 (n:Nat))) ?_ (he:=(vN8 (by omega) (by omega)))
 refine zX [65558,200000] ?_
 repeat refine zG [65558,200000] ?_
 refine zX [65558,200000] ?_
 first|refine oX (frz:=[65558,200000]) (v:=.d (.bool true)) Yo ?_ (he:=(vT8 (by omega)))|refine eX (v:=.d (.bool true)) ?_ (he:=(vT8 (by omega)))
 repeat refine zG [65558,200000] ?_
 iterate 5 refine zX [65558,200000] ?_
 refine oX (frz:=[65558,200000]) Yo ?_ (hv:=appV (ys:=List.replicate n (.str [])) (by rw [List.length_replicate]<;>omega) (h4:=by exact appSrc_make hn)) (hf:=rfl) (he:=rfl);iterate 2 refine zX [65558,200000] ?_
 refine oX (frz:=[65558,200000]) Yo ?_ (hf:=by simp [cutC]);refine zX [65558,200000] ?_
 repeat refine zG [65558,200000] ?_
 iterate 2 refine zX [65558,200000] ?_
 repeat refine zG [65558,200000] ?_
 refine Yt ?_;exact⟨trivial,rfl,rfl⟩
theorem growR (n:Nat) (hn:n<=1048576):ACall Tryz.prog 236 [.d .nilsl,.d (.int .i64 (n:Nat))] [] (.sr 0 1 []) [.room 0 1]:=by
 rcases Nat.eq_zero_or_pos n with h0|h0
 .subst h0;exact grow0
 .obtain⟨m,cs,h⟩:=growN n h0 hn
  exact vec_room h
def lensTo (l:List (List (List Nat))) (i:Nat):Nat:=(l.take i).flatten.length
theorem lensTo_succ {l:List (List (List Nat))} {i:Nat} {a:List (List Nat)} (h:l[i]?=some a):lensTo l (i+1)=lensTo l i+a.length:=by
 simp [lensTo,List.take_add_one,h]
theorem lensTo_le (l:List (List (List Nat))) (i:Nat):lensTo l i<=l.flatten.length:=by
 unfold lensTo
 conv=>rhs;rw [<- List.take_append_drop i l,List.flatten_append,List.length_append]
 omega
theorem concat (l:List (List (List Nat))) (hl:l.length<=1099511627776) (ht:l.flatten.length<=1048576):KnownCall Tryz.prog 200 [alts l] (.d (strs l.flatten)):=by
 refine knownE Yo (fnAt Tryz.func200 (by kernel_rfl) (by kernel_rfl):FnAt _ _ (mkFn Tryz.f200 [])) ?_
 repeat' (first|refine zW [] ?_|(refine zB [] ?_ ?_<;>intro h<;>try exact zk h)|refine zX [] ?_|(refine zE ?_;(skip))|fail)
 refine Run.loop (fun i:Nat=>⟨PT.ofList [(0,.d (alts l)),(3,.d (.int .i64 (lensTo l i:Nat))),(9,.d (alts l)),(10,.d (.int .i64 (l.map strs).length)),(11,.d (.int .i64 i))],[],[]⟩) (fun i=>i<=l.length) (fun i=>l.length-i) 0 (Nat.zero_le _) (weak_of (by repeat' (first|exact trivial|refine⟨rfl,?_⟩))) (fun i hi=>?_);rcases Nat.lt_or_ge i l.length with hlt|hge
 .obtain⟨a,ha⟩:=get_ok hlt
  have h1:=lensTo_le l (i+1);have h2:=lensTo_succ ha
  repeat refine zG [] ?_
  first|refine oX (frz:=[]) (v:=.d (.bool true)) Yo ?_ (he:=(vT8 (by simp<;>omega)))|refine eX (v:=.d (.bool true)) ?_ (he:=(vT8 (by simp<;>omega)))
  repeat refine zG [] ?_
  refine oX (frz:=[]) (v:=.d (.ep [strs a])) Yo ?_ (hf:=by simp [inB]<;>omega) (he:=by simp [List.getD_eq_getElem?_getD,cellsD,ha]);iterate 2 refine zX [] ?_
  repeat refine zG [] ?_
  iterate 3 refine zX [] ?_
  first|refine oX (frz:=[]) (v:=.d (.int .i64 (lensTo l (i+1):Nat))) Yo ?_ (he:=(vN8 (by rw [h2];simp) (by omega)))|refine eX (v:=.d (.int .i64 (lensTo l (i+1):Nat))) ?_ (he:=(vN8 (by rw [h2];simp) (by omega)))
  refine zX [] ?_
  repeat refine zG [] ?_
  refine zX [] ?_
  first|refine oX (frz:=[]) (v:=.d (.bool false)) Yo ?_ (he:=(vF8 (by omega)))|refine eX (v:=.d (.bool false)) ?_ (he:=(vF8 (by omega)))
  repeat refine zG [] ?_
  first|refine oX (frz:=[]) (v:=.d (.int .i64 (i+1:Nat))) Yo ?_ (he:=(vN8 (by omega) (by omega)))|refine eX (v:=.d (.int .i64 (i+1:Nat))) ?_ (he:=(vN8 (by omega) (by omega)))
  refine zX [] ?_
  repeat refine zG [] ?_
  exact⟨i+1,hlt,by omega,weak_of (by repeat' (first|exact trivial|refine⟨rfl,?_⟩))⟩
 .have hie:i=l.length:=by omega
  have hsum:lensTo l i=l.flatten.length:=by unfold lensTo;rw [hie,List.take_length]
  rw [hsum];subst hie
  repeat refine zG [] ?_
  first|refine oX (frz:=[]) (v:=.d (.bool false)) Yo ?_ (he:=(vF8 (by simp)))|refine eX (v:=.d (.bool false)) ?_ (he:=(vF8 (by simp)))
  repeat refine zG [] ?_
  refine zX [] ?_;refine oA (growR _ ht) ?_;refine zX [] ?_
  repeat refine zG [] ?_
  iterate 3 refine zX [] ?_
  repeat refine zG [] ?_
  refine Run.loop (fun y:Nat × List DV=>⟨PT.ofList [(6,.sr 0 1 y.2),(25,.d (alts l)),(26,.d (.int .i64 (l.map strs).length)),(27,.d (.int .i64 y.1))],[.room y.2.length 1],[]⟩) (fun y=>y.1<=l.length/\y.2=(l.take y.1).flatten.map DV.str) (fun y=>l.length-y.1) (0,[]) ⟨Nat.zero_le _,rfl⟩ (weak_of (by repeat' (first|exact trivial|refine⟨rfl,?_⟩))) (fun y hy=>?_);obtain⟨i,acc⟩:=y;obtain⟨hi1,hi2⟩:=hy;simp only at hi1 hi2 |-;rcases Nat.lt_or_ge i l.length with hlt|hge
  .obtain⟨a,ha⟩:=get_ok hlt
   have h1:=lensTo_le l (i+1);have h2:=lensTo_succ ha;have hal:acc.length=lensTo l i:=by rw [hi2,List.length_map];rfl
   have hnext:acc++a.map DV.str=(l.take (i+1)).flatten.map DV.str:=by rw [List.take_add_one,ha,hi2];simp
   repeat refine zG [] ?_
   first|refine oX (frz:=[]) (v:=.d (.bool true)) Yo ?_ (he:=(vT8 (by simp<;>omega)))|refine eX (v:=.d (.bool true)) ?_ (he:=(vT8 (by simp<;>omega)))
   repeat refine zG [] ?_
   refine oX (frz:=[]) (v:=.d (.ep [strs a])) Yo ?_ (hf:=by simp [inB]<;>omega) (he:=by simp [List.getD_eq_getElem?_getD,cellsD,ha]);iterate 2 refine zX [] ?_
   repeat refine zG [] ?_
   iterate 2 refine zX [] ?_
   refine oX (frz:=[]) Yo ?_ (hv:=app1 (hlen:=by simp<;>omega)) (hf:=rfl) (he:=rfl);refine zX [] ?_
   repeat refine zG [] ?_
   first|refine oX (frz:=[]) (v:=.d (.int .i64 (i+1:Nat))) Yo ?_ (he:=(vN8 (by omega) (by omega)))|refine eX (v:=.d (.int .i64 (i+1:Nat))) ?_ (he:=(vN8 (by omega) (by omega)))
   refine zX [] ?_
   repeat refine zG [] ?_
   exact⟨(i+1,acc++a.map DV.str),⟨hlt,hnext⟩,by simp only<;>omega,weak_of' (by show [Ob.room (acc++a.map DV.str).length 1]=[Ob.room (acc.length+(a.map DV.str).length) 1]<;>rw [List.length_append]) rfl (by repeat' (first|exact trivial|refine⟨rfl,?_⟩))⟩
  .have hie:i=l.length:=by omega
   have he:l.flatten.map DV.str=acc:=by rw [hi2,hie,List.take_length]
   rw [show strs l.flatten=.sl 1 (l.flatten.map DV.str) from rfl,he];subst hie
   repeat refine zG [] ?_
   first|refine oX (frz:=[]) (v:=.d (.bool false)) Yo ?_ (he:=(vF8 (by simp)))|refine eX (v:=.d (.bool false)) ?_ (he:=(vF8 (by simp)))
   repeat' (first|refine zW [] ?_|(refine zB [] ?_ ?_<;>intro h<;>try exact zk h)|refine zX [] ?_|(refine zE ?_;(rfl))|fail)
end Go.Av
end
noncomputable section
namespace Go.Av
open Go Go.Proofs
set_option maxRecDepth 10000
def innerX (x:Src):List (List Nat):=x.rules.flatMap (fun r=>r.alts.flatten)
def innerTo (x:Src) (i:Nat):List (List Nat):=(x.rules.take i).flatMap (fun r=>r.alts.flatten)
theorem innerTo_succ {x:Src} {i:Nat} {r:SRule} (h:x.rules[i]?=some r):innerTo x (i+1)=innerTo x i++r.alts.flatten:=by
 simp [innerTo,List.take_add_one,h]
theorem innerTo_le (x:Src) (i:Nat):(innerTo x i).length<=(innerX x).length:=by
 unfold innerTo innerX
 conv=>rhs;rw [<- List.take_append_drop i x.rules,List.flatMap_append,List.length_append]
 omega
theorem inner (x:Src) (hf:FitsX x) (ht:(innerX x).length<=1048576):KnownCall Tryz.prog 116 [encX x] (.d (strs (innerX x))):=by
 have hrl:=hf.rules;refine knownE Yo (fnAt Tryz.func116 (by kernel_rfl) (by kernel_rfl):FnAt _ _ (mkFn Tryz.f116 [1])) ?_
 repeat refine zG [1] ?_
 iterate 2 refine zX [1] ?_
 repeat refine zG [1] ?_
 refine zX [1] ?_;refine RunOps.nilRow 3 1 [(1,cellX x),(3,.d (.sl 1 []))] (by rfl) (by refine ofList_cases ?_;intro p hp;rcases List.mem_cons.1 hp with rfl|hp;right;dsimp only;rfl;rcases List.mem_cons.1 hp with rfl|hp;exact .inl ⟨rfl,rfl⟩;cases hp) ?_
 repeat refine zG [1] ?_
 iterate 4 refine zX [1] ?_
 repeat refine zG [1] ?_
 refine Run.loopT (fun i:Nat=>⟨PT.ofList [(3,.d (strs (innerTo x i))),(7,.d (.sl 2 (x.rules.map encR))),(8,.d (.int .i64 (x.rules.map encR).length)),(9,.d (.int .i64 i))],[],[]⟩) (fun i=>i<=x.rules.length) (fun i=>x.rules.length-i) 0 (Nat.zero_le _) (ti _ 0) (fun i hi=>?_);rcases Nat.lt_or_ge i x.rules.length with hlt|hge
 .obtain⟨r,hr⟩:=get_ok hlt
  have hra:=hf.alts r (List.mem_of_getElem? hr);have h1:=innerTo_le x (i+1);have h2:=innerTo_succ hr;have hfl:(innerTo x i :: r.alts).flatten=innerTo x (i+1):=by rw [h2];rfl
  have hc:=concat (innerTo x i :: r.alts) (by simp;omega) (by rw [hfl];omega);rw [hfl] at hc
  repeat' (first|refine zW [1] ?_|(refine zB [1] ?_ ?_<;>intro h<;>try exact zk h)|refine zX [1] ?_|refine oI (frz:=[1]) (v:=.d (.ep [.str r.name,alts r.alts])) ?_ (he:=by first|(simp [gD,cellsD,hr,encR]<;>fail)|fail)|refine eI (v:=.d (.ep [.str r.name,alts r.alts])) ?_ (he:=by first|(simp [gD,cellsD,hr,encR]<;>fail)|fail)|refine zM (hc) ?_|refine oX (frz:=[1]) Yo ?_ (hv:=app1) (hf:=rfl) (he:=rfl)|refine eX ?_ (hv:=app1) (hf:=rfl) (he:=rfl)|refine oX (frz:=[1]) Yo ?_ (hv:=app0) (hf:=rfl) (he:=rfl)|refine eX ?_ (hv:=app0) (hf:=rfl) (he:=rfl)|(refine zE ?_;(skip))|(exact⟨i+1,hlt,by omega,(ti _ 0)⟩)|((exfalso;(simp at h<;>omega)))|fail)
 .have hie:i=x.rules.length:=by omega
  have he:innerTo x i=innerX x:=by rw [hie];simp [innerTo,innerX]
  rw [he];subst hie
  repeat' (first|refine zW [1] ?_|(refine zB [1] ?_ ?_<;>intro h<;>try exact zk h)|refine zX [1] ?_|(refine zE ?_;(rfl))|((exfalso;(simp at h<;>omega)))|fail)
theorem chk1 (r:SRule):KnownCall Tryz.prog 118 [encR r] (.d (.bool r.alts.isEmpty)):=by
 refine knownE Yo (fnAt Tryz.func118 (by kernel_rfl) (by kernel_rfl):FnAt _ _ (mkFn Tryz.f118 [1])) ?_;cases ha:r.alts with
 |nil =>
  rw [show encR r=.agg [.str r.name,alts []] from by rw [encR,ha]]
  repeat' (first|refine zW [1] ?_|(refine zB [1] ?_ ?_<;>intro h<;>try exact zk h)|refine zX [1] ?_|(refine zE ?_;(rfl))|((exfalso;(simp at h<;>omega)))|fail)
 |cons a l =>
  rw [show encR r=.agg [.str r.name,alts (a :: l)] from by rw [encR,ha]]
  repeat' (first|refine zW [1] ?_|(refine zB [1] ?_ ?_<;>intro h<;>try exact zk h)|refine zX [1] ?_|(refine zE ?_;(rfl))|((exfalso;(simp at h<;>omega)))|fail)
def mayF (s:List Nat):Bool:=smallF s || capitalF s
theorem chk2 (s:List Nat) (hl:s.length<=1099511627776):KnownCall Tryz.prog 123 [.str s] (.d (.bool (mayF s))):=by
 have c1:=small s hl;have c2:=capital s hl;unfold mayF;generalize smallF s=b1 at c1 |-;generalize capitalF s=b2 at c2 |-;cases b1 with
 |true =>
  refine knownE Yo (fnAt Tryz.func123 (by kernel_rfl) (by kernel_rfl):FnAt _ _ (mkFn Tryz.f123 [])) ?_
  repeat' (first|refine zW [] ?_|(refine zB [] ?_ ?_<;>intro h<;>try exact zk h)|refine zX [] ?_|refine zC (c1) ?_|refine zC (c2) ?_|(refine zE ?_;(rfl))|((exfalso;(simp at h<;>omega)))|fail)
 |false =>
  refine knownE Yo (fnAt Tryz.func123 (by kernel_rfl) (by kernel_rfl):FnAt _ _ (mkFn Tryz.f123 [])) ?_
  repeat' (first|refine zW [] ?_|(refine zB [] ?_ ?_<;>intro h<;>try exact zk h)|refine zX [] ?_|refine zC (c1) ?_|refine zC (c2) ?_|(refine zE ?_;(rfl))|((exfalso;(simp at h<;>omega)))|fail)
theorem all1 (s:List Nat) (F:FuncId) (caps:List DV) (b:Bool) (hp:KnownCall Tryz.prog F (.str s :: caps) (.d (.bool b))):KnownCall Tryz.prog 203 [.str s,.ep [.fn (.func F) [] caps]] (.d (.bool (!b))):=by
 cases b with
 |true =>
  refine knownE Yo (fnAt Tryz.func203 (by kernel_rfl) (by kernel_rfl):FnAt _ _ (mkFn Tryz.f203 [])) ?_
  repeat' (first|refine zW [] ?_|(refine zB [] ?_ ?_<;>intro h<;>try exact zk h)|refine zX [] ?_|refine zC (hp) ?_|(refine zE ?_;(rfl))|((exfalso;(simp at h<;>omega)))|fail)
 |false =>
  refine knownE Yo (fnAt Tryz.func203 (by kernel_rfl) (by kernel_rfl):FnAt _ _ (mkFn Tryz.f203 [])) ?_
  repeat' (first|refine zW [] ?_|(refine zB [] ?_ ?_<;>intro h<;>try exact zk h)|refine zX [] ?_|refine zC (hp) ?_|(refine zE ?_;(rfl))|((exfalso;(simp at h<;>omega)))|fail)
theorem allS (l:List (List Nat)) (hl:l.length<=1099511627776) (F:FuncId) (caps:List DV) (p:List Nat->Bool) (hp:∀ s ∈ l,KnownCall Tryz.prog F (.str s :: caps) (.d (.bool (p s)))) :
  KnownCall Tryz.prog 120 [strs l,.fn (.func F) [] caps] (.d (.bool (l.all p))):=by
 have hc:=containsFuncStrs l hl 203 [.ep [.fn (.func F) [] caps]] (fun s=>!p s) (fun s hs=>all1 s F caps (p s) (hp s hs));have e:l.all p=!(l.any fun s=>!p s):=by rw [List.all_eq_not_any_not]
 rw [e];generalize (l.any fun s=>!p s)=b at hc |-;cases b with
 |true =>
  refine knownE Yo (fnAt Tryz.func120 (by kernel_rfl) (by kernel_rfl):FnAt _ _ (mkFn Tryz.f120 [3])) ?_
  repeat' (first|refine zW [3] ?_|(refine zB [3] ?_ ?_<;>intro h<;>try exact zk h)|refine zX [3] ?_|refine zC (hc) ?_|(refine zE ?_;(rfl))|((exfalso;(simp at h<;>omega)))|fail)
 |false =>
  refine knownE Yo (fnAt Tryz.func120 (by kernel_rfl) (by kernel_rfl):FnAt _ _ (mkFn Tryz.f120 [3])) ?_
  repeat' (first|refine zW [3] ?_|(refine zB [3] ?_ ?_<;>intro h<;>try exact zk h)|refine zX [3] ?_|refine zC (hc) ?_|(refine zE ?_;(rfl))|((exfalso;(simp at h<;>omega)))|fail)
theorem indexFuncSA (l:List (List Nat)) (hl:l.length<=1099511627776) (F:FuncId) (caps:List AV) (objs:List Ob) (p:List Nat->Bool) (hp:∀ x ∈ l,ACall Tryz.prog F (.d (.str x) :: caps) objs (.d (.bool (p x))) objs) :
  ACall Tryz.prog 237 [.d (strs l),.fn (.func F) [] caps] objs (.d (.int .i64 (idxP l p))) objs:=by
 refine acall_of_run Yo (fnAt Tryz.func237 (by kernel_rfl) (by kernel_rfl):FnAt _ _ (mkFn Tryz.f237 [])) rfl rfl ?_
 repeat' (first|refine zW [] ?_|(refine zB [] ?_ ?_<;>intro h<;>try exact zk h)|refine zX [] ?_|(refine zE ?_;(skip))|fail)
 refine Run.loop (fun i:Nat=>⟨PT.ofList [(0,.d (strs l)),(1,.fn (.func F) [] caps),(7,.d (.int .i64 l.length)),(8,.d (.int .i64 i))],objs,[]⟩) (fun i=>i<=l.length/\∀ j,j<i->∀ y,l[j]?=some y->p y=false) (fun i=>l.length-i) 0 ⟨Nat.zero_le _,fun j hj=>by omega⟩ (weak_of (by repeat' (first|exact trivial|refine⟨rfl,?_⟩|refine⟨Eq.trans (b:=some (.d (.int .i64 (l.map _).length))) rfl (by rw [List.length_map]),?_⟩|fail))) (fun i hi=>?_);obtain⟨hi1,hi2⟩:=hi;rcases Nat.lt_or_ge i l.length with hlt|hge
 .obtain⟨x,hx⟩:=get_ok hlt
  have hc:=hp x (List.mem_of_getElem? hx);cases hpx:p x with
  |true =>
   rw [hpx] at hc
   repeat' (first|refine zW [] ?_|(refine zB [] ?_ ?_<;>intro h<;>try exact zk h)|refine zX [] ?_|refine oI (frz:=[]) (v:=.d (.ep [.str x])) ?_ (he:=by first|(simp [gD,cellsD,hx]<;>fail)|fail)|refine eI (v:=.d (.ep [.str x])) ?_ (he:=by first|(simp [gD,cellsD,hx]<;>fail)|fail)|refine RunOps.call (by rfl) (by rfl) hc (by rfl) (by rfl) ?_|(refine zE ?_;(skip))|fail)
   refine Yt ?_;refine⟨trivial,rfl,?_⟩;rw [idxP_at hx hpx hi2];rfl
  |false =>
   rw [hpx] at hc
   repeat' (first|refine zW [] ?_|(refine zB [] ?_ ?_<;>intro h<;>try exact zk h)|refine zX [] ?_|refine oI (frz:=[]) (v:=.d (.ep [.str x])) ?_ (he:=by first|(simp [gD,cellsD,hx]<;>fail)|fail)|refine eI (v:=.d (.ep [.str x])) ?_ (he:=by first|(simp [gD,cellsD,hx]<;>fail)|fail)|refine RunOps.call (by rfl) (by rfl) hc (by rfl) (by rfl) ?_|(refine zE ?_;(skip))|(exact⟨i+1,⟨by omega,all_succ hi2 (fun q hq=>by rw [hx] at hq;cases hq;exact hpx)⟩,by omega,weak_of (by repeat' (first|exact trivial|refine⟨rfl,?_⟩|refine⟨(inc_get (k:=i) (by kernel_rfl) (by omega)),?_⟩))⟩)|fail)
 .have hge:i=l.length:=by omega
  repeat' (first|refine zW [] ?_|(refine zB [] ?_ ?_<;>intro h<;>try exact zk h)|refine zX [] ?_|(refine zE ?_;(skip))|fail)
  refine Yt ?_;refine⟨trivial,rfl,?_⟩;rw [idxP_none (fun j hj=>hi2 j (by omega))];rfl
theorem containsFuncSA (l:List (List Nat)) (hl:l.length<=1099511627776) (F:FuncId) (caps:List AV) (objs:List Ob) (p:List Nat->Bool) (hp:∀ x ∈ l,ACall Tryz.prog F (.d (.str x) :: caps) objs (.d (.bool (p x))) objs) :
  ACall Tryz.prog 202 [.d (strs l),.fn (.func F) [] caps] objs (.d (.bool (l.any p))) objs:=by
 refine acall_of_run Yo (fnAt Tryz.func202 (by kernel_rfl) (by kernel_rfl):FnAt _ _ (mkFn Tryz.f202 [])) rfl rfl ?_
 repeat refine zA [] ?_
 refine RunOps.call (by rfl) (by rfl) (indexFuncSA l hl F caps objs p hp) (by rfl) (by rfl) ?_
 repeat refine zA [] ?_
 refine Yt ?_;refine⟨trivial,rfl,Eq.trans (b:=some (.d (.bool (decide (idxP l p >= 0))))) (by kernel_rfl) ?_⟩;rw [show decide (idxP l p >= 0)=l.any p from idxP_any l p]
def knowF (x:Src) (rn:List (List Nat)) (s:List Nat):Bool:=decide (s ∈ x.tokens) || decide (s ∈ rn)
theorem chk3 (x:Src) (rn:List (List Nat)) (O:Ob) (B:List Ob) (s:List Nat) (hf:FitsX x) (hrn:rn.length<=1099511627776) :
  ACall Tryz.prog 126 [.d (.str s),cellX x,.bp 1 0] (O :: .box [.d (strs rn)] :: B) (.d (.bool (knowF x rn s))) (O :: .box [.d (strs rn)] :: B):=by
 have c1:=contains x.tokens s (Nat.le_trans hf.tokens (by decide));have c2:=contains rn s hrn;unfold knowF;generalize decide (s ∈ x.tokens)=b1 at c1 |-;generalize decide (s ∈ rn)=b2 at c2 |-;cases b1 with
 |true =>
  refine acall_of_run Yo (fnAt Tryz.func126 (by kernel_rfl) (by kernel_rfl):FnAt _ _ (mkFn Tryz.f126 [])) rfl rfl ?_
  repeat' (first|refine zW [] ?_|(refine zB [] ?_ ?_<;>intro h<;>try exact zk h)|refine zX [] ?_|refine zC (c1) ?_|refine zC (c2) ?_|(refine zE ?_;(skip))|fail)
  refine Yt ?_;exact⟨trivial,rfl,rfl⟩
 |false =>
  refine acall_of_run Yo (fnAt Tryz.func126 (by kernel_rfl) (by kernel_rfl):FnAt _ _ (mkFn Tryz.f126 [])) rfl rfl ?_
  repeat' (first|refine zW [] ?_|(refine zB [] ?_ ?_<;>intro h<;>try exact zk h)|refine zX [] ?_|refine zC (c1) ?_|refine zC (c2) ?_|(refine zE ?_;(skip))|fail)
  refine Yt ?_;exact⟨trivial,rfl,rfl⟩
theorem all1A (F:FuncId) (caps:List AV) (O P:Ob) (s:List Nat) (b:Bool) (hp:ACall Tryz.prog F (.d (.str s) :: caps) [O,P,.box [.fn (.func F) [] caps]] (.d (.bool b)) [O,P,.box [.fn (.func F) [] caps]]) :
  ACall Tryz.prog 203 [.d (.str s),.bp 2 0] [O,P,.box [.fn (.func F) [] caps]] (.d (.bool (!b))) [O,P,.box [.fn (.func F) [] caps]]:=by
 cases b with
 |true =>
  refine acall_of_run Yo (fnAt Tryz.func203 (by kernel_rfl) (by kernel_rfl):FnAt _ _ (mkFn Tryz.f203 [])) rfl rfl ?_
  repeat' (first|refine zW [] ?_|(refine zB [] ?_ ?_<;>intro h<;>try exact zk h)|refine zX [] ?_|refine RunOps.call (by rfl) (by rfl) hp (by rfl) (by rfl) ?_|(refine zE ?_;(skip))|fail)
  refine Yt ?_;exact⟨trivial,rfl,rfl⟩
 |false =>
  refine acall_of_run Yo (fnAt Tryz.func203 (by kernel_rfl) (by kernel_rfl):FnAt _ _ (mkFn Tryz.f203 [])) rfl rfl ?_
  repeat' (first|refine zW [] ?_|(refine zB [] ?_ ?_<;>intro h<;>try exact zk h)|refine zX [] ?_|refine RunOps.call (by rfl) (by rfl) hp (by rfl) (by rfl) ?_|(refine zE ?_;(skip))|fail)
  refine Yt ?_;exact⟨trivial,rfl,rfl⟩
theorem allA (l:List (List Nat)) (hl:l.length<=1099511627776) (F:FuncId) (caps:List AV) (O P:Ob) (p:List Nat->Bool) (hp:∀ x ∈ l,ACall Tryz.prog F (.d (.str x) :: caps) [O,P,.box [.fn (.func F) [] caps]] (.d (.bool (p x))) [O,P,.box [.fn (.func F) [] caps]]) :
  ACall Tryz.prog 120 [.d (strs l),.fn (.func F) [] caps] [O,P] (.d (.bool (l.all p))) [O,P,.box [.fn (.func F) [] caps]]:=by
 have hc:=containsFuncSA l hl 203 [.bp 2 0] [O,P,.box [.fn (.func F) [] caps]] (fun s=>!p s) (fun s hs=>all1A F caps O P s (p s) (hp s hs));have e:l.all p=!(l.any fun s=>!p s):=by rw [List.all_eq_not_any_not]
 rw [e];generalize (l.any fun s=>!p s)=b at hc |-;cases b with
 |true =>
  refine acall_of_run Yo (fnAt Tryz.func120 (by kernel_rfl) (by kernel_rfl):FnAt _ _ (mkFn Tryz.f120 [])) rfl rfl ?_
  repeat' (first|refine zW [] ?_|(refine zB [] ?_ ?_<;>intro h<;>try exact zk h)|refine zX [] ?_|refine RunOps.call (by rfl) (by rfl) hc (by rfl) (by rfl) ?_|(refine zE ?_;(skip))|fail)
  refine Yt ?_;exact⟨trivial,rfl,rfl⟩
 |false =>
  refine acall_of_run Yo (fnAt Tryz.func120 (by kernel_rfl) (by kernel_rfl):FnAt _ _ (mkFn Tryz.f120 [])) rfl rfl ?_
  repeat' (first|refine zW [] ?_|(refine zB [] ?_ ?_<;>intro h<;>try exact zk h)|refine zX [] ?_|refine RunOps.call (by rfl) (by rfl) hc (by rfl) (by rfl) ?_|(refine zE ?_;(skip))|fail)
  refine Yt ?_;exact⟨trivial,rfl,rfl⟩
end Go.Av
end
noncomputable section
namespace Go.Av
open Go Go.Proofs
structure Lx where
 k:Nat
 t:List Nat
 a:Nat
abbrev Fa:=Nat × Nat
abbrev sSemi:List Nat:=[59]
abbrev sComma:List Nat:=[44]
abbrev sEq:List Nat:=[61]
abbrev sBar:List Nat:=[124]
abbrev lx0:Lx:=⟨0,[],0⟩
abbrev src0:Src:=⟨0,[],[],[],[]⟩
def decF (t:List Nat):Nat:=t.foldl (fun n c=>10*n+(c-48)) 0
def numOk (t:List Nat):Bool:=decide (1<=decF t/\decF t<=4)
def isL (t:List Nat):List Lx->Bool
 |x :: _=>decide (x.k=3/\x.t=t)
 |[]=>false
structure RS where
 pos:Nat
 f:Fa
 alts:Nat
 x:Src
def failR (e a:Nat) (r:RS):RS:=if r.f.1=0 then { r with f:=(e,a) } else r
section
variable (s:List Nat) (ls:List Lx)
def peekR (r:RS):Lx × RS:=match ls[r.pos]? with
 |some x=>(x,r)
 |none=>(lx0,failR 5 s.length r)
def takeR (r:RS):Lx × RS:=((peekR s ls r).1,{ (peekR s ls r).2 with pos:=(peekR s ls r).2.pos+1 })
def mustX (k:Nat) (t:List Nat) (p:Lx × RS):RS:=if p.2.f.1=0/\¬ (p.1.k=k/\p.1.t=t) then failR 3 p.1.a p.2 else p.2
def mustR (k:Nat) (t:List Nat) (r:RS):RS:=mustX k t (takeR s ls r)
def nextQ (t:List Nat) (r:RS):Bool × RS:=if r.f.1=0/\isL t (ls.drop r.pos)=true then(true,{ r with pos:=r.pos+1 }) else(false,r)
def nameX (cap:Bool) (p:Lx × RS):List Nat × RS:=(p.1.t,if p.2.f.1≠0 then p.2 else if p.1.k≠1 then failR 3 p.1.a p.2 else if(if cap then capitalF p.1.t else smallF p.1.t)=true then p.2 else failR 12 p.1.a p.2)
def nameR (cap:Bool) (r:RS):List Nat × RS:=nameX cap (takeR s ls r)
def newR (l:List (List Nat)) (t:List Nat) (a:Nat) (r:RS):RS:=if hasF l t=true then failR 8 a r else r
def roomR (n w a:Nat) (r:RS):RS:=if n=w then failR 6 a r else r
def tokenR (r:RS):RS :=
 let p:=peekR s ls r
 let q:=nameR s ls false p.2
 let r2:=roomR q.2.x.tokens.length 8 p.1.a (newR q.2.x.tokens q.1 p.1.a q.2)
 { r2 with x:={ r2.x with tokens:=r2.x.tokens++[q.1] } }
def tokensR:Nat->RS->RS
 |0,r=>r
 |n+1,r=>if r.f.1=0 then(let q:=nextQ ls sComma (tokenR s ls r);if q.1=true then tokensR n q.2 else q.2) else r
def lookR (r:RS):RS :=
 let p:=takeR s ls (mustR s ls 1 wLook r)
 let r1:=if p.2.f.1=0/\p.1.k≠2 then failR 3 p.1.a p.2 else p.2
 let r2:=if r1.f.1=0 then(if numOk p.1.t=true then { r1 with x:={ r1.x with k:=(decF p.1.t:Nat) } } else { failR 2 p.1.a r1 with x:={ r1.x with k:=0 } }) else r1
 mustR s ls 3 sSemi r2
def sepR (r:RS):RS :=
 let p:=peekR s ls (mustR s ls 1 wSep r)
 let q:=nameR s ls false p.2
 let r1:={ q.2 with x:={ q.2.x with sep:=q.1 } }
 mustR s ls 3 sSemi (newR r1.x.tokens q.1 p.1.a r1)
def startR (r:RS):Lx × RS :=
 let p:=peekR s ls (mustR s ls 1 wStart r)
 let q:=nameR s ls true p.2
 (p.1,mustR s ls 3 sSemi { q.2 with x:={ q.2.x with start:=q.1 } })
def headR (r:RS):Lx × RS:=startR s ls (sepR s ls (mustR s ls 3 sSemi (tokensR s ls (ls.length+1) (mustR s ls 1 wToken (lookR s ls r)))))
def wordR (n:Nat) (p:Lx × RS):RS:=roomR n 6 p.1.a (if mayF p.1.t=true then p.2 else failR 12 p.1.a p.2)
def altR:Nat->List (List Nat)->RS->List (List Nat) × RS
 |0,acc,r=>(acc,r)
 |n+1,acc,r=>if r.f.1=0 then(let p:=peekR s ls r;if p.1.k=1 then(let q:=takeR s ls p.2;altR n (acc++[q.1.t]) (wordR acc.length q)) else(acc,p.2)) else(acc,r)
def countR (r:RS):RS:={ roomR r.alts 24 (ls.getD (r.pos-1) lx0).a r with alts:=r.alts+1 }
def oneAltR (r:RS):List (List Nat) × RS:=altR s ls (ls.length+1) [] (countR ls r)
def altsR:Nat->List (List (List Nat))->RS->List (List (List Nat)) × RS
 |0,acc,r=>(acc,r)
 |n+1,acc,r =>
  let p:=oneAltR s ls r
  let q:=nextQ ls sBar p.2
  if q.1=true then altsR n (acc++[p.1]) q.2 else(acc++[p.1],q.2)
def ruleR (r:RS):RS :=
 let p:=peekR s ls r
 let q:=nameR s ls true p.2
 let r1:=if q.2.f.1=0 then newR (ruleNames q.2.x) q.1 p.1.a q.2 else q.2
 let r2:=mustR s ls 3 sEq (roomR r1.x.rules.length 8 p.1.a r1)
 let v:=if r2.f.1=0 then altsR s ls (ls.length+1) [] r2 else([],r2)
 let r3:=mustR s ls 3 sSemi v.2
 { r3 with x:={ r3.x with rules:=r3.x.rules++[⟨q.1,v.1⟩] } }
def rulesR:Nat->Bool->RS->RS
 |0,_,r=>r
 |n+1,first,r=>if r.f.1=0/\(first=true\/r.pos<ls.length) then rulesR n false (ruleR s ls r) else r
def chkU (x:Src) (t:List Nat):Nat:=if t=x.sep then 14 else if hasF (ruleNames x) t=false/\hasF x.tokens t=false then 7 else 0
def knownOneR (x:Lx) (r:RS):RS:=if x.k=1/\chkU r.x x.t≠0 then failR (chkU r.x x.t) x.a r else r
def knownL:List Lx->RS->RS
 |[],r=>r
 |x :: l,r=>knownL l (knownOneR x r)
def knownR (st:Lx) (l:List Lx) (r:RS):RS:=knownL l (if hasF (ruleNames r.x) st.t=false then failR 7 st.a r else r)
def readR:RS :=
 let p:=headR s ls ⟨0,(0,0),0,src0⟩
 let r:=rulesR s ls (ls.length+2) true p.2
 if r.f.1=0 then knownR p.1 (ls.drop p.2.pos) r else r
def resR (r:RS):Src × Fa:=if r.f.1=0 then(r.x,(0,0)) else(src0,r.f)
end
structure PS where
 l:List Lx
 x:Src
 names:List (List Nat × Bool × Bool × Bool)
 uses:List (List Nat × Nat)
 total:Nat
def knowP (l:List (List Nat × Bool × Bool × Bool)) (t:List Nat):Bool × Bool × Bool:=((l.findIdx? (fun p=>p.1 == t)).bind fun i=>(l[i]?).map fun p=>p.2).getD (false,false,false)
def setP (l:List (List Nat × Bool × Bool × Bool)) (t:List Nat) (v:Bool × Bool × Bool):List (List Nat × Bool × Bool × Bool):=match l.findIdx? (fun p=>p.1 == t) with
 |some i=>l.set i (t,v)
 |none=>l++[(t,v)]
section
variable (s:List Nat)
def nextP (p:PS):Except Fa (Lx × PS):=match p.l with
 |[]=>.error (5,s.length)
 |x :: l=>.ok (x,{ p with l:=l })
def wantP (k:Nat) (t:List Nat) (p:PS):Except Fa PS:=(nextP s p).bind fun q=>if q.1.k=k/\q.1.t=t then .ok q.2 else .error (3,q.1.a)
def wordP (may:List Nat->Bool) (p:PS):Except Fa (Lx × PS):=(nextP s p).bind fun q=>if q.1.k≠1 then .error (3,q.1.a) else if may q.1.t=true then .ok q else .error (12,q.1.a)
def terminalP (sep:Bool) (p:PS):Except Fa (List Nat × PS):=(wordP s smallF p).bind fun q =>
 if(knowP q.2.names q.1.t).1=true\/(knowP q.2.names q.1.t).2.1=true then .error (8,q.1.a) else if sep=false/\q.2.x.tokens.length=8 then .error (6,q.1.a)
 else .ok (q.1.t,{ q.2 with names:=setP q.2.names q.1.t (!sep,sep,false) })
def lookP (p:PS):Except Fa PS:=(wantP s 1 wLook p).bind fun p=>(nextP s p).bind fun q=>if q.1.k≠2 then .error (3,q.1.a) else if numOk q.1.t=true then wantP s 3 sSemi { q.2 with x:={ q.2.x with k:=(decF q.1.t:Nat) } } else .error (2,q.1.a)
def tokenP (p:PS):Except Fa PS:=(terminalP s false p).bind fun q=>.ok { q.2 with x:={ q.2.x with tokens:=q.2.x.tokens++[q.1] } }
def tokensLP:Nat->PS->Except Fa PS
 |0,p=>.ok p
 |n+1,p=>if isL sComma p.l=true then(nextP s p).bind fun q=>(tokenP s q.2).bind fun p=>tokensLP n p else .ok p
def tokensP (p:PS):Except Fa PS:=(wantP s 1 wToken p).bind fun p=>(tokenP s p).bind fun p=>(tokensLP s (p.l.length+1) p).bind fun p=>wantP s 3 sSemi p
def sepQ (p:PS):Except Fa PS:=(wantP s 1 wSep p).bind fun p=>(terminalP s true p).bind fun q=>wantP s 3 sSemi { q.2 with x:={ q.2.x with sep:=q.1 } }
def startP (p:PS):Except Fa PS:=(wantP s 1 wStart p).bind fun p=>(wordP s capitalF p).bind fun q=>wantP s 3 sSemi { q.2 with x:={ q.2.x with start:=q.1.t },uses:=q.2.uses++[(q.1.t,q.1.a)] }
def altQ:Nat->List (List Nat)->PS->Except Fa (List (List Nat) × PS)
 |0,acc,p=>.ok (acc,p)
 |n+1,acc,p=>match p.l with
  |[]=>.ok (acc,p)
  |x :: _=>if x.k=1 then(wordP s mayF p).bind fun q=>if acc.length=6 then .error (6,q.1.a) else altQ n (acc++[q.1.t]) { q.2 with uses:=q.2.uses++[(q.1.t,q.1.a)] } else .ok (acc,p)
def oneAltP (p:PS):Except Fa (List (List Nat) × PS):=altQ s (p.l.length+1) [] p
def altsP:Nat->Bool->List (List (List Nat))->PS->Except Fa (List (List (List Nat)) × PS)
 |0,_,acc,p=>.ok (acc,p)
 |n+1,first,acc,p=>if first=false/\isL sBar p.l=false then .ok (acc,p) else(nextP s p).bind fun q =>
  if q.1.k=3/\q.1.t=(if first then sEq else sBar) then(if q.2.total=24 then .error (6,q.1.a) else(oneAltP s { q.2 with total:=q.2.total+1 }).bind fun v=>altsP n false (acc++[v.1]) v.2) else .error (3,q.1.a)
def ruleQ (p:PS):Except Fa PS:=(wordP s capitalF p).bind fun q =>
 if(knowP q.2.names q.1.t).2.2=true then .error (8,q.1.a) else if q.2.x.rules.length=8 then .error (6,q.1.a)
 else(altsP s (q.2.l.length+1) true [] { q.2 with names:=setP q.2.names q.1.t (false,false,true) }).bind fun v=>(wantP s 3 sSemi v.2).bind fun p=>.ok { p with x:={ p.x with rules:=p.x.rules++[⟨q.1.t,v.1⟩] } }
def rulesP:Nat->Bool->PS->Except Fa PS
 |0,_,p=>.ok p
 |n+1,first,p=>if first=true\/0<p.l.length then(ruleQ s p).bind fun p=>rulesP n false p else .ok p
def chkP (names:List (List Nat × Bool × Bool × Bool)) (first:Bool) (t:List Nat):Nat:=if(knowP names t).2.1=true then 14 else if(knowP names t).2.2=false/\(first=true\/(knowP names t).1=false) then 7 else 0
def usedL (names:List (List Nat × Bool × Bool × Bool)):Bool->List (List Nat × Nat)->Except Fa Unit
 |_,[]=>.ok ()
 |first,u :: l=>if chkP names first u.1≠0 then .error (chkP names first u.1,u.2) else usedL names false l
def usedP (p:PS):Except Fa PS:=(usedL p.names true p.uses).bind fun _=>.ok p
def readP (ls:List Lx):Except Fa PS :=
 (lookP s ⟨ls,src0,[],[],0⟩).bind fun p=>(tokensP s p).bind fun p=>(sepQ s p).bind fun p=>(startP s p).bind fun p=>(rulesP s (p.l.length+1) true p).bind fun p=>usedP p
def resP:Except Fa PS->Src × Fa
 |.ok p=>(p.x,(0,0))
 |.error e=>(src0,e)
end
end Go.Av
end
noncomputable section
namespace Go.Av
open Go Go.Proofs
def rulesT:List (Nat × Nat × List Nat):=[(1,1,[83,32,61,32,97,32,83,32,124,32,59]),(1,2,[83,32,61,32,97,32,84,32,124,32,59,32,84,32,61,32,98,32,83,32,59]),(2,2,[83,32,61,32,97,32,84,32,124,32,59,32,84,32,61,32,98,32,83,32,59]),(2,2,[83,32,61,32,97,32,124,32,97,32,98,32,59]),(1,3,[83,32,61,32,97,32,83,32,98,32,124,32,99,32,59]),(1,3,[83,32,61,32,84,32,85,32,59,32,84,32,61,32,97,32,84,32,124,32,59,32,85,32,61,32,98,32,85,32,124,32,99,32,59]),(2,3,[83,32,61,32,97,32,97,32,83,32,124,32,97,32,98,32,124,32,99,32,59]),(1,3,[83,32,61,32,97,32,84,32,99,32,59,32,84,32,61,32,98,32,84,32,124,32,85,32,59,32,85,32,61,32,59]),(2,3,[83,32,61,32,84,32,99,32,124,32,98,32,83,32,59,32,84,32,61,32,98,32,97,32,124,32,59]),(1,2,[83,32,61,32,97,32,83,32,83,32,124,32,98,32,59]),(3,2,[83,32,61,32,97,32,97,32,97,32,124,32,97,32,97,32,98,32,83,32,124,32,98,32,59]),(1,4,[83,32,61,32,97,32,76,32,98,32,59,32,76,32,61,32,69,32,77,32,59,32,77,32,61,32,99,32,69,32,77,32,124,32,59,32,69,32,61,32,100,32,124,32,83,32,59]),(2,2,[83,32,61,32,84,32,84,32,59,32,84,32,61,32,97,32,98,32,124,32,98,32,97,32,59]),(1,1,[83,32,61,32,97,32,59]),(2,3,[83,32,61,32,97,32,84,32,124,32,97,32,98,32,99,32,59,32,84,32,61,32,97,32,124,32,99,32,83,32,59]),(1,2,[83,32,61,32,84,32,85,32,84,32,59,32,84,32,61,32,59,32,85,32,61,32,97,32,85,32,98,32,124,32,59])]
def ruleE (i:Nat):Nat × Nat × List Nat:=rulesT.getD i (0,0,[])
def toksT:Nat->List Nat
 |0=>[]
 |1=>[]
 |j+2=>toksT (j+1)++[44,32]++[97+(j+1)]
def textT (k t:Nat) (s:List Nat):List Nat:=[108,111,111,107,97,104,101,97,100,32]++[48+k]++[59,32,116,111,107,101,110,32,97]++toksT t++[59,32,115,101,112,97,114,97,116,111,114,32,122,59,32,115,116,97,114,116,32,83,59,32]++s
def kTx (m k:Nat):Nat:=if m % 3=2/\k<2 then k+1 else k
def tTx (m t:Nat):Nat:=if m / 3 % 4=3/\t<4 then t+1 else t
def rulesX:List (List SRule):=[[⟨[83],[[[97],[83]],[]]⟩],[⟨[83],[[[97],[84]],[]]⟩,⟨[84],[[[98],[83]]]⟩],[⟨[83],[[[97],[84]],[]]⟩,⟨[84],[[[98],[83]]]⟩],[⟨[83],[[[97]],[[97],[98]]]⟩],[⟨[83],[[[97],[83],[98]],[[99]]]⟩],[⟨[83],[[[84],[85]]]⟩,⟨[84],[[[97],[84]],[]]⟩,⟨[85],[[[98],[85]],[[99]]]⟩],[⟨[83],[[[97],[97],[83]],[[97],[98]],[[99]]]⟩],[⟨[83],[[[97],[84],[99]]]⟩,⟨[84],[[[98],[84]],[[85]]]⟩,⟨[85],[[]]⟩],[⟨[83],[[[84],[99]],[[98],[83]]]⟩,⟨[84],[[[98],[97]],[]]⟩],[⟨[83],[[[97],[83],[83]],[[98]]]⟩],[⟨[83],[[[97],[97],[97]],[[97],[97],[98],[83]],[[98]]]⟩],[⟨[83],[[[97],[76],[98]]]⟩,⟨[76],[[[69],[77]]]⟩,⟨[77],[[[99],[69],[77]],[]]⟩,⟨[69],[[[100]],[[83]]]⟩],[⟨[83],[[[84],[84]]]⟩,⟨[84],[[[97],[98]],[[98],[97]]]⟩],[⟨[83],[[[97]]]⟩],[⟨[83],[[[97],[84]],[[97],[98],[99]]]⟩,⟨[84],[[[97]],[[99],[83]]]⟩],[⟨[83],[[[84],[85],[84]]]⟩,⟨[84],[[]]⟩,⟨[85],[[[97],[85],[98]],[]]⟩]]
def toksN (t:Nat):List (List Nat):=(List.range t).map fun j=>[97+j]
def srcT (k t i:Nat):Src:=⟨(k:Nat),toksN t,[122],[83],rulesX.getD i []⟩
end Go.Av
end
noncomputable section
namespace Go.Av
open Go Go.Proofs
set_option maxRecDepth 10000
theorem vU8 {n:Nat} (h:n<256):AV.d (.int .u8 (IntKind.u8.wrap (n:Int)))=.d (.int .u8 (n:Int)):=by
 have:IntKind.u8.wrap (n:Int)=n:=by unfold IntKind.wrap;simp [IntKind.bits,IntKind.signed];omega
 rw [this]
def rgtD (l:List Int):List DV:=l.map (.int .i64)
def rowN:List Int->DV
 |[]=>.nilsl
 |a :: l=>ints (a :: l)
def encN (p:GProd):DV:=.agg [.int .i64 p.left,rowN p.right]
def psI (p:GProd):Nat:=match p.right with|[]=>4|_ :: _=>5
def psA:List GProd->AV
 |[]=>.d .nilsl
 |p :: l=>.sr (psI p) 2 (encN p :: l.map encN)
def psO:List GProd->List Ob
 |[]=>[]
 |p :: l=>.box [.d (.int .i64 p.left),rowA 4 1 (rgtD p.right)] :: (rowO 1 (rgtD p.right)++[.room (l.length+1) 2])
end Go.Av
end
noncomputable section
namespace Go.Av
open Go Go.Proofs
set_option maxRecDepth 10000
def blankI (c:Int):Bool:=(c == 32) || (c == 9) || (c == 10) || (c == 13)
def signI (c:Int):Bool:=(c == 61) || (c == 124) || (c == 59) || (c == 44)
def letterI (c:Int):Bool:=(decide (97<=c) && decide (c<=122)) || (decide (65<=c) && decide (c<=90))
def digitI (c:Int):Bool:=decide (48<=c) && decide (c<=57)
theorem blank4 (c:Int):KnownCall Tryz.prog 254 [.int .u8 c] (.d (.bool (blankI c))):=by
 refine knownE Yo (fnAt Tryz.func254 (by kernel_rfl) (by kernel_rfl):FnAt _ _ (mkFn Tryz.f254 [])) ?_
 repeat' (first|refine zW [] ?_|(refine zB [] ?_ ?_<;>intro h<;>try exact zk h)|refine zX [] ?_|(refine zE ?_;((refine congrArg (fun b=>AV.d (.bool b)) ?_;simp_all [blankI])))|fail)
theorem sign4 (c:Int):KnownCall Tryz.prog 255 [.int .u8 c] (.d (.bool (signI c))):=by
 refine knownE Yo (fnAt Tryz.func255 (by kernel_rfl) (by kernel_rfl):FnAt _ _ (mkFn Tryz.f255 [])) ?_
 repeat' (first|refine zW [] ?_|(refine zB [] ?_ ?_<;>intro h<;>try exact zk h)|refine zX [] ?_|(refine zE ?_;((refine congrArg (fun b=>AV.d (.bool b)) ?_;simp_all [signI])))|fail)
theorem letter4 (c:Int):KnownCall Tryz.prog 256 [.int .u8 c] (.d (.bool (letterI c))):=by
 refine knownE Yo (fnAt Tryz.func256 (by kernel_rfl) (by kernel_rfl):FnAt _ _ (mkFn Tryz.f256 [])) ?_
 repeat' (first|refine zW [] ?_|(refine zB [] ?_ ?_<;>intro h<;>try exact zk h)|refine zX [] ?_|(refine zE ?_;((refine congrArg (fun b=>AV.d (.bool b)) ?_;simp_all [letterI]<;>omega)))|fail)
theorem digit4 (c:Int):KnownCall Tryz.prog 257 [.int .u8 c] (.d (.bool (digitI c))):=by
 refine knownE Yo (fnAt Tryz.func257 (by kernel_rfl) (by kernel_rfl):FnAt _ _ (mkFn Tryz.f257 [])) ?_
 repeat' (first|refine zW [] ?_|(refine zB [] ?_ ?_<;>intro h<;>try exact zk h)|refine zX [] ?_|(refine zE ?_;((refine congrArg (fun b=>AV.d (.bool b)) ?_;simp_all [digitI]<;>omega)))|fail)
def passM:Bool->List Nat->Nat
 |_,[]=>0
 |true,c :: l=>1+passM (decide (c≠10)) l
 |false,c :: l=>if blankI c then 1+passM false l else if c=35 then 1+passM true l else 0
theorem passM_le:∀ (b:Bool) (l:List Nat),passM b l<=l.length
 |true,[]=>Nat.le_refl _
 |false,[]=>Nat.le_refl _
 |true,c :: l=>by have:=passM_le (decide (c≠10)) l;simp only [passM,List.length_cons];omega
 |false,c :: l=>by
  have h1:=passM_le false l;have h2:=passM_le true l;simp only [passM,List.length_cons];split
  .omega
  .split<;>omega
theorem drop_cons {s:List Nat} {i c:Nat} (h:s[i]?=some c):s.drop i=c :: s.drop (i+1):=by
 obtain⟨h1,h2⟩:=List.getElem?_eq_some_iff.1 h;rw [List.drop_eq_getElem_cons h1,h2]
theorem pass4 (s:List Nat) (at0:Nat) (hl:s.length<=1048576) (ha:at0<=s.length):KnownCall Tryz.prog 230 [.str s,.int .i64 (at0:Nat)] (.d (.int .i64 ((at0+passM false (s.drop at0):Nat):Int))):=by
 refine knownE Yo (fnAt Tryz.func230 (by kernel_rfl) (by kernel_rfl):FnAt _ _ (mkFn Tryz.f230 [])) ?_
 repeat' (first|refine zW [] ?_|(refine zB [] ?_ ?_<;>intro h<;>try exact zk h)|refine zX [] ?_|(refine zE ?_;(skip))|fail)
 refine Run.loop (fun i:Nat=>⟨PT.ofList [(0,.d (.str s)),(1,.d (.int .i64 (i:Nat)))],[],[]⟩) (fun i=>i<=s.length/\i+passM false (s.drop i)=at0+passM false (s.drop at0)) (fun i=>s.length-i) at0 ⟨ha,rfl⟩ (weak_of (by repeat' (first|exact trivial|refine⟨rfl,?_⟩))) (fun i hi=>?_);obtain⟨hi1,hi2⟩:=hi;rcases Nat.lt_or_ge i s.length with hlt|hge
 .obtain⟨c,hc⟩:=get_ok hlt
  have hd:=drop_cons hc;have cb:=blank4 (c:Nat);cases hb:blankI (c:Nat) with
  |true =>
   rw [hb] at cb;have hn:i+1+passM false (s.drop (i+1))=at0+passM false (s.drop at0):=by rw [<- hi2,hd,passM,if_pos hb];omega
   repeat' (first|refine zW [] ?_|(refine zB [] ?_ ?_<;>intro h<;>try exact zk h)|refine zX [] ?_|refine oX (frz:=[]) (v:=.d (.int .u8 (c:Nat))) Yo ?_ (hf:=by simp [inB];omega) (he:=by simp [List.getD_eq_getElem?_getD,hc])|refine zC (cb) ?_|(refine zE ?_;(skip))|(exact⟨i+1,⟨hlt,hn⟩,by omega,weak_of (by repeat' (first|exact trivial|refine⟨rfl,?_⟩|refine⟨(inc_get (k:=i) (by kernel_rfl) (by omega)),?_⟩))⟩)|((exfalso;(simp at h<;>omega)))|fail)
  |false =>
   rw [hb] at cb;by_cases h35:c=35
   .subst h35
    have hX:i+passM true (s.drop i)=at0+passM false (s.drop at0):=by rw [<- hi2,hd];simp [passM,blankI]
    clear hi2;generalize at0+passM false (s.drop at0)=X at hX |-
    repeat' (first|refine zW [] ?_|(refine zB [] ?_ ?_<;>intro h<;>try exact zk h)|refine zX [] ?_|refine oX (frz:=[]) (v:=.d (.int .u8 ((35:Nat):Int))) Yo ?_ (hf:=by simp [inB];omega) (he:=by simp [List.getD_eq_getElem?_getD,hc])|refine zC (cb) ?_|(refine zE ?_;(skip))|((exfalso;(simp at h<;>omega)))|fail)
    refine Run.loop (fun j:Nat=>⟨PT.ofList [(0,.d (.str s)),(1,.d (.int .i64 (j:Nat)))],[],[]⟩) (fun j=>i<=j/\j<=s.length/\j+passM true (s.drop j)=X) (fun j=>s.length-j) i ⟨Nat.le_refl _,hi1,hX⟩ (weak_of (by repeat' (first|exact trivial|refine⟨rfl,?_⟩))) (fun j hj=>?_);obtain⟨hj1,hj2,hj3⟩:=hj;rcases Nat.lt_or_ge j s.length with hjl|hjg
    .obtain⟨e,he⟩:=get_ok hjl
     have hde:=drop_cons he;by_cases h10:e=10
     .subst h10
      have hij:i≠j:=fun h=>by subst h;rw [hc] at he;cases he
      have hX2:j+passM false (s.drop j)=X:=by rw [<- hj3,hde];simp [passM,blankI]
      repeat' (first|refine zW [] ?_|(refine zB [] ?_ ?_<;>intro h<;>try exact zk h)|refine zX [] ?_|refine oX (frz:=[]) (v:=.d (.int .u8 ((10:Nat):Int))) Yo ?_ (hf:=by simp [inB];omega) (he:=by simp [List.getD_eq_getElem?_getD,he])|(refine zE ?_;(skip))|(exact⟨j,⟨hj2,hX2⟩,by omega,weak_of (by repeat' (first|exact trivial|refine⟨rfl,?_⟩))⟩)|((exfalso;(simp at h<;>omega)))|fail)
     .have hX2:j+1+passM true (s.drop (j+1))=X:=by rw [<- hj3,hde];simp [passM,h10];omega
      repeat' (first|refine zW [] ?_|(refine zB [] ?_ ?_<;>intro h<;>try exact zk h)|refine zX [] ?_|refine oX (frz:=[]) (v:=.d (.int .u8 (e:Nat))) Yo ?_ (hf:=by simp [inB];omega) (he:=by simp [List.getD_eq_getElem?_getD,he])|(refine zE ?_;(skip))|(exact⟨j+1,⟨by omega,hjl,hX2⟩,by omega,weak_of (by repeat' (first|exact trivial|refine⟨rfl,?_⟩|refine⟨(inc_get (k:=j) (by kernel_rfl) (by omega)),?_⟩))⟩)|((exfalso;(simp at h<;>omega)))|fail)
    .have hje:j=s.length:=by omega
     subst hje;have hX2:s.length+passM false (s.drop s.length)=X:=by rw [<- hj3,List.drop_length];rfl
     repeat' (first|refine zW [] ?_|(refine zB [] ?_ ?_<;>intro h<;>try exact zk h)|refine zX [] ?_|(refine zE ?_;(skip))|(exact⟨s.length,⟨Nat.le_refl _,hX2⟩,by omega,weak_of (by repeat' (first|exact trivial|refine⟨rfl,?_⟩))⟩)|((exfalso;(simp at h<;>omega)))|fail)
   .rw [show at0+passM false (s.drop at0)=i by rw [<- hi2,hd,passM,if_neg (by rw [hb];simp),if_neg h35,Nat.add_zero]]
    repeat' (first|refine zW [] ?_|(refine zB [] ?_ ?_<;>intro h<;>try exact zk h)|refine zX [] ?_|refine oX (frz:=[]) (v:=.d (.int .u8 (c:Nat))) Yo ?_ (hf:=by simp [inB];omega) (he:=by simp [List.getD_eq_getElem?_getD,hc])|refine zC (cb) ?_|(refine zE ?_;(rfl))|((exfalso;(simp at h<;>omega)))|fail)
 .have hie:i=s.length:=by omega
  subst hie;have hz:passM false (s.drop s.length)=0:=by rw [List.drop_length];rfl
  rw [<- hi2,hz,Nat.add_zero]
  repeat' (first|refine zW [] ?_|(refine zB [] ?_ ?_<;>intro h<;>try exact zk h)|refine zX [] ?_|(refine zE ?_;(rfl))|((exfalso;(simp at h<;>omega)))|fail)
end Go.Av
end
noncomputable section
namespace Go.Av
open Go Go.Proofs
set_option maxRecDepth 10000
def wordI (c:Int):Bool:=letterI c || digitI c || (c == 95)
def runL (p:Int->Bool):List Nat->Nat
 |[]=>0
 |c :: l=>if p c then 1+runL p l else 0
theorem runL_le (p:Int->Bool):∀ l,runL p l<=l.length
 |[]=>Nat.le_refl _
 |c :: l=>by have:=runL_le p l;simp only [runL,List.length_cons];split<;>omega
abbrev lexD (k:Nat) (t:List Nat) (a:Nat):DV:=.agg [.int .i64 (k:Nat),.str t,.int .i64 (a:Nat)]
def endI (c:Int):Bool:=letterI c || (c == 95)
def beginsF:List Nat->Nat × List Nat
 |[]=>(0,[])
 |c :: l=>if signI c then(3,[c]) else if letterI c then(1,(c :: l).take (1+runL wordI l)) else if digitI c then
   (if(c=48/\1<1+runL digitI l)\/(∃ e,(c :: l)[1+runL digitI l]?=some e/\endI e=true) then(0,[]) else(2,(c :: l).take (1+runL digitI l))) else(0,[])
set_option maxHeartbeats 2000000 in
theorem begins4 (c:Nat) (l:List Nat) (hl:(c :: l).length<=1048576):KnownCall Tryz.prog 231 [.str (c :: l)] (.d (lexD (beginsF (c :: l)).1 (beginsF (c :: l)).2 0)):=by
 have c1:=sign4 (c:Nat);have c2:=letter4 (c:Nat);have c3:=digit4 (c:Nat);have hx0:(c :: l)[0]?=some c:=rfl;cases h1:signI (c:Nat) with
 |true =>
  rw [h1] at c1;rw [show beginsF (c :: l)=(3,[c]) by simp [beginsF,h1]];refine knownE Yo (fnAt Tryz.func231 (by kernel_rfl) (by kernel_rfl):FnAt _ _ (mkFn Tryz.f231 [])) ?_
  repeat' (first|refine zW [] ?_|(refine zB [] ?_ ?_<;>intro h<;>try exact zk h)|refine zX [] ?_|refine oI (frz:=[]) (v:=.d (.int .u8 (c:Nat))) ?_ (he:=by first|(simp [gD,hx0]<;>fail)|fail)|refine zC (c1) ?_|refine oX (frz:=[]) Yo ?_ (hf:=(by first|(simp [cutC]<;>fail)|(simp [cutC];omega)))|refine eX ?_ (hf:=(by first|(simp [cutC]<;>fail)|(simp [cutC];omega)))|(refine zE ?_;(rfl))|((exfalso;first|(simp at h<;>fail)|(simp at h;omega)|(simp_all [wordI]<;>fail)))|fail)
 |false =>
  rw [h1] at c1;cases h2:letterI (c:Nat) with
  |true =>
   rw [h2] at c2;rw [show beginsF (c :: l)=(1,(c :: l).take (1+runL wordI l)) by simp [beginsF,h1,h2]];obtain⟨X,hX⟩:∃ X,X=1+runL wordI l:=⟨_,rfl⟩
   rw [<- hX];generalize hs:c :: l=s at *;have hX0:1+runL wordI (s.drop 1)=X:=by rw [hX,<- hs];rfl
   have hl1:1<=s.length:=by rw [<- hs];simp
   refine knownE Yo (fnAt Tryz.func231 (by kernel_rfl) (by kernel_rfl):FnAt _ _ (mkFn Tryz.f231 [])) ?_
   repeat' (first|refine zW [] ?_|(refine zB [] ?_ ?_<;>intro h<;>try exact zk h)|refine zX [] ?_|refine oI (frz:=[]) (v:=.d (.int .u8 (c:Nat))) ?_ (he:=by first|(simp [gD,hx0]<;>fail)|fail)|refine zC (c1) ?_|refine zC (c2) ?_|(refine zE ?_;(skip))|((exfalso;first|(simp at h<;>fail)|(simp at h;omega)|(simp_all [wordI]<;>fail)))|fail)
   refine Run.loop (fun j:Nat=>⟨PT.ofList [(0,.d (.str s)),(2,.bp 0 0),(3,.d (.int .i64 (j:Nat)))],[.box [.d (.int .i64 0),.d (.str []),.d (.int .i64 0)]],[]⟩) (fun j=>1<=j/\j<=s.length/\j+runL wordI (s.drop j)=X) (fun j=>s.length-j) 1 ⟨Nat.le_refl _,hl1,hX0⟩ (weak_of (by repeat' (first|exact trivial|refine⟨rfl,?_⟩))) (fun j hj=>?_);obtain⟨hj1,hj2,hj3⟩:=hj;rcases Nat.lt_or_ge j s.length with hjl|hjg
   .obtain⟨e,he⟩:=get_ok hjl
    have hde:=drop_cons he;have d2:=letter4 (e:Nat);have d3:=digit4 (e:Nat);rw [hde,runL] at hj3;cases hw:wordI (e:Nat) with
    |true =>
     rw [if_pos hw] at hj3
     repeat' (first|refine zW [] ?_|(refine zB [] ?_ ?_<;>intro h<;>try exact zk h)|refine zX [] ?_|refine oI (frz:=[]) (v:=.d (.int .u8 (e:Nat))) ?_ (he:=by first|(simp [gD,he]<;>fail)|fail)|(refine zK (d2) ?_ ?_<;>intro h<;>try exact zk h)|refine zC (d2) ?_|(refine zK (d3) ?_ ?_<;>intro h<;>try exact zk h)|refine zC (d3) ?_|(refine zE ?_;(skip))|(exact⟨j+1,⟨by omega,hjl,by omega⟩,by omega,weak_of (by repeat' (first|exact trivial|refine⟨rfl,?_⟩|refine⟨(inc_get (k:=j) (by kernel_rfl) (by omega)),?_⟩))⟩)|((exfalso;first|(simp at h<;>fail)|(simp at h;omega)|(simp_all [wordI]<;>fail)))|fail)
    |false =>
     rw [hw] at hj3;have hjX:j=X:=by simpa using hj3
     subst hjX
     repeat' (first|refine zW [] ?_|(refine zB [] ?_ ?_<;>intro h<;>try exact zk h)|refine zX [] ?_|refine oI (frz:=[]) (v:=.d (.int .u8 (e:Nat))) ?_ (he:=by first|(simp [gD,he]<;>fail)|fail)|(refine zK (d2) ?_ ?_<;>intro h<;>try exact zk h)|refine zC (d2) ?_|(refine zK (d3) ?_ ?_<;>intro h<;>try exact zk h)|refine zC (d3) ?_|refine oX (frz:=[]) Yo ?_ (hf:=(by first|(simp [cutC]<;>fail)|(simp [cutC];omega)))|refine eX ?_ (hf:=(by first|(simp [cutC]<;>fail)|(simp [cutC];omega)))|(refine zE ?_;(rfl))|((exfalso;first|(simp at h<;>fail)|(simp at h;omega)|(simp_all [wordI]<;>fail)))|fail)
   .have hje:j=X:=by rw [List.drop_eq_nil_of_le hjg] at hj3;simpa [runL] using hj3
    subst hje
    repeat' (first|refine zW [] ?_|(refine zB [] ?_ ?_<;>intro h<;>try exact zk h)|refine zX [] ?_|refine oX (frz:=[]) Yo ?_ (hf:=(by first|(simp [cutC]<;>fail)|(simp [cutC];omega)))|refine eX ?_ (hf:=(by first|(simp [cutC]<;>fail)|(simp [cutC];omega)))|(refine zE ?_;(rfl))|((exfalso;first|(simp at h<;>fail)|(simp at h;omega)|(simp_all [wordI]<;>fail)))|fail)
  |false =>
   rw [h2] at c2;cases h3:digitI (c:Nat) with
   |false =>
    rw [h3] at c3;rw [show beginsF (c :: l)=(0,[]) by simp [beginsF,h1,h2,h3]];refine knownE Yo (fnAt Tryz.func231 (by kernel_rfl) (by kernel_rfl):FnAt _ _ (mkFn Tryz.f231 [])) ?_
    repeat' (first|refine zW [] ?_|(refine zB [] ?_ ?_<;>intro h<;>try exact zk h)|refine zX [] ?_|refine oI (frz:=[]) (v:=.d (.int .u8 (c:Nat))) ?_ (he:=by first|(simp [gD,hx0]<;>fail)|fail)|refine zC (c1) ?_|refine zC (c2) ?_|refine zC (c3) ?_|(refine zE ?_;(rfl))|((exfalso;first|(simp at h<;>fail)|(simp at h;omega)|(simp_all [endI]<;>fail)|(simp_all [endI];omega)))|fail)
   |true =>
    rw [h3] at c3;obtain⟨R,hR⟩:∃ R:Nat × List Nat,R=if(c=48/\1<1+runL digitI l)\/(∃ e,(c :: l)[1+runL digitI l]?=some e/\endI e=true) then(0,[]) else(2,(c :: l).take (1+runL digitI l)):=⟨_,rfl⟩
    rw [show beginsF (c :: l)=R by rw [hR];simp only [beginsF,h1,h2,h3];rfl];obtain⟨X,hX⟩:∃ X,X=1+runL digitI l:=⟨_,rfl⟩
    rw [<- hX] at hR;generalize hs:c :: l=s at *;have hX0:1+runL digitI (s.drop 1)=X:=by rw [hX,<- hs];rfl
    have hl1:1<=s.length:=by rw [<- hs];simp
    clear hX;refine knownE Yo (fnAt Tryz.func231 (by kernel_rfl) (by kernel_rfl):FnAt _ _ (mkFn Tryz.f231 [])) ?_
    repeat' (first|refine zW [] ?_|(refine zB [] ?_ ?_<;>intro h<;>try exact zk h)|refine zX [] ?_|refine oI (frz:=[]) (v:=.d (.int .u8 (c:Nat))) ?_ (he:=by first|(simp [gD,hx0]<;>fail)|fail)|refine zC (c1) ?_|refine zC (c2) ?_|refine zC (c3) ?_|(refine zE ?_;(skip))|((exfalso;first|(simp at h<;>fail)|(simp at h;omega)|(simp_all [endI]<;>fail)|(simp_all [endI];omega)))|fail)
    refine Run.loop (fun j:Nat=>⟨PT.ofList [(0,.d (.str s)),(2,.bp 0 0),(3,.d (.int .i64 (j:Nat)))],[.box [.d (.int .i64 0),.d (.str []),.d (.int .i64 0)]],[]⟩) (fun j=>1<=j/\j<=s.length/\j+runL digitI (s.drop j)=X) (fun j=>s.length-j) 1 ⟨Nat.le_refl _,hl1,hX0⟩ (weak_of (by repeat' (first|exact trivial|refine⟨rfl,?_⟩))) (fun j hj=>?_);obtain⟨hj1,hj2,hj3⟩:=hj;rcases Nat.lt_or_ge j s.length with hjl|hjg
    .obtain⟨e,he⟩:=get_ok hjl
     have hde:=drop_cons he;have d2:=letter4 (e:Nat);have d3:=digit4 (e:Nat);rw [hde,runL] at hj3;cases hw:digitI (e:Nat) with
     |true =>
      rw [if_pos hw] at hj3;rw [hw] at d3
      repeat' (first|refine zW [] ?_|(refine zB [] ?_ ?_<;>intro h<;>try exact zk h)|refine zX [] ?_|refine oI (frz:=[]) (v:=.d (.int .u8 (e:Nat))) ?_ (he:=by first|(simp [gD,he]<;>fail)|fail)|refine zC (d3) ?_|(refine zE ?_;(skip))|(exact⟨j+1,⟨by omega,hjl,by omega⟩,by omega,weak_of (by repeat' (first|exact trivial|refine⟨rfl,?_⟩|refine⟨(inc_get (k:=j) (by kernel_rfl) (by omega)),?_⟩))⟩)|((exfalso;first|(simp at h<;>fail)|(simp at h;omega)|(simp_all [endI]<;>fail)|(simp_all [endI];omega)))|fail)
     |false =>
      rw [hw] at hj3 d3;have hjX:j=X:=by simpa using hj3
      subst hjX;by_cases hz:c=48/\1<j
      .rw [if_pos (.inl hz)] at hR
       subst hR;obtain⟨hz1,hz2⟩:=hz;subst hz1
       repeat' (first|refine zW [] ?_|(refine zB [] ?_ ?_<;>intro h<;>try exact zk h)|refine zX [] ?_|refine oI (frz:=[]) (v:=.d (.int .u8 (e:Nat))) ?_ (he:=by first|(simp [gD,he]<;>fail)|fail)|refine oI (frz:=[]) (v:=.d (.int .u8 ((48:Nat):Int))) ?_ (he:=by first|(simp [gD,hx0]<;>fail)|fail)|refine zC (d3) ?_|(refine zE ?_;(rfl))|((exfalso;first|(simp at h<;>fail)|(simp at h;omega)|(simp_all [endI]<;>fail)|(simp_all [endI];omega)))|fail)
      .cases hE:endI (e:Nat) with
       |true =>
        rw [if_pos (.inr ⟨e,he,hE⟩)] at hR;subst hR
        repeat' (first|refine zW [] ?_|(refine zB [] ?_ ?_<;>intro h<;>try exact zk h)|refine zX [] ?_|refine oI (frz:=[]) (v:=.d (.int .u8 (e:Nat))) ?_ (he:=by first|(simp [gD,he]<;>fail)|fail)|refine oI (frz:=[]) (v:=.d (.int .u8 (c:Nat))) ?_ (he:=by first|(simp [gD,hx0]<;>fail)|fail)|refine zC (d3) ?_|(refine zK (d2) ?_ ?_<;>intro h<;>try exact zk h)|refine zC (d2) ?_|(refine zE ?_;(rfl))|((exfalso;first|(simp at h<;>fail)|(simp at h;omega)|(simp_all [endI]<;>fail)|(simp_all [endI];omega)))|fail)
       |false =>
        rw [if_neg (fun h=>h.elim hz (fun⟨e',h1,h2⟩=>by rw [he] at h1;cases h1;rw [hE] at h2;cases h2))] at hR;subst hR
        repeat' (first|refine zW [] ?_|(refine zB [] ?_ ?_<;>intro h<;>try exact zk h)|refine zX [] ?_|refine oI (frz:=[]) (v:=.d (.int .u8 (e:Nat))) ?_ (he:=by first|(simp [gD,he]<;>fail)|fail)|refine oI (frz:=[]) (v:=.d (.int .u8 (c:Nat))) ?_ (he:=by first|(simp [gD,hx0]<;>fail)|fail)|refine zC (d3) ?_|(refine zK (d2) ?_ ?_<;>intro h<;>try exact zk h)|refine zC (d2) ?_|refine oX (frz:=[]) Yo ?_ (hf:=(by first|(simp [cutC]<;>fail)|(simp [cutC];omega)))|refine eX ?_ (hf:=(by first|(simp [cutC]<;>fail)|(simp [cutC];omega)))|(refine zE ?_;(rfl))|((exfalso;first|(simp at h<;>fail)|(simp at h;omega)|(simp_all [endI]<;>fail)|(simp_all [endI];omega)))|fail)
    .have hje:j=X:=by rw [List.drop_eq_nil_of_le hjg] at hj3;simpa [runL] using hj3
     subst hje;have hjn:s[j]?=none:=List.getElem?_eq_none hjg;by_cases hz:c=48/\1<j
     .rw [if_pos (.inl hz)] at hR
      subst hR;obtain⟨hz1,hz2⟩:=hz;subst hz1
      repeat' (first|refine zW [] ?_|(refine zB [] ?_ ?_<;>intro h<;>try exact zk h)|refine zX [] ?_|refine oI (frz:=[]) (v:=.d (.int .u8 ((48:Nat):Int))) ?_ (he:=by first|(simp [gD,hx0]<;>fail)|fail)|(refine zE ?_;(rfl))|((exfalso;first|(simp at h<;>fail)|(simp at h;omega)|(simp_all [endI]<;>fail)|(simp_all [endI];omega)))|fail)
     .rw [if_neg (fun h=>h.elim hz (fun⟨e',h1,_⟩=>by rw [hjn] at h1;cases h1))] at hR
      subst hR
      repeat' (first|refine zW [] ?_|(refine zB [] ?_ ?_<;>intro h<;>try exact zk h)|refine zX [] ?_|refine oI (frz:=[]) (v:=.d (.int .u8 (c:Nat))) ?_ (he:=by first|(simp [gD,hx0]<;>fail)|fail)|refine oX (frz:=[]) Yo ?_ (hf:=(by first|(simp [cutC]<;>fail)|(simp [cutC];omega)))|refine eX ?_ (hf:=(by first|(simp [cutC]<;>fail)|(simp [cutC];omega)))|(refine zE ?_;(rfl))|((exfalso;first|(simp at h<;>fail)|(simp at h;omega)|(simp_all [endI]<;>fail)|(simp_all [endI];omega)))|fail)
end Go.Av
end
noncomputable section
namespace Go.Av
open Go Go.Proofs
set_option maxRecDepth 10000
theorem beginsF_cases (c:Nat) (l:List Nat):beginsF (c :: l)=(0,[])\/∃ k n,k≠0/\beginsF (c :: l)=(k,(c :: l).take (n+1)):=by
 have e:beginsF (c :: l)=if signI c then(3,[c]) else if letterI c then(1,(c :: l).take (1+runL wordI l)) else if digitI c then
   (if(c=48/\1<1+runL digitI l)\/(∃ e,(c :: l)[1+runL digitI l]?=some e/\endI e=true) then(0,[]) else(2,(c :: l).take (1+runL digitI l))) else(0,[]):=rfl
 rw [e];by_cases h1:signI c=true
 .rw [if_pos h1];exact .inr ⟨3,0,by omega,rfl⟩
 .rw [if_neg h1]
  by_cases h2:letterI c=true
  .rw [if_pos h2];exact .inr ⟨1,runL wordI l,by omega,by rw [Nat.add_comm]⟩
  .rw [if_neg h2]
   by_cases h3:digitI c=true
   .rw [if_pos h3]
    by_cases h4:(c=48/\1<1+runL digitI l)\/(∃ e,(c :: l)[1+runL digitI l]?=some e/\endI e=true)
    .rw [if_pos h4];exact .inl rfl
    .rw [if_neg h4];exact .inr ⟨2,runL digitI l,by omega,by rw [Nat.add_comm]⟩
   .rw [if_neg h3];exact .inl rfl
theorem beginsF_len:∀ s:List Nat,(beginsF s).2.length<=s.length
 |[]=>Nat.le_refl _
 |c :: l=>by
  rcases beginsF_cases c l with h|⟨k,n,_,h⟩<;>rw [h]
  .simp
  .simp only [List.length_take];omega
theorem beginsF_pos {c:Nat} {l:List Nat} (h:(beginsF (c :: l)).1≠0):1<=(beginsF (c :: l)).2.length:=by
 rcases beginsF_cases c l with h'|⟨k,n,_,h'⟩<;>rw [h'] at h |-
 .simp at h
 .simp only [List.length_take,List.length_cons];omega
abbrev faultD (c a:Nat):DV:=.agg [.int .i64 (c:Nat),.int .i64 (a:Nat)]
def atF4 (s:List Nat) (a:Nat):Nat:=a+passM false (s.drop a)
theorem atF4_le {s:List Nat} {a:Nat} (h:a<=s.length):atF4 s a<=s.length:=by
 have:=passM_le false (s.drop a);unfold atF4;rw [List.length_drop] at this;omega
def nextT (s:List Nat) (a:Nat):List AV :=
 if atF4 s a=s.length then [.d (lexD 0 [] 0),.d (.int .i64 (0:Nat)),.d (faultD 5 (atF4 s a))]
 else if(beginsF (s.drop (atF4 s a))).1=0 then [.d (lexD 0 [] 0),.d (.int .i64 (0:Nat)),.d (faultD 3 (atF4 s a))]
 else [.d (lexD (beginsF (s.drop (atF4 s a))).1 (beginsF (s.drop (atF4 s a))).2 (atF4 s a)),.d (.int .i64 ((atF4 s a+(beginsF (s.drop (atF4 s a))).2.length:Nat):Int)),.d (faultD 0 0)]
theorem next4 (s:List Nat) (a:Nat) (hl:s.length<=1048576) (ha:a<=s.length):KnownCall Tryz.prog 188 [.str s,.int .i64 (a:Nat)] (.tup (nextT s a)):=by
 have cp:=pass4 s a hl ha;have hle:=atF4_le ha;unfold nextT;rw [show a+passM false (s.drop a)=atF4 s a from rfl] at cp;generalize atF4 s a=p at cp hle |-;by_cases hp:p=s.length
 .rw [if_pos hp]
  subst hp;refine knownE Yo (fnAt Tryz.func188 (by kernel_rfl) (by kernel_rfl):FnAt _ _ (mkFn Tryz.f188 [])) ?_
  repeat' (first|refine zW [] ?_|(refine zB [] ?_ ?_<;>intro h<;>try exact zk h)|refine zX [] ?_|refine zC (cp) ?_|(refine zE ?_;(rfl))|((exfalso;first|(simp at h<;>fail)|(simp at h;omega)))|fail)
 .rw [if_neg hp]
  obtain⟨c,hc⟩:=get_ok (show p<s.length by omega);have hd:=drop_cons hc;have cb:KnownCall Tryz.prog 231 [.str (s.drop p)] (.d (lexD (beginsF (s.drop p)).1 (beginsF (s.drop p)).2 0)):=by
   have hdl:(s.drop p).length<=1048576:=by rw [List.length_drop];omega
   rw [hd] at hdl |-;exact begins4 c _ hdl
  have hbl:=beginsF_len (s.drop p);rw [List.length_drop] at hbl;generalize beginsF (s.drop p)=b at cb hbl |-;obtain⟨k,t⟩:=b;simp only at cb hbl |-;have hadd:AV.d (.int .i64 (IntKind.i64.wrap ((p:Int)+(t.length:Int))))=.d (.int .i64 ((p+t.length:Nat):Int)):=vN8 (by omega) (by omega);by_cases hk:k=0
  .rw [if_pos hk]
   subst hk;refine knownE Yo (fnAt Tryz.func188 (by kernel_rfl) (by kernel_rfl):FnAt _ _ (mkFn Tryz.f188 [])) ?_
   repeat' (first|refine zW [] ?_|(refine zB [] ?_ ?_<;>intro h<;>try exact zk h)|refine zX [] ?_|refine zC (cp) ?_|refine zC (cb) ?_|refine oX (frz:=[]) Yo ?_ (hf:=(by first|(simp [cutC]<;>fail)|(simp [cutC];omega)))|refine eX ?_ (hf:=(by first|(simp [cutC]<;>fail)|(simp [cutC];omega)))|(refine zE ?_;(rfl))|((exfalso;first|(simp at h<;>fail)|(simp at h;omega)))|fail)
  .rw [if_neg hk]
   refine knownE Yo (fnAt Tryz.func188 (by kernel_rfl) (by kernel_rfl):FnAt _ _ (mkFn Tryz.f188 [])) ?_
   repeat' (first|refine oX (frz:=[]) (v:=.d (.int .i64 ((p+t.length:Nat):Int))) Yo ?_ (he:=(hadd))|refine eX (v:=.d (.int .i64 ((p+t.length:Nat):Int))) ?_ (he:=(hadd))|refine zW [] ?_|(refine zB [] ?_ ?_<;>intro h<;>try exact zk h)|refine zX [] ?_|refine zC (cp) ?_|refine zC (cb) ?_|refine oX (frz:=[]) Yo ?_ (hf:=(by first|(simp [cutC]<;>fail)|(simp [cutC];omega)))|refine eX ?_ (hf:=(by first|(simp [cutC]<;>fail)|(simp [cutC];omega)))|(refine zE ?_;(rfl))|((exfalso;first|(simp at h<;>fail)|(simp at h;omega)))|fail)
end Go.Av
end
noncomputable section
namespace Go.Av
open Go Go.Proofs
set_option maxRecDepth 10000
theorem hasF_mem (l:List (List Nat)) (s:List Nat):hasF l s=decide (s ∈ l):=by
 rw [Bool.eq_iff_iff];simp only [hasF,List.any_eq_true,decide_eq_true_eq];constructor
 .rintro⟨y,hy,rfl⟩;exact hy
 .exact fun h=>⟨s,h,rfl⟩
theorem mem_innerX {x:Src} {s:List Nat}:s ∈ innerX x ↔ ∃ r ∈ x.rules,∃ a ∈ r.alts,s ∈ a:=by
 simp [innerX,List.mem_flatMap,List.mem_flatten]
theorem mis_eq (x:Src):misX x=!((smallsX x).all smallF && capitalF x.start && (ruleNames x).all capitalF && (innerX x).all mayF):=by
 rw [Bool.eq_iff_iff,Bool.not_eq_true',<- Bool.not_eq_true];simp only [misX,misR,noName,mayF,smallsX,ruleNames,Bool.or_eq_true,Bool.and_eq_true,List.any_eq_true,List.all_eq_true,Bool.not_eq_true',List.mem_append,List.mem_singleton,List.mem_map,mem_innerX];constructor
 .rintro(((⟨s,hs,h⟩|⟨r,hr,h|⟨a,ha,s,hs,h1,h2⟩⟩)|h)|h) ⟨⟨⟨g1,g2⟩,g3⟩,g4⟩
  .rw [g1 s (.inl hs)] at h;cases h
  .rw [g3 _ ⟨r,hr,rfl⟩] at h;cases h
  .rcases g4 s ⟨r,hr,a,ha,hs⟩ with g|g
   .rw [g] at h1;cases h1
   .rw [g] at h2;cases h2
  .rw [g1 _ (.inr rfl)] at h;cases h
  .rw [g2] at h;cases h
 .intro h
  refine Classical.byContradiction fun hn=>h ⟨⟨⟨?_,?_⟩,?_⟩,?_⟩
  .intro s hs
   cases hb:smallF s with
   |true=>rfl
   |false =>
    rcases hs with hs|rfl
    .exact absurd (.inl (.inl (.inl ⟨s,hs,hb⟩))) hn
    .exact absurd (.inl (.inr hb)) hn
  .cases hb:capitalF x.start with
   |true=>rfl
   |false=>exact absurd (.inr hb) hn
  .rintro s ⟨r,hr,rfl⟩
   cases hb:capitalF r.name with
   |true=>rfl
   |false=>exact absurd (.inl (.inl (.inr ⟨r,hr,.inl hb⟩))) hn
  .rintro s ⟨r,hr,a,ha,hs⟩
   cases hb:smallF s with
   |true=>exact .inl rfl
   |false=>cases hb2:capitalF s with
    |true=>exact .inr rfl
    |false=>exact absurd (.inl (.inl (.inr ⟨r,hr,.inr ⟨a,ha,s,hs,hb,hb2⟩⟩))) hn
theorem uses_eq (x:Src) (s:List Nat):usesX x s=decide (s ∈ innerX x):=by
 rw [Bool.eq_iff_iff];simp only [usesX,usesR,List.any_eq_true,hasF_mem,decide_eq_true_eq,mem_innerX]
theorem unk_eq (x:Src):unkX x=(!decide (x.start ∈ ruleNames x) || !(innerX x).all (knowF x (ruleNames x))):=by
 rw [Bool.eq_iff_iff];simp only [unkX,unkR,unkS,knowF,hasF_mem,Bool.or_eq_true,Bool.and_eq_true,List.any_eq_true,Bool.not_eq_true',decide_eq_false_iff_not,<- Bool.not_eq_true,List.all_eq_true,mem_innerX,decide_eq_true_eq];constructor
 .rintro(⟨r,hr,a,ha,s,hs,h1,h2⟩|h)
  .exact .inr fun g=>(g s ⟨r,hr,a,ha,hs⟩).elim h2 h1
  .exact .inl h
 .rintro(h|h)
  .exact .inr h
  .refine .inl (Classical.byContradiction fun hn=>h ?_)
   rintro s ⟨r,hr,a,ha,hs⟩;refine Classical.byContradiction fun hk=>hn ⟨r,hr,a,ha,s,hs,fun e=>hk (.inr e),fun e=>hk (.inl e)⟩
set_option maxHeartbeats 4000000 in
theorem checkS (x:Src) (hf:FitsX x) (ht:(innerX x).length<=1048576):KnownCall Tryz.prog 35 [encX x] (.d (.int .i64 (checkX x))):=by
 have htl:=hf.tokens;have hrl:=hf.rules;have c0:=cloneA x.tokens htl;have c1:KnownCall Tryz.prog 115 [encX x] (.d (strs (ruleNames x))):=heads x hf;have c2:=inner x hf ht;have c3:=containsFuncRules x.rules (by omega) 118 [] (fun r=>r.alts.isEmpty) (fun r _=>chk1 r);have c4:=fullS x hf;have c5:=allS (smallsX x) (by simp [smallsX];omega) 121 [] smallF (fun s hs=>small s (by
  simp only [smallsX,List.mem_append,List.mem_singleton] at hs;rcases hs with hs|rfl
  .exact Nat.le_trans (hf.tokenS s hs) (by decide)
  .exact Nat.le_trans hf.sep (by decide)))
 have c6:=capital x.start (Nat.le_trans hf.start (by decide));have c7:=allS (ruleNames x) (by simp;omega) 122 [] capitalF (fun s hs=>capital s (by
  obtain⟨r,hr,rfl⟩:=List.mem_map.1 hs;exact Nat.le_trans (hf.ruleS r hr) (by decide)))
 have c8:=allS (innerX x) (by omega) 123 [] mayF (fun s hs=>chk2 s (by
  obtain⟨r,hr,a,ha,hs⟩:=mem_innerX.1 hs;exact Nat.le_trans (hf.nameS r hr a ha s hs) (by decide)))
 have c9:=twiceS (smallsX x) (by simp [smallsX];omega);have c10:=twiceS (ruleNames x) (by simp;omega);have c11:=contains (innerX x) x.sep (by omega);have c12:=contains (ruleNames x) x.start (by simp;omega);have c13:=fun(O:Ob)=>allA (innerX x) (by omega) 126 [cellX x,.bp 1 0] O (.box [.d (strs (ruleNames x))]) (knowF x (ruleNames x)) (fun s _=>chk3 x (ruleNames x) O [_] s hf (by simp;omega));rw [<- strs_smallsX] at c5 c9;have hrn:(ruleNames x).length=x.rules.length:=by simp
 have hshort:shortX x=(decide (x.tokens.length=0) || decide ((ruleNames x).length=0) || x.rules.any (fun r=>r.alts.isEmpty)):=by
  unfold shortX;rw [hrn];cases x.tokens<;>cases x.rules<;>simp
 have hchk:checkX x=if x.k<1\/4<x.k then 2 else if shortX x=true then 5 else if fullX x=true then 6 else if misX x=true then 12 else if twoX x=true then 8 else if usesX x x.sep=true then 14 else if unkX x=true then 7 else 0:=rfl;rw [hshort,mis_eq,uses_eq,unk_eq,twoX] at hchk;rw [hchk];generalize x.rules.any (fun r=>r.alts.isEmpty)=b1 at c3 |-;generalize fullX x=b2 at c4 |-;generalize (smallsX x).all smallF=b3 at c5 |-;generalize capitalF x.start=b4 at c6 |-;generalize (ruleNames x).all capitalF=b5 at c7 |-;generalize (innerX x).all mayF=b6 at c8 |-;generalize decide (¬ (smallsX x).Nodup)=b7 at c9 |-;generalize decide (¬ (ruleNames x).Nodup)=b8 at c10 |-;generalize decide (x.sep ∈ innerX x)=b9 at c11 |-;generalize decide (x.start ∈ ruleNames x)=b10 at c12 |-;generalize (innerX x).all (knowF x (ruleNames x))=b11 at c13 |-;clear hchk hshort;generalize hrn2:ruleNames x=rn at *;generalize hin2:innerX x=inn at *;by_cases hk1:x.k<1
 .rw [if_pos (.inl hk1)]
  refine knownE Yo (fnAt Tryz.func35 (by kernel_rfl) (by kernel_rfl):FnAt _ _ (mkFn Tryz.f35 [1,11])) ?_
  repeat' (first|refine zW [1,11] ?_|(refine zB [1,11] ?_ ?_<;>intro h<;>try exact zk h)|refine zX [1,11] ?_|refine eA c0 ?_|refine zC (c1) ?_|refine zC (c2) ?_|refine oX (frz:=[1,11]) Yo ?_ (hv:=app1) (hf:=rfl) (he:=rfl)|refine eX ?_ (hv:=app1) (hf:=rfl) (he:=rfl)|refine oX (frz:=[1,11]) Yo ?_ (hv:=app0) (hf:=rfl) (he:=rfl)|refine eX ?_ (hv:=app0) (hf:=rfl) (he:=rfl)|(refine zE ?_;(rfl))|((exfalso;(simp at h<;>omega)))|fail)
 .by_cases hk4:4<x.k
  .rw [if_pos (.inr hk4)]
   refine knownE Yo (fnAt Tryz.func35 (by kernel_rfl) (by kernel_rfl):FnAt _ _ (mkFn Tryz.f35 [1,11])) ?_
   repeat' (first|refine zW [1,11] ?_|(refine zB [1,11] ?_ ?_<;>intro h<;>try exact zk h)|refine zX [1,11] ?_|refine eA c0 ?_|refine zC (c1) ?_|refine zC (c2) ?_|refine oX (frz:=[1,11]) Yo ?_ (hv:=app1) (hf:=rfl) (he:=rfl)|refine eX ?_ (hv:=app1) (hf:=rfl) (he:=rfl)|refine oX (frz:=[1,11]) Yo ?_ (hv:=app0) (hf:=rfl) (he:=rfl)|refine eX ?_ (hv:=app0) (hf:=rfl) (he:=rfl)|(refine zE ?_;(rfl))|((exfalso;(simp at h<;>omega)))|fail)
  .rw [if_neg (by omega)]
   by_cases ht0:x.tokens.length=0
   .have hT:AV.d (.bool ((((x.tokens.map DV.str).length:Nat):Int) == 0))=.d (.bool true):=by rw [List.length_map,ht0];rfl
    rw [show(decide (x.tokens.length=0) || decide (rn.length=0) || b1)=true from by simp [ht0],if_pos rfl];refine knownE Yo (fnAt Tryz.func35 (by kernel_rfl) (by kernel_rfl):FnAt _ _ (mkFn Tryz.f35 [1,11])) ?_
    repeat' (first|refine oX (frz:=[1,11]) (v:=.d (.bool true)) Yo ?_ (he:=(hT))|refine eX (v:=.d (.bool true)) ?_ (he:=(hT))|refine zW [1,11] ?_|(refine zB [1,11] ?_ ?_<;>intro h<;>try exact zk h)|refine zX [1,11] ?_|refine eA c0 ?_|refine zC (c1) ?_|refine zC (c2) ?_|refine oX (frz:=[1,11]) Yo ?_ (hv:=app1) (hf:=rfl) (he:=rfl)|refine eX ?_ (hv:=app1) (hf:=rfl) (he:=rfl)|refine oX (frz:=[1,11]) Yo ?_ (hv:=app0) (hf:=rfl) (he:=rfl)|refine eX ?_ (hv:=app0) (hf:=rfl) (he:=rfl)|(refine zE ?_;(rfl))|((exfalso;(simp at h<;>omega)))|fail)
   .have hT:AV.d (.bool ((((x.tokens.map DV.str).length:Nat):Int) == 0))=.d (.bool false):=by
     rw [List.length_map];exact congrArg (fun b=>AV.d (.bool b)) (by simpa using ht0)
    by_cases hr0:rn.length=0
    .have hR:AV.d (.bool ((((rn.map DV.str).length:Nat):Int) == 0))=.d (.bool true):=by rw [List.length_map,hr0];rfl
     rw [show(decide (x.tokens.length=0) || decide (rn.length=0) || b1)=true from by simp [hr0],if_pos rfl];refine knownE Yo (fnAt Tryz.func35 (by kernel_rfl) (by kernel_rfl):FnAt _ _ (mkFn Tryz.f35 [1,11])) ?_
     repeat' (first|refine oX (frz:=[1,11]) (v:=.d (.bool true)) Yo ?_ (he:=(hR))|refine eX (v:=.d (.bool true)) ?_ (he:=(hR))|refine oX (frz:=[1,11]) (v:=.d (.bool false)) Yo ?_ (he:=(hT))|refine eX (v:=.d (.bool false)) ?_ (he:=(hT))|refine zW [1,11] ?_|(refine zB [1,11] ?_ ?_<;>intro h<;>try exact zk h)|refine zX [1,11] ?_|refine eA c0 ?_|refine zC (c1) ?_|refine zC (c2) ?_|refine oX (frz:=[1,11]) Yo ?_ (hv:=app1) (hf:=rfl) (he:=rfl)|refine eX ?_ (hv:=app1) (hf:=rfl) (he:=rfl)|refine oX (frz:=[1,11]) Yo ?_ (hv:=app0) (hf:=rfl) (he:=rfl)|refine eX ?_ (hv:=app0) (hf:=rfl) (he:=rfl)|(refine zE ?_;(rfl))|((exfalso;(simp at h<;>omega)))|fail)
    .have hR:AV.d (.bool ((((rn.map DV.str).length:Nat):Int) == 0))=.d (.bool false):=by
      rw [List.length_map];exact congrArg (fun b=>AV.d (.bool b)) (by simpa using hr0)
     rw [show(decide (x.tokens.length=0) || decide (rn.length=0) || b1)=b1 from by simp [ht0,hr0]];cases b1 with
     |true =>
      refine knownE Yo (fnAt Tryz.func35 (by kernel_rfl) (by kernel_rfl):FnAt _ _ (mkFn Tryz.f35 [1,11])) ?_
      repeat' (first|refine oX (frz:=[1,11]) (v:=.d (.bool false)) Yo ?_ (he:=(hR))|refine eX (v:=.d (.bool false)) ?_ (he:=(hR))|refine oX (frz:=[1,11]) (v:=.d (.bool false)) Yo ?_ (he:=(hT))|refine eX (v:=.d (.bool false)) ?_ (he:=(hT))|refine zW [1,11] ?_|(refine zB [1,11] ?_ ?_<;>intro h<;>try exact zk h)|refine zX [1,11] ?_|refine eA c0 ?_|refine zC (c1) ?_|refine zC (c2) ?_|refine zC (c3) ?_|refine oX (frz:=[1,11]) Yo ?_ (hv:=app1) (hf:=rfl) (he:=rfl)|refine eX ?_ (hv:=app1) (hf:=rfl) (he:=rfl)|refine oX (frz:=[1,11]) Yo ?_ (hv:=app0) (hf:=rfl) (he:=rfl)|refine eX ?_ (hv:=app0) (hf:=rfl) (he:=rfl)|(refine zE ?_;(rfl))|((exfalso;(simp at h<;>omega)))|fail)
     |false =>
      cases b2 with
      |true =>
       refine knownE Yo (fnAt Tryz.func35 (by kernel_rfl) (by kernel_rfl):FnAt _ _ (mkFn Tryz.f35 [1,11])) ?_
       repeat' (first|refine oX (frz:=[1,11]) (v:=.d (.bool false)) Yo ?_ (he:=(hR))|refine eX (v:=.d (.bool false)) ?_ (he:=(hR))|refine oX (frz:=[1,11]) (v:=.d (.bool false)) Yo ?_ (he:=(hT))|refine eX (v:=.d (.bool false)) ?_ (he:=(hT))|refine zW [1,11] ?_|(refine zB [1,11] ?_ ?_<;>intro h<;>try exact zk h)|refine zX [1,11] ?_|refine eA c0 ?_|refine zC (c1) ?_|refine zC (c2) ?_|refine zC (c3) ?_|refine zC (c4) ?_|refine oX (frz:=[1,11]) Yo ?_ (hv:=app1) (hf:=rfl) (he:=rfl)|refine eX ?_ (hv:=app1) (hf:=rfl) (he:=rfl)|refine oX (frz:=[1,11]) Yo ?_ (hv:=app0) (hf:=rfl) (he:=rfl)|refine eX ?_ (hv:=app0) (hf:=rfl) (he:=rfl)|(refine zE ?_;(rfl))|((exfalso;(simp at h<;>omega)))|fail)
      |false =>
       refine knownE Yo (fnAt Tryz.func35 (by kernel_rfl) (by kernel_rfl):FnAt _ _ (mkFn Tryz.f35 [1,11])) ?_
       repeat' (first|refine oX (frz:=[1,11]) (v:=.d (.bool false)) Yo ?_ (he:=(hR))|refine eX (v:=.d (.bool false)) ?_ (he:=(hR))|refine oX (frz:=[1,11]) (v:=.d (.bool false)) Yo ?_ (he:=(hT))|refine eX (v:=.d (.bool false)) ?_ (he:=(hT))|refine zW [1,11] ?_|(refine zB [1,11] ?_ ?_<;>intro h<;>try exact zk h)|refine zX [1,11] ?_|refine eA c0 ?_|refine zC (c1) ?_|refine zC (c2) ?_|refine zC (c3) ?_|refine zC (c4) ?_|(refine zLb (c5) ?_ ?_<;>intro h<;>try exact zk h)|refine zL (c5) ?_|(refine zK (c6) ?_ ?_<;>intro h<;>try exact zk h)|refine zC (c6) ?_|(refine zK (c7) ?_ ?_<;>intro h<;>try exact zk h)|refine zC (c7) ?_|(refine zK (c8) ?_ ?_<;>intro h<;>try exact zk h)|refine zC (c8) ?_|(refine zLb (c9) ?_ ?_<;>intro h<;>try exact zk h)|refine zL (c9) ?_|(refine zK (c10) ?_ ?_<;>intro h<;>try exact zk h)|refine zC (c10) ?_|(refine zK (c11) ?_ ?_<;>intro h<;>try exact zk h)|refine zC (c11) ?_|(refine zK (c12) ?_ ?_<;>intro h<;>try exact zk h)|refine zC (c12) ?_|refine oA (c13 _) ?_|refine oX (frz:=[1,11]) Yo ?_ (hv:=app1) (hf:=rfl) (he:=rfl)|refine eX ?_ (hv:=app1) (hf:=rfl) (he:=rfl)|refine oX (frz:=[1,11]) Yo ?_ (hv:=app0) (hf:=rfl) (he:=rfl)|refine eX ?_ (hv:=app0) (hf:=rfl) (he:=rfl)|(refine zE ?_;(first|rfl|(simp_all<;>fail)))|((exfalso;(simp at h<;>omega)))|((exfalso;simp_all<;>fail))|fail)
end Go.Av
end
noncomputable section
namespace Go.Av
open Go Go.Proofs
set_option maxRecDepth 10000
def symW (ts ns:List (List Nat)) (s:List Nat):Int:=if 0<=findF ns s then 16+findF ns s else findF ts s
theorem symbolW (ts ns:List (List Nat)) (s:List Nat) (hft:ts.length<=1048576) (hfn:ns.length<=1048576):KnownCall Tryz.prog 134 [.agg [.any,strs ts,.any,strs ns,.any,.any],.str s] (.d (.int .i64 (symW ts ns s))):=by
 have hr:=findF_range ns s;have hw:IntKind.i64.wrap (16+findF ns s)=16+findF ns s:=wrap64 (by omega) (by omega);refine knownE Yo (fnAt Tryz.func134 (by kernel_rfl) (by kernel_rfl):FnAt _ _ (mkFn Tryz.f134 [2])) ?_
 repeat' (first|refine zW [2] ?_|(refine zB [2] ?_ ?_<;>intro h<;>try exact zk h)|refine zX [2] ?_|(refine zK (refFind _ _ (show ns.length<=_ by omega)) ?_ ?_<;>intro h<;>try exact zk h)|refine zC (refFind _ _ (show ns.length<=_ by omega)) ?_|(refine zK (refFind _ _ (show ts.length<=_ by omega)) ?_ ?_<;>intro h<;>try exact zk h)|refine zC (refFind _ _ (show ts.length<=_ by omega)) ?_|(refine zE ?_;(first|(simp_all [symW]<;>fail)|(simp_all [symW];omega)))|fail)
def altP (ts ns:List (List Nat)) (i:Nat) (a:List (List Nat)):GProd:=⟨((16+i:Nat):Int),a.map (symW ts ns)⟩
def ofP (x:Src) (i:Nat):List GProd:=(x.rules.take i).zipIdx.flatMap fun p=>p.1.alts.map (altP x.tokens (ruleNames x) p.2)
theorem ofP_succ {x:Src} {i:Nat} {r:SRule} (h:x.rules[i]?=some r):ofP x (i+1)=ofP x i++r.alts.map (altP x.tokens (ruleNames x) i):=by
 have hi:=(List.getElem?_eq_some_iff.1 h).1;have hl:(x.rules.take i).length=i:=by simp;omega
 simp only [ofP];rw [List.take_add_one,h,List.zipIdx_append,List.flatMap_append,hl]
 simp
def ofX (x:Src):Gram:=⟨x.k,x.tokens,x.sep,ruleNames x,symW x.tokens (ruleNames x) x.start,ofP x x.rules.length⟩
abbrev rmT (x:Src):Ob:=.room (([]:List DV).length+(x.tokens.map DV.str).length) 1
abbrev boxO (x:Src) (st:Int) (ns ps:AV):Ob:=.box [.d (.int .i64 x.k),.sr 1 1 ([]++x.tokens.map DV.str),.d (.str x.sep),ns,.d (.int .i64 st),ps]
abbrev fO:List Nat:=[1,42,94,100]
theorem checkX_rules {x:Src} (h:checkX x=0):x.rules≠[]/\∀ r ∈ x.rules,r.alts≠[]:=by
 have hs:shortX x=false:=by
  cases hb:shortX x with
  |false=>rfl
  |true=>unfold checkX at h;rw [hb] at h;split at h<;>simp at h
 unfold shortX at hs;simp only [Bool.or_eq_false_iff,List.any_eq_false,List.isEmpty_iff] at hs;exact⟨fun e=>by simp [e] at hs,fun r hr e=>hs.1.1 r hr (by simp [e])⟩
theorem ofP_len {x:Src} {i:Nat} (hi:i<=x.rules.length):(ofP x i).length=sumTo x i:=by
 induction i with
 |zero=>simp [ofP,sumTo]
 |succ i ih =>
  obtain⟨r,hr⟩:=get_ok (show i<x.rules.length by omega);rw [ofP_succ hr,sumTo_succ hr,List.length_append,List.length_map,ih (by omega)]
theorem checkX_small {x:Src} (h:checkX x=0):x.tokens.length<=8/\x.rules.length<=8/\sumTo x x.rules.length<=24/\∀ r ∈ x.rules,∀ a ∈ r.alts,a.length<=6:=by
 have hs:fullX x=false:=by
  cases hb:fullX x with
  |false=>rfl
  |true =>
   unfold checkX at h;rw [hb] at h;split at h
   .omega
   .split at h<;>simp at h
 unfold fullX at hs;simp only [Bool.or_eq_false_iff,List.any_eq_false,decide_eq_false_iff_not] at hs;refine⟨by omega,by omega,by omega,fun r hr a ha=>?_⟩;have:=hs.1.1.1 r hr;simp only [List.any_eq_true,not_exists,not_and] at this;have:=this a ha;simp only [longA,decide_eq_true_eq] at this;omega
abbrev boxQ (x:Src) (st:Int) (ns ps:AV):Ob:=.box [.d (.int .i64 x.k),.d (strs x.tokens),.d (.str x.sep),ns,.d (.int .i64 st),ps]
set_option maxHeartbeats 4000000 in
theorem refOf0 (x:Src) (hf:FitsX x) (h0:checkX x=0):KnownCall Tryz.prog 43 [encX x] (.tup [.d (encG (ofX x)),.d (.int .i64 0)]):=by
 have htl:=hf.tokens;have hrl:=hf.rules;obtain⟨hs1,hs2,hs3,hs4⟩:=checkX_small h0;have cc:=check08 x hf;rw [h0] at cc;obtain⟨st,hst⟩:∃ st,st=symW x.tokens (ruleNames x) x.start:=⟨_,rfl⟩
 have hsym:=fun s=>symbolW x.tokens (ruleNames x) s htl (by simp;omega);have hsst:=hsym x.start;rw [<- hst] at hsst;rw [show encG (ofX x)=.agg [.int .i64 x.k,strs x.tokens,.str x.sep,strs (ruleNames x),.int .i64 st,.sl 2 ((ofP x x.rules.length).map encP)] by rw [hst];rfl];refine knownE Yo (fnAt Tryz.func43 (by kernel_rfl) (by kernel_rfl):FnAt _ _ (mkFn Tryz.f43 fO)) ?_
 repeat' (first|refine zW fO ?_|(refine zB fO ?_ ?_<;>intro h<;>try exact zk h)|refine zX fO ?_|refine zC (cc) ?_|refine oX (frz:=fO) Yo ?_ (hv:=app1) (hf:=rfl) (he:=rfl)|refine eX ?_ (hv:=app1) (hf:=rfl) (he:=rfl)|refine oX (frz:=fO) Yo ?_ (hv:=app0) (hf:=rfl) (he:=rfl)|refine eX ?_ (hv:=app0) (hf:=rfl) (he:=rfl)|(refine zE ?_;(skip))|((exfalso;(simp at h<;>omega)))|fail)
 refine Run.cellData 2 1 ?_;refine Run.tidy (s':=⟨PT.ofList [(1,cellX x),(2,.bp 0 0),(3,.d (.int .i64 0)),(5,.bp 2 0),(6,.d (.int .i64 ((0:Nat):Int)))],[boxG0,rmT x,boxQ x 0 (.d .nilsl) (.d .nilsl)],[]⟩) (ti _ 3) ?_;refine Run.cellRoom 2 3 1 ?_;refine Run.loopT (fun y:Nat × List DV=>⟨PT.ofList [(1,cellX x),(2,.bp 0 0),(3,.d (.int .i64 0)),(5,.bp 2 0),(6,.d (.int .i64 (y.1:Nat)))],[boxG0,rmT x,boxQ x 0 (.sr 3 1 y.2) (.d .nilsl),.room y.2.length 1],[]⟩) (fun y=>y.1<=x.rules.length/\y.2=(x.rules.take y.1).map (fun r=>.str r.name)) (fun y=>x.rules.length-y.1) (0,[]) ⟨Nat.zero_le _,rfl⟩ (ti _ 4) (fun y hy=>?_);obtain⟨i,ds⟩:=y;obtain⟨hi1,hi2⟩:=hy;simp only at hi1 hi2 |-;have hal:ds.length<=i:=by rw [hi2];simp;omega
 have ai:AV.d (.int .i64 (IntKind.i64.wrap ((i:Int)+1)))=.d (.int .i64 ((i+1:Nat):Int)):=vN8 (by omega) (by omega);rcases Nat.lt_or_ge i x.rules.length with hlt|hge
 .obtain⟨r,hr⟩:=get_ok hlt
  repeat' (first|refine oX (frz:=fO) (v:=.d (.int .i64 ((i+1:Nat):Int))) Yo ?_ (he:=(ai))|refine eX (v:=.d (.int .i64 ((i+1:Nat):Int))) ?_ (he:=(ai))|refine zW fO ?_|(refine zB fO ?_ ?_<;>intro h<;>try exact zk h)|refine zX fO ?_|refine oI (frz:=fO) (v:=.d (.ep [.str r.name,alts r.alts])) ?_ (he:=by first|(simp [gD,cellsD,hr,encR]<;>fail)|fail)|refine eI (v:=.d (.ep [.str r.name,alts r.alts])) ?_ (he:=by first|(simp [gD,cellsD,hr,encR]<;>fail)|fail)|refine oX (frz:=fO) Yo ?_ (hv:=app1) (hf:=rfl) (he:=rfl)|refine eX ?_ (hv:=app1) (hf:=rfl) (he:=rfl)|refine oX (frz:=fO) Yo ?_ (hv:=app0) (hf:=rfl) (he:=rfl)|refine eX ?_ (hv:=app0) (hf:=rfl) (he:=rfl)|(refine zE ?_;(skip))|(exact⟨(i+1,ds++[.str r.name]),⟨hlt,by rw [List.take_add_one,hr,hi2];simp⟩,by simp only;omega,(ti _ 4 (Eq.trans (b:=[boxG0,rmT x,boxQ x 0 (.sr 3 1 (ds++[.str r.name])) (.d .nilsl),.room (ds.length+1) 1]) rfl (by simp)))⟩)|((exfalso;(simp at h<;>omega)))|fail)
 .obtain rfl:i=x.rules.length:=by omega
  rw [List.take_length] at hi2;have hns:(ruleNames x).map DV.str=ds:=by rw [hi2,List.map_map];rfl
  subst hns;clear hi2 hal;refine Run.cellData 2 3 ?_
  repeat' (first|refine zW fO ?_|(refine zB fO ?_ ?_<;>intro h<;>try exact zk h)|refine zX fO ?_|refine oW hsst ?_|(refine zE ?_;(skip))|((exfalso;(simp at h<;>omega)))|fail)
  refine Run.tidy (s':=⟨PT.ofList [(1,cellX x),(2,.bp 0 0),(3,.d (.int .i64 0)),(5,.bp 2 0),(7,.d (.int .i64 ((0:Nat):Int)))],[boxG0,rmT x,boxQ x st (.d (strs (ruleNames x))) (.d .nilsl)],[]⟩) (ti _ 3) ?_;refine Run.cellRoom 2 5 2 ?_;refine Run.loopT (fun y:Nat × List GProd=>⟨PT.ofList [(1,cellX x),(2,.bp 0 0),(3,.d (.int .i64 0)),(5,.bp 2 0),(7,.d (.int .i64 (y.1:Nat)))],[boxG0,rmT x,boxQ x st (.d (strs (ruleNames x))) (.sr 3 2 (y.2.map encP)),.room y.2.length 2],[]⟩) (fun y=>y.1<=x.rules.length/\y.2=ofP x y.1) (fun y=>x.rules.length-y.1) (0,[]) ⟨Nat.zero_le _,rfl⟩ (ti _ 4) (fun y hy=>?_);obtain⟨i,acc⟩:=y;obtain⟨hi1,hi2⟩:=hy;simp only at hi1 hi2 |-;have ai:AV.d (.int .i64 (IntKind.i64.wrap ((i:Int)+1)))=.d (.int .i64 ((i+1:Nat):Int)):=vN8 (by omega) (by omega);rcases Nat.lt_or_ge i x.rules.length with hlt|hge
  .obtain⟨r,hr⟩:=get_ok hlt
   have hmem:=List.mem_of_getElem? hr;have hra:=hf.alts r hmem;have hro:=ofP_succ hr;have hsl:(ofP x (i+1)).length<=24:=by
    have h1:=ofP_len (x:=x) (i:=i+1) hlt;have h2:sumTo x (i+1)<=sumTo x x.rules.length:=by
     unfold sumTo;rw [List.take_length]
     conv=>rhs;rw [<- List.take_append_drop (i+1) x.rules,List.map_append,List.sum_append]
     omega
    omega
   repeat' (first|refine zW fO ?_|(refine zB fO ?_ ?_<;>intro h<;>try exact zk h)|refine zX fO ?_|(refine zE ?_;(skip))|((exfalso;(simp at h<;>omega)))|fail)
   refine Run.loopT (fun y:Nat × List GProd=>⟨PT.ofList [(1,cellX x),(2,.bp 0 0),(3,.d (.int .i64 0)),(5,.bp 2 0),(7,.d (.int .i64 (i:Nat))),(8,.d (.int .i64 (y.1:Nat)))],[boxG0,rmT x,boxQ x st (.d (strs (ruleNames x))) (.sr 3 2 (y.2.map encP)),.room y.2.length 2],[]⟩) (fun y=>y.1<=r.alts.length/\y.2=ofP x i++(r.alts.take y.1).map (altP x.tokens (ruleNames x) i)) (fun y=>r.alts.length-y.1) (0,acc) ⟨Nat.zero_le _,by rw [hi2];simp⟩ (ti _ 4) (fun y hy=>?_);obtain⟨k,acc⟩:=y;obtain⟨hk1,hk2⟩:=hy;simp only at hk1 hk2 |-;rcases Nat.lt_or_ge k r.alts.length with hkl|hkg
   .obtain⟨a,ha⟩:=get_ok hkl
    have hal6:=hs4 r hmem a (List.mem_of_getElem? ha);have hnext:acc++[altP x.tokens (ruleNames x) i a]=ofP x i++(r.alts.take (k+1)).map (altP x.tokens (ruleNames x) i):=by rw [List.take_add_one,ha,hk2];simp
    have haccl:acc.length+1<=24:=by
     have h1:=congrArg List.length hnext;rw [hro,List.length_append,List.length_map] at hsl;simp only [List.length_append,List.length_map,List.length_take,List.length_cons,List.length_nil] at h1;omega
    have hL:AV.d (.int .i64 (IntKind.i64.wrap (16+(i:Int))))=.d (.int .i64 ((16+i:Nat):Int)):=vN8 (by omega) (by omega);have ak:AV.d (.int .i64 (IntKind.i64.wrap ((k:Int)+1)))=.d (.int .i64 ((k+1:Nat):Int)):=vN8 (by omega) (by omega)
    repeat' (first|refine oX (frz:=fO) (v:=.d (.int .i64 ((16+i:Nat):Int))) Yo ?_ (he:=(hL))|refine eX (v:=.d (.int .i64 ((16+i:Nat):Int))) ?_ (he:=(hL))|refine zW fO ?_|(refine zB fO ?_ ?_<;>intro h<;>try exact zk h)|refine zX fO ?_|refine oI (frz:=fO) (v:=.d (.ep [.str r.name,alts r.alts])) ?_ (he:=by first|(simp [gD,cellsD,hr,encR]<;>fail)|fail)|refine eI (v:=.d (.ep [.str r.name,alts r.alts])) ?_ (he:=by first|(simp [gD,cellsD,hr,encR]<;>fail)|fail)|refine oI (frz:=fO) (v:=.d (.ep [strs a])) ?_ (he:=by first|(simp [gD,cellsD,ha]<;>fail)|fail)|refine eI (v:=.d (.ep [strs a])) ?_ (he:=by first|(simp [gD,cellsD,ha]<;>fail)|fail)|(refine zE ?_;(skip))|((exfalso;(simp at h<;>omega)))|fail)
    refine Run.tidy (s':=⟨PT.ofList [(1,cellX x),(2,.bp 0 0),(3,.d (.int .i64 0)),(5,.bp 2 0),(7,.d (.int .i64 (i:Nat))),(8,.d (.int .i64 (k:Nat))),(9,.bp 4 0),(10,.d (strs a)),(11,.d (.int .i64 ((0:Nat):Int)))],[boxG0,rmT x,boxQ x st (.d (strs (ruleNames x))) (.sr 3 2 (acc.map encP)),.room acc.length 2,.box [.d (.int .i64 ((16+i:Nat):Int)),.d .nilsl]],[]⟩) (ti _ 5) ?_;refine Run.cellRoom 4 1 1 ?_;refine Run.loopT (fun z:Nat × List DV=>⟨PT.ofList [(1,cellX x),(2,.bp 0 0),(3,.d (.int .i64 0)),(5,.bp 2 0),(7,.d (.int .i64 (i:Nat))),(8,.d (.int .i64 (k:Nat))),(9,.bp 4 0),(10,.d (strs a)),(11,.d (.int .i64 (z.1:Nat)))],[boxG0,rmT x,boxQ x st (.d (strs (ruleNames x))) (.sr 3 2 (acc.map encP)),.room acc.length 2,.box [.d (.int .i64 ((16+i:Nat):Int)),.sr 5 1 z.2],.room z.2.length 1],[]⟩) (fun z=>z.1<=a.length/\z.2=(a.take z.1).map (fun s=>.int .i64 (symW x.tokens (ruleNames x) s))) (fun z=>a.length-z.1) (0,[]) ⟨Nat.zero_le _,rfl⟩ (ti _ 6) (fun z hz=>?_);obtain⟨j,rg⟩:=z;obtain⟨hj1,hj2⟩:=hz;simp only at hj1 hj2 |-;have hrl:rg.length=j:=by rw [hj2];simp;omega
    have aj:AV.d (.int .i64 (IntKind.i64.wrap ((j:Int)+1)))=.d (.int .i64 ((j+1:Nat):Int)):=vN8 (by omega) (by omega);rcases Nat.lt_or_ge j a.length with hjl|hjg
    .obtain⟨s,hs⟩:=get_ok hjl
     repeat' (first|refine oX (frz:=fO) (v:=.d (.int .i64 ((j+1:Nat):Int))) Yo ?_ (he:=(aj))|refine eX (v:=.d (.int .i64 ((j+1:Nat):Int))) ?_ (he:=(aj))|refine zW fO ?_|(refine zB fO ?_ ?_<;>intro h<;>try exact zk h)|refine zX fO ?_|refine oI (frz:=fO) (v:=.d (.ep [.str s])) ?_ (he:=by first|(simp [gD,cellsD,hs]<;>fail)|fail)|refine eI (v:=.d (.ep [.str s])) ?_ (he:=by first|(simp [gD,cellsD,hs]<;>fail)|fail)|refine eW (hsym s) ?_|refine oX (frz:=fO) Yo ?_ (hv:=app1) (hf:=rfl) (he:=rfl)|refine eX ?_ (hv:=app1) (hf:=rfl) (he:=rfl)|refine oX (frz:=fO) Yo ?_ (hv:=app0) (hf:=rfl) (he:=rfl)|refine eX ?_ (hv:=app0) (hf:=rfl) (he:=rfl)|(refine zE ?_;(skip))|(exact⟨(j+1,rg++[.int .i64 (symW x.tokens (ruleNames x) s)]),⟨hjl,by rw [List.take_add_one,hs,hj2];simp⟩,by simp only;omega,(ti _ 6 (Eq.trans (b:=[boxG0,rmT x,boxQ x st (.d (strs (ruleNames x))) (.sr 3 2 (acc.map encP)),.room acc.length 2,.box [.d (.int .i64 ((16+i:Nat):Int)),.sr 5 1 (rg++[.int .i64 (symW x.tokens (ruleNames x) s)])],.room (rg.length+1) 1]) rfl (by simp)))⟩)|((exfalso;(simp at h<;>omega)))|fail)
    .have hje:j=a.length:=by omega
     have hrg:rg=(a.map (symW x.tokens (ruleNames x))).map (DV.int .i64):=by rw [hj2,hje,List.take_length,List.map_map];rfl
     subst hrg;refine Run.cellData 4 1 ?_
     repeat' (first|refine oX (frz:=fO) (v:=.d (.int .i64 ((k+1:Nat):Int))) Yo ?_ (he:=(ak))|refine eX (v:=.d (.int .i64 ((k+1:Nat):Int))) ?_ (he:=(ak))|refine zW fO ?_|(refine zB fO ?_ ?_<;>intro h<;>try exact zk h)|refine zX fO ?_|refine oX (frz:=fO) Yo ?_ (hv:=app1) (hf:=rfl) (he:=rfl)|refine eX ?_ (hv:=app1) (hf:=rfl) (he:=rfl)|refine oX (frz:=fO) Yo ?_ (hv:=app0) (hf:=rfl) (he:=rfl)|refine eX ?_ (hv:=app0) (hf:=rfl) (he:=rfl)|(refine zE ?_;(skip))|(exact⟨(k+1,acc++[altP x.tokens (ruleNames x) i a]),⟨hkl,hnext⟩,by simp only;omega,(tidy_of (objs:=_) _ 4 (Eq.trans (b:=[boxG0,rmT x,boxQ x st (.d (strs (ruleNames x))) (.sr 3 2 (acc.map encP++[encP (altP x.tokens (ruleNames x) i a)])),.room (acc.length+1) 2]) (by first|rfl|(simp<;>fail)|(rw [<- List.length_map (f:=encP)];rfl)) (by simp)) rfl (by repeat' (first|exact trivial|refine⟨(Or.inl rfl),?_⟩|refine⟨(Or.inr rfl),?_⟩)) (by repeat' (first|exact trivial|refine⟨rfl,?_⟩)) rfl rfl)⟩)|((exfalso;(simp at h<;>omega)))|fail)
   .have hke:k=r.alts.length:=by omega
    have hk3:acc=ofP x (i+1):=by rw [hk2,hke,List.take_length,hro]
    repeat' (first|refine oX (frz:=fO) (v:=.d (.int .i64 ((i+1:Nat):Int))) Yo ?_ (he:=(ai))|refine eX (v:=.d (.int .i64 ((i+1:Nat):Int))) ?_ (he:=(ai))|refine zW fO ?_|(refine zB fO ?_ ?_<;>intro h<;>try exact zk h)|refine zX fO ?_|refine oI (frz:=fO) (v:=.d (.ep [.str r.name,alts r.alts])) ?_ (he:=by first|(simp [gD,cellsD,hr,encR]<;>fail)|fail)|refine eI (v:=.d (.ep [.str r.name,alts r.alts])) ?_ (he:=by first|(simp [gD,cellsD,hr,encR]<;>fail)|fail)|(refine zE ?_;(skip))|(exact⟨(i+1,acc),⟨hlt,hk3⟩,by simp only;omega,(ti _ 4)⟩)|((exfalso;(simp at h<;>omega)))|fail)
  .obtain rfl:i=x.rules.length:=by omega
   rw [<- hi2];refine Run.cellData 2 5 ?_
   repeat' (first|refine zW fO ?_|(refine zB fO ?_ ?_<;>intro h<;>try exact zk h)|refine zX fO ?_|(refine zE ?_;(rfl))|((exfalso;(simp at h<;>omega)))|fail)
end Go.Av
end
noncomputable section
namespace Go.Av
open Go Go.Proofs
set_option maxRecDepth 10000
theorem known_toN2 {P:Program} {f:FuncId} {ds:List DV} {x y e:DV} (h:KnownCall P f ds (.tup [.d x,.d e])) (hr:DvN x y):KnownCall P f ds (.tup [.d y,.d e]):=by
 intro o;refine⟨(h o).1,fun D β w vs hp hv=>((h o).2 D β w vs hp hv).mono fun en w' he=>?_⟩;rcases he with⟨v,D',β',rfl,hs,hv⟩|⟨z,v,D',β',hz,rfl,hs,hrep⟩
 .refine .inl ⟨v,D',β',rfl,hs,?_⟩
  cases hv with
  |tup hl hg =>
   refine .tup hl fun j c v hc hv'=>?_
   match j with
   |0 =>
    simp at hc;subst hc;have:=hg 0 (.d x) v rfl hv';cases this with
    |d k=>exact .d (hr.rep k)
   |1 =>
    simp at hc;subst hc;exact hg 1 (.d e) v rfl hv'
   |j+2=>simp at hc
 .cases hz
def g0:Gram:=⟨0,[],[],[],0,[]⟩
def ofRes (x:Src):Gram:=if checkX x=0 then ofX x else g0
theorem zeroG:DvN (.agg [.int .i64 0,.nilsl,.str [],.nilsl,.int .i64 0,.nilsl]) (encG g0) :=
 .agg rfl fun j x y hx hy=>by
  match j with
  |0|2|4=>simp [g0] at hx hy;subst hx hy;exact .refl
  |1|3|5=>simp [g0,strs] at hx hy;subst hx hy;exact .nil
  |j+6=>simp at hx
theorem refOf (x:Src) (hf:FitsX x):KnownCall Tryz.prog 43 [encX x] (.tup [.d (encG (ofRes x)),.d (.int .i64 (checkX x))]):=by
 by_cases h0:checkX x=0
 .have e:ofRes x=ofX x:=if_pos h0
  rw [e,h0];exact refOf0 x hf h0
 .have e:ofRes x=g0:=if_neg h0
  rw [e];have cc:=check08 x hf;generalize checkX x=c at cc h0 |-;refine known_toN2 ?_ zeroG;refine knownE Yo (fnAt Tryz.func43 (by kernel_rfl) (by kernel_rfl):FnAt _ _ (mkFn Tryz.f43 fO)) ?_
  repeat' (first|refine zW fO ?_|(refine zB fO ?_ ?_<;>intro h<;>try exact zk h)|refine zX fO ?_|refine zC (cc) ?_|(refine zE ?_;(rfl))|((exfalso;(simp [h0] at h<;>fail)))|fail)
end Go.Av
end
noncomputable section
namespace Go.Av
open Go Go.Proofs
set_option maxRecDepth 10000
def lexesF (s:List Nat):Nat->Nat->List DV->List DV × Nat × Nat
 |0,_,_=>([],0,0)
 |n+1,a,acc=>if atF4 s a=s.length then(acc,0,0) else if(beginsF (s.drop (atF4 s a))).1=0 then([],3,atF4 s a)
  else lexesF s n (atF4 s a+(beginsF (s.drop (atF4 s a))).2.length) (acc++[lexD (beginsF (s.drop (atF4 s a))).1 (beginsF (s.drop (atF4 s a))).2 (atF4 s a)])
def lexemesF (s:List Nat):List DV × Nat × Nat:=if 2000<s.length then([],4,2000) else lexesF s (s.length+1) 0 []
abbrev resL (r:List DV × Nat × Nat):AV:=.tup [.d (.sl 3 r.1),.d (faultD r.2.1 r.2.2)]
theorem lexemes4 (s:List Nat) (hl:s.length<=1048576):KnownCall Tryz.prog 104 [.str s] (resL (lexemesF s)):=by
 unfold lexemesF;by_cases h2:2000<s.length
 .rw [if_pos h2]
  refine knownE2 Yo (fnAt Tryz.func104 (by kernel_rfl) (by kernel_rfl):FnAt _ _ (mkFn Tryz.f104 [31])) ?_
  repeat' (first|refine zW [31] ?_|(refine zB [31] ?_ ?_<;>intro h<;>try exact zk h)|refine zX [31] ?_|(refine Yt ?_;refine r2 ?_;first|done|(exact .tup2 .nil .refl))|((exfalso;first|(simp at h<;>fail)|(simp at h;omega)))|fail)
 .rw [if_neg h2]
  obtain⟨R,hR⟩:∃ R,R=lexesF s (s.length+1) 0 []:=⟨_,rfl⟩
  rw [<- hR];refine knownE2 Yo (fnAt Tryz.func104 (by kernel_rfl) (by kernel_rfl):FnAt _ _ (mkFn Tryz.f104 [31])) ?_
  repeat' (first|refine zW [31] ?_|(refine zB [31] ?_ ?_<;>intro h<;>try exact zk h)|refine zX [31] ?_|(refine Yt ?_;refine r2 ?_;first|done|(skip))|((exfalso;first|(simp at h<;>fail)|(simp at h;omega)))|fail)
  refine Run.mkRoom 4 3 [(0,.d (.str s)),(3,.bp 0 0),(4,.sr 1 3 []),(5,.d (.int .i64 (0:Nat)))] (by kernel_rfl) (ofList_cases (by intro p hp;simp only [List.mem_cons,List.not_mem_nil,or_false] at hp;rcases hp with rfl|rfl|rfl|rfl<;>first|exact .inl ⟨rfl,rfl⟩|exact .inr (by kernel_rfl))) ?_;refine Run.loopT (fun y:Nat × Nat × List DV=>⟨PT.ofList [(0,.d (.str s)),(3,.bp 0 0),(4,.sr 1 3 y.2.2),(5,.d (.int .i64 (y.2.1:Nat)))],[.box [.d (.int .i64 0),.d (.int .i64 0)],.room y.2.2.length 3],[]⟩) (fun y=>y.2.1<=s.length/\y.2.2.length<=y.2.1/\s.length+1<=y.1+y.2.1/\lexesF s y.1 y.2.1 y.2.2=R) (fun y=>s.length-y.2.1) (s.length+1,0,[]) ⟨Nat.zero_le _,Nat.le_refl _,Nat.le_refl _,hR.symm⟩ (ti _ 2) (fun y hy=>?_);obtain⟨n,a,acc⟩:=y;obtain⟨hy1,hy2,hy3,hy4⟩:=hy;simp only at hy1 hy2 hy3 hy4 |-;obtain⟨m,rfl⟩:∃ m,n=m+1:=⟨n-1,by omega⟩
  have cn:=next4 s a hl hy1;have hle:=atF4_le hy1;have hge:a<=atF4 s a:=Nat.le_add_right _ _;unfold lexesF at hy4;unfold nextT at cn;generalize atF4 s a=p at cn hle hge hy4;by_cases hp:p=s.length
  .rw [if_pos hp] at cn hy4
   subst hy4
   repeat' (first|refine zW [31] ?_|(refine zB [31] ?_ ?_<;>intro h<;>try exact zk h)|refine zX [31] ?_|refine zC (cn) ?_|(refine Yt ?_;refine r2 ?_;first|done|(exact .refl))|((exfalso;first|(simp at h<;>fail)|(simp at h;omega)))|fail)
  .rw [if_neg hp] at cn hy4
   obtain⟨c,hc⟩:=get_ok (show p<s.length by omega);have hd:=drop_cons hc;have hbl:=beginsF_len (s.drop p);have hbp:(beginsF (s.drop p)).1≠0->1<=(beginsF (s.drop p)).2.length:=by rw [hd];exact beginsF_pos
   rw [List.length_drop] at hbl;generalize beginsF (s.drop p)=b at cn hbl hbp hy4;obtain⟨k,t⟩:=b;simp only at cn hbl hbp hy4;by_cases hk:k=0
   .rw [if_pos hk] at cn hy4
    subst hy4
    repeat' (first|refine zW [31] ?_|(refine zB [31] ?_ ?_<;>intro h<;>try exact zk h)|refine zX [31] ?_|refine zC (cn) ?_|(refine Yt ?_;refine r2 ?_;first|done|(exact .tup2 .nil .refl))|((exfalso;first|(simp at h<;>fail)|(simp at h;omega)))|fail)
   .rw [if_neg hk] at cn hy4
    have ht:=hbp hk
    repeat' (first|refine zW [31] ?_|(refine zB [31] ?_ ?_<;>intro h<;>try exact zk h)|refine zX [31] ?_|refine zC (cn) ?_|refine oX (frz:=[31]) Yo ?_ (hv:=app1) (hf:=rfl) (he:=rfl)|refine eX ?_ (hv:=app1) (hf:=rfl) (he:=rfl)|refine oX (frz:=[31]) Yo ?_ (hv:=app0) (hf:=rfl) (he:=rfl)|refine eX ?_ (hv:=app0) (hf:=rfl) (he:=rfl)|(refine Yt ?_;refine r2 ?_;first|done|(skip))|((exfalso;first|(simp at h<;>fail)|(simp at h;omega)))|fail)
    exact⟨(m,p+t.length,acc++[lexD k t p]),⟨by simp only<;>omega,by simp only [List.length_append,List.length_cons,List.length_nil]<;>omega,by simp only<;>omega,hy4⟩,by simp only<;>omega,(ti _ 2 (Eq.trans (b:=[.box [.d (.int .i64 0),.d (.int .i64 0)],.room (acc.length+1) 3]) rfl (by first|rfl|(simp [psA,psO,psI,rowA,rowO,rgtD]<;>fail))))⟩
end Go.Av
end

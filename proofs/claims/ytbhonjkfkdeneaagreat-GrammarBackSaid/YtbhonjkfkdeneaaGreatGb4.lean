/-
  Parts of the way to the law, joined. Conditions stand at each.
-/
import Derived.Test.YtbhonjkfkdeneaaGreatGb2
import Derived.Test.YtbhonjkfkdeneaaGreatRows
import Derived.Test.YtbhonjkfkdeneaaGreatGb3
set_option linter.all false
namespace Go.Av
open Go Go.Proofs
def ty1:Ty:=⟨.func #[] #[] false,1,8,[.nilfunc]⟩
def ty3:Ty:=⟨.int .i64,1,8,[(.int .i64 0)]⟩
def ty4:Ty:=⟨.bool,1,1,[(.bool false)]⟩
def ty5:Ty:=⟨.int .u8,1,1,[(.int .u8 0)]⟩
def ty9:Ty:=⟨.string,1,16,[(.str [])]⟩
def qAq:Ty:=⟨.interface #[],1,16,[.niliface]⟩
def qAy:Ty:=⟨.int .i32,1,4,[(.int .i32 0)]⟩
def qAt:Ty:=⟨.slice 9,1,24,[.nilsl]⟩
def qAk:Ty:=⟨.slice 82,1,24,[.nilsl]⟩
def qAL:Ty:=⟨.struct #[⟨ "K",3,0,false, "", "",0⟩,⟨ "Tokens",22,1,false, "", "",8⟩,⟨ "Sep",9,2,false, "", "",32⟩,⟨ "Names",22,3,false, "", "",48⟩,⟨ "Start",3,4,false, "", "",72⟩,⟨ "Prods",23,5,false, "", "",80⟩],6,104,[(.int .i64 0),.nilsl,(.str []),.nilsl,(.int .i64 0),.nilsl]⟩
def qAW:Ty:=⟨.slice 96,1,24,[.nilsl]⟩
def qAN:Ty:=⟨.struct #[⟨ "K",3,0,false, "", "",0⟩,⟨ "Tokens",22,1,false, "", "",8⟩,⟨ "Sep",9,2,false, "", "",32⟩,⟨ "Start",9,3,false, "", "",48⟩,⟨ "Rules",29,4,false, "", "",64⟩],5,88,[(.int .i64 0),.nilsl,(.str []),(.str []),.nilsl]⟩
def qA2:Ty:=⟨.int .i64,1,8,[(.int .i64 0)]⟩
def qAx:Ty:=⟨.func #[25] #[32] false,1,8,[.nilfunc]⟩
def qAs:Ty:=⟨.struct #[⟨ "Err",32,0,false, "", "",0⟩,⟨ "At",3,1,false, "", "",8⟩],2,16,[(.int .i64 0),(.int .i64 0)]⟩
def qAz:Ty:=⟨.func #[9] #[4] false,1,8,[.nilfunc]⟩
def qAm:Ty:=⟨.func #[22,22] #[4] false,1,8,[.nilfunc]⟩
def qAE:Ty:=⟨.func #[3] #[4] false,1,8,[.nilfunc]⟩
def qAn:Ty:=⟨.slice 3,1,24,[.nilsl]⟩
def qAG:Ty:=⟨.slice 25,1,24,[.nilsl]⟩
def qxC:Ty:=⟨.slice 5,1,24,[.nilsl]⟩
def qxz:Ty:=⟨.struct #[⟨ "Left",3,0,false, "", "",0⟩,⟨ "Right",66,1,false, "", "",8⟩],2,32,[(.int .i64 0),.nilsl]⟩
def qAY:Ty:=⟨.slice 22,1,24,[.nilsl]⟩
def qAv:Ty:=⟨.struct #[⟨ "Name",9,0,false, "", "",0⟩,⟨ "Alts",94,1,false, "", "",16⟩],2,40,[(.str []),.nilsl]⟩
def qA5:Ty:=⟨.func #[230] #[] false,1,8,[.nilfunc]⟩
def qAU:Ty:=⟨.func #[230] #[] false,1,8,[.nilfunc]⟩
def qyI:Ty:=⟨.pointer 96,1,8,[.nilptr]⟩
def qyy:Ty:=⟨.slice 37,1,24,[.nilsl]⟩
def qzK:Ty:=⟨.func #[96,96] #[4] false,1,8,[.nilfunc]⟩
def qzg:Ty:=⟨.slice 126,1,24,[.nilsl]⟩
def qy1:Ty:=⟨.struct #[⟨ "Fault",41,0,true, "", "",0⟩],2,16,[(.int .i64 0),(.int .i64 0)]⟩
def qzH:Ty:=⟨.pointer 119,1,8,[.nilptr]⟩
def qzF:Ty:=⟨.map 9 200,1,8,[.nilmap]⟩
def qz3:Ty:=⟨.slice 198,1,24,[.nilsl]⟩
def qzO:Ty:=⟨.struct #[⟨ "s",9,0,false, "", "stenotype/source",0⟩,⟨ "l",109,1,false, "", "stenotype/source",16⟩,⟨ "x",31,2,false, "", "stenotype/source",40⟩,⟨ "names",116,7,false, "", "stenotype/source",128⟩,⟨ "uses",117,8,false, "", "stenotype/source",136⟩,⟨ "total",3,9,false, "", "stenotype/source",160⟩],10,168,[(.str []),.nilsl,(.int .i64 0),.nilsl,(.str []),(.str []),.nilsl,.nilmap,.nilsl,(.int .i64 0)]⟩
def qyV:Ty:=⟨.func #[115] #[] false,1,8,[.nilfunc]⟩
def qzQ:Ty:=⟨.array 6 120,6,48,[.nilfunc,.nilfunc,.nilfunc,.nilfunc,.nilfunc,.nilfunc]⟩
def qzr:Ty:=⟨.pointer 124,1,8,[.nilptr]⟩
def qyn:Ty:=⟨.struct #[⟨ "text",9,0,false, "", "stenotype/stenotyperef08",0⟩,⟨ "l",109,1,false, "", "stenotype/stenotyperef08",16⟩,⟨ "at",3,2,false, "", "stenotype/stenotyperef08",40⟩,⟨ "f",41,3,false, "", "stenotype/stenotyperef08",48⟩,⟨ "alts",3,5,false, "", "stenotype/stenotyperef08",64⟩,⟨ "x",31,6,false, "", "stenotype/stenotyperef08",72⟩],11,160,[(.str []),.nilsl,(.int .i64 0),(.int .i64 0),(.int .i64 0),(.int .i64 0),(.int .i64 0),.nilsl,(.str []),(.str []),.nilsl]⟩
def qzb:Ty:=⟨.struct #[⟨ "Kind",3,0,false, "", "",0⟩,⟨ "Text",9,1,false, "", "",8⟩,⟨ "At",3,2,false, "", "",24⟩],3,32,[(.int .i64 0),(.str []),(.int .i64 0)]⟩
def qzs:Ty:=⟨.pointer 136,1,8,[.nilptr]⟩
def qzD:Ty:=⟨.pointer 134,1,8,[.nilptr]⟩
def qzl:Ty:=⟨.struct #[⟨ "addr",132,0,false, "", "strings",0⟩,⟨ "buf",75,1,false, "", "strings",8⟩],2,32,[.nilptr,.nilsl]⟩
def qyB:Ty:=⟨.struct #[⟨ "Builder",134,0,true, "", "",0⟩],2,32,[.nilptr,.nilsl]⟩
def qzU:Ty:=⟨.func #[96] #[4] false,1,8,[.nilfunc]⟩
def qys:Ty:=⟨.int .u64,1,8,[(.int .u64 0)]⟩
def qy5:Ty:=⟨.map 9 3,1,8,[.nilmap]⟩
def qzx:Ty:=⟨.map 9 4,1,8,[.nilmap]⟩
def qyJ:Ty:=⟨.func #[82] #[4] false,1,8,[.nilfunc]⟩
def qzz:Ty:=⟨.func #[233] #[] false,1,8,[.nilfunc]⟩
def qyF:Ty:=⟨.func #[233] #[] false,1,8,[.nilfunc]⟩
def qy4:Ty:=⟨.struct #[⟨ "name",9,0,false, "", "stenotype/source",0⟩,⟨ "at",3,1,false, "", "stenotype/source",16⟩],2,24,[(.str []),(.int .i64 0)]⟩
def qzo:Ty:=⟨.struct #[⟨ "token",4,0,false, "", "stenotype/source",0⟩,⟨ "sep",4,1,false, "", "stenotype/source",1⟩,⟨ "rule",4,2,false, "", "stenotype/source",2⟩],3,3,[(.bool false),(.bool false),(.bool false)]⟩
def qzC:Ty:=⟨.interface #[("Error",139)],1,16,[.niliface]⟩
def qv1:Ty:=⟨.pointer 5,1,8,[.nilptr]⟩
def qz2:Ty:=⟨.func #[3,82] #[4] false,1,8,[.nilfunc]⟩
def qyu:Ty:=⟨.func #[126,41] #[4] false,1,8,[.nilfunc]⟩
def qzG:Ty:=⟨.pointer 238,1,8,[.nilptr]⟩
def qzS:Ty:=⟨.struct #[⟨ "s",9,0,false, "", "stenotype/text",0⟩,⟨ "at",3,1,false, "", "stenotype/text",16⟩],2,24,[(.str []),(.int .i64 0)]⟩
def qyE:Ty:=⟨.struct #[⟨ "cursor",236,0,true, "", "stenotype/text",0⟩],2,24,[(.str []),(.int .i64 0)]⟩
def qza:Ty:=⟨.int .i64,1,8,[(.int .i64 0)]⟩
def qz0:Ty:=⟨.unsafePointer,1,8,[.nilptr]⟩
def qz1:Ty:=⟨.array 4 9,4,64,[(.str []),(.str []),(.str []),(.str [])]⟩
def qy6:Ty:=⟨.pointer 236,1,8,[.nilptr]⟩
def qy3:Ty:=⟨.slice 253,1,24,[.nilsl]⟩
def qzy:Ty:=⟨.array 4 5,4,4,[(.int .u8 0),(.int .u8 0),(.int .u8 0),(.int .u8 0)]⟩
noncomputable def Et:PT Ty:=(.node (.node (.node (.node (.node (.node .nil (some qAN) .nil) none (.node (.node (.node .nil (some qzU) .nil) none (.node .nil (some qzC) .nil)) none .nil)) none (.node .nil (some qAk) (.node .nil (some qAm) (.node .nil (some qzO) .nil)))) (some ty3) (.node (.node (.node (.node (.node .nil (some qzs) .nil) none .nil) none .nil) none (.node (.node .nil none (.node .nil (some qv1) .nil)) none (.node .nil (some qzH) .nil))) none (.node (.node (.node .nil (some qxC) .nil) none .nil) none .nil))) (some ty1) (.node (.node (.node (.node (.node (.node (.node .nil (some qz0) .nil) none .nil) none .nil) none (.node .nil (some qA5) .nil)) none (.node .nil none (.node .nil (some qy1) .nil))) (some ty9) (.node (.node .nil (some qAs) (.node .nil (some qzK) (.node .nil (some qyu) .nil))) (some qAL) (.node .nil none (.node (.node .nil (some qzx) .nil) (some qzQ) .nil)))) (some ty5) (.node (.node (.node (.node (.node (.node .nil (some qz1) .nil) none .nil) (some qAG) .nil) (some qAx) (.node (.node .nil (some qy5) .nil) none .nil)) (some qAy) (.node .nil none (.node .nil (some qz3) .nil))) none (.node (.node (.node (.node (.node .nil (some qzy) .nil) none .nil) none .nil) none (.node .nil (some qzg) .nil)) (some qAW) (.node .nil none (.node (.node .nil (some qzz) .nil) none (.node .nil (some qza) .nil))))))) none (.node (.node (.node (.node (.node .nil (some qA2) (.node .nil (some qAv) .nil)) none .nil) none (.node (.node (.node (.node .nil (some qyB) .nil) none (.node .nil (some qzo) .nil)) none .nil) none (.node .nil none (.node .nil (some qyV) .nil)))) (some ty4) (.node (.node (.node (.node (.node .nil (some qzD) .nil) none .nil) none (.node (.node .nil (some qys) .nil) (some qyI) .nil)) (some qAq) (.node .nil none (.node .nil (some qzF) .nil))) none (.node (.node (.node (.node (.node .nil (some qy3) .nil) none .nil) none .nil) (some qAz) (.node .nil none (.node .nil (some qzS) .nil))) none (.node .nil (some qAE) (.node (.node .nil (some qyJ) .nil) (some qyn) .nil))))) none (.node (.node (.node (.node (.node .nil (some qAn) .nil) none (.node .nil (some qAU) .nil)) none (.node (.node .nil (some qxz) .nil) none .nil)) none (.node (.node (.node (.node (.node .nil (some qy6) .nil) none .nil) none .nil) none (.node .nil none (.node .nil (some qzG) .nil))) none (.node .nil none (.node .nil (some qzr) .nil)))) none (.node (.node (.node (.node (.node .nil (some qzl) .nil) none (.node .nil (some qy4) .nil)) none (.node .nil (some qyy) (.node .nil (some qz2) .nil))) (some qAt) .nil) none (.node (.node .nil none (.node .nil none (.node .nil (some qyE) .nil))) none (.node (.node .nil (some qAY) .nil) none (.node (.node .nil (some qyF) .nil) (some qzb) .nil)))))))
noncomputable def Ft:PT FnI:=(.node (.node (.node (.node (.node (.node .nil none (.node .nil none (.node .nil (some (qdf Tryz.f223 [])) .nil))) none (.node (.node .nil (some (qdf Tryz.f79 [1,18])) .nil) none (.node .nil none (.node .nil (some (qdf Tryz.f239 [])) .nil)))) none (.node (.node .nil none (.node (.node .nil (some (qdf Tryz.f167 [1])) .nil) none .nil)) none .nil)) none (.node (.node (.node (.node .nil (some (qdf Tryz.f67 [2,200001])) .nil) none .nil) none (.node (.node (.node .nil (some (qdf Tryz.f147 [2,200001])) .nil) none .nil) (some (qdf Tryz.f51 [73,101,102,114,134,131181])) .nil)) none (.node (.node .nil none (.node (.node .nil (some (qdf Tryz.f171 [2])) .nil) none .nil)) none .nil))) none (.node (.node (.node (.node (.node .nil (some (qdf Tryz.f65 [65537,65538,65539,65542,65544])) .nil) none (.node .nil (some (qdf Tryz.f97 [])) .nil)) none (.node (.node .nil (some (qdf Tryz.f81 [1])) .nil) none .nil)) none (.node (.node (.node .nil (some (qdf Tryz.f73 [2])) .nil) none (.node (.node .nil (some (qdf Tryz.f169 [])) .nil) none .nil)) none (.node .nil none (.node .nil (some (qdf Tryz.f121 [])) .nil)))) none (.node (.node (.node (.node (.node (.node .nil (some (qdf Tryz.f261 [])) .nil) none .nil) (some (qdf Tryz.f69 [])) .nil) none (.node (.node .nil (some (qdf Tryz.f165 [])) .nil) none .nil)) none .nil) none (.node (.node (.node .nil (some (qdf Tryz.f77 [1])) .nil) none .nil) none (.node (.node .nil none (.node .nil (some (qdf Tryz.f221 [])) .nil)) none (.node .nil (some (qdf Tryz.f125 [])) .nil)))))) none (.node (.node (.node (.node (.node (.node .nil (some (qdf Tryz.f64 [2,200001])) .nil) none .nil) none (.node (.node .nil (some (qdf Tryz.f80 [1])) .nil) none .nil)) none (.node (.node .nil none (.node (.node .nil (some (qdf Tryz.f168 [])) .nil) none .nil)) none .nil)) none (.node (.node (.node (.node (.node (.node .nil (some (qdf Tryz.f260 [])) .nil) none .nil) (some (qdf Tryz.f68 [])) .nil) none (.node (.node .nil (some (qdf Tryz.f164 [2])) .nil) none .nil)) (some (qdf Tryz.f20 [1,13,200001])) (.node (.node (.node .nil (some (qdf Tryz.f148 [2,200001])) .nil) none .nil) none .nil)) none (.node (.node (.node (.node (.node .nil (some (qdf Tryz.f268 [])) .nil) none .nil) none (.node .nil (some (qdf Tryz.f204 [])) .nil)) none .nil) none .nil))) none (.node (.node (.node (.node (.node (.node (.node .nil (some (qxK 0)) .nil) none .nil) (some (qdf Tryz.f66 [2,3,30])) .nil) none .nil) none (.node (.node .nil (some (qdf Tryz.f82 [1])) .nil) none .nil)) none (.node (.node (.node .nil (some (qdf Tryz.f74 [1])) .nil) none (.node (.node .nil (some (qdf Tryz.f170 [])) .nil) none (.node .nil (some (qdf Tryz.f234 [131082])) .nil))) none (.node .nil none (.node .nil (some (qdf Tryz.f122 [])) .nil)))) none (.node (.node (.node .nil none (.node (.node .nil (some (qdf Tryz.f166 [2])) .nil) none .nil)) none .nil) (some (qdf Tryz.f14 [39])) (.node (.node (.node .nil (some (qdf Tryz.f78 [1,28])) .nil) none (.node .nil none (.node .nil (some (qdf Tryz.f238 [])) .nil))) none (.node (.node .nil none (.node .nil (some (qdf Tryz.f222 [])) .nil)) none .nil))))))
theorem qak:qbp Tryz.prog Et:=qti (by repeat' (first|exact trivial|refine⟨?_,?_⟩|kernel_rfl|fail))
theorem qdk:qjJ Tryz.prog Ft.get?:=qtM ⟨trivial,⟨trivial,⟨trivial,⟨trivial,⟨trivial,⟨trivial,trivial,⟨trivial,trivial,⟨(qd4 Tryz.func223 (by kernel_rfl) (by kernel_rfl)),trivial,trivial⟩⟩⟩,⟨trivial,⟨(qd4 Tryz.func79 (by kernel_rfl) (by kernel_rfl)),trivial,trivial⟩,⟨trivial,trivial,⟨(qd4 Tryz.func239 (by kernel_rfl) (by kernel_rfl)),trivial,trivial⟩⟩⟩⟩,⟨trivial,⟨trivial,trivial,⟨trivial,⟨(qd4 Tryz.func167 (by kernel_rfl) (by kernel_rfl)),trivial,trivial⟩,trivial⟩⟩,trivial⟩⟩,⟨trivial,⟨trivial,⟨trivial,⟨(qd4 Tryz.func67 (by kernel_rfl) (by kernel_rfl)),trivial,trivial⟩,trivial⟩,⟨(qd4 Tryz.func51 (by kernel_rfl) (by kernel_rfl)),⟨trivial,⟨(qd4 Tryz.func147 (by kernel_rfl) (by kernel_rfl)),trivial,trivial⟩,trivial⟩,trivial⟩⟩,⟨trivial,⟨trivial,trivial,⟨trivial,⟨(qd4 Tryz.func171 (by kernel_rfl) (by kernel_rfl)),trivial,trivial⟩,trivial⟩⟩,trivial⟩⟩⟩,⟨trivial,⟨trivial,⟨trivial,⟨trivial,⟨(qd4 Tryz.func65 (by kernel_rfl) (by kernel_rfl)),trivial,trivial⟩,⟨(qd4 Tryz.func97 (by kernel_rfl) (by kernel_rfl)),trivial,trivial⟩⟩,⟨trivial,⟨(qd4 Tryz.func81 (by kernel_rfl) (by kernel_rfl)),trivial,trivial⟩,trivial⟩⟩,⟨trivial,⟨trivial,⟨(qd4 Tryz.func73 (by kernel_rfl) (by kernel_rfl)),trivial,trivial⟩,⟨trivial,⟨(qd4 Tryz.func169 (by kernel_rfl) (by kernel_rfl)),trivial,trivial⟩,trivial⟩⟩,⟨trivial,trivial,⟨(qd4 Tryz.func121 (by kernel_rfl) (by kernel_rfl)),trivial,trivial⟩⟩⟩⟩,⟨trivial,⟨trivial,⟨trivial,⟨(qd4 Tryz.func69 (by kernel_rfl) (by kernel_rfl)),⟨trivial,⟨(qd4 Tryz.func261 (by kernel_rfl) (by kernel_rfl)),trivial,trivial⟩,trivial⟩,trivial⟩,⟨trivial,⟨(qd4 Tryz.func165 (by kernel_rfl) (by kernel_rfl)),trivial,trivial⟩,trivial⟩⟩,trivial⟩,⟨trivial,⟨trivial,⟨(qd4 Tryz.func77 (by kernel_rfl) (by kernel_rfl)),trivial,trivial⟩,trivial⟩,⟨trivial,⟨trivial,trivial,⟨(qd4 Tryz.func221 (by kernel_rfl) (by kernel_rfl)),trivial,trivial⟩⟩,⟨(qd4 Tryz.func125 (by kernel_rfl) (by kernel_rfl)),trivial,trivial⟩⟩⟩⟩⟩⟩,⟨trivial,⟨trivial,⟨trivial,⟨trivial,⟨trivial,⟨(qd4 Tryz.func64 (by kernel_rfl) (by kernel_rfl)),trivial,trivial⟩,trivial⟩,⟨trivial,⟨(qd4 Tryz.func80 (by kernel_rfl) (by kernel_rfl)),trivial,trivial⟩,trivial⟩⟩,⟨trivial,⟨trivial,trivial,⟨trivial,⟨(qd4 Tryz.func168 (by kernel_rfl) (by kernel_rfl)),trivial,trivial⟩,trivial⟩⟩,trivial⟩⟩,⟨trivial,⟨(qd4 Tryz.func20 (by kernel_rfl) (by kernel_rfl)),⟨trivial,⟨(qd4 Tryz.func68 (by kernel_rfl) (by kernel_rfl)),⟨trivial,⟨(qd4 Tryz.func260 (by kernel_rfl) (by kernel_rfl)),trivial,trivial⟩,trivial⟩,trivial⟩,⟨trivial,⟨(qd4 Tryz.func164 (by kernel_rfl) (by kernel_rfl)),trivial,trivial⟩,trivial⟩⟩,⟨trivial,⟨trivial,⟨(qd4 Tryz.func148 (by kernel_rfl) (by kernel_rfl)),trivial,trivial⟩,trivial⟩,trivial⟩⟩,⟨trivial,⟨trivial,⟨trivial,⟨trivial,⟨(qd4 Tryz.func268 (by kernel_rfl) (by kernel_rfl)),trivial,trivial⟩,trivial⟩,⟨(qd4 Tryz.func204 (by kernel_rfl) (by kernel_rfl)),trivial,trivial⟩⟩,trivial⟩,trivial⟩⟩⟩,⟨trivial,⟨trivial,⟨trivial,⟨trivial,⟨(qd4 Tryz.func66 (by kernel_rfl) (by kernel_rfl)),⟨trivial,⟨(qwx Tryz.func258 (by kernel_rfl) (by kernel_rfl) (by kernel_rfl) (by kernel_rfl)),trivial,trivial⟩,trivial⟩,trivial⟩,trivial⟩,⟨trivial,⟨(qd4 Tryz.func82 (by kernel_rfl) (by kernel_rfl)),trivial,trivial⟩,trivial⟩⟩,⟨trivial,⟨trivial,⟨(qd4 Tryz.func74 (by kernel_rfl) (by kernel_rfl)),trivial,trivial⟩,⟨trivial,⟨(qd4 Tryz.func170 (by kernel_rfl) (by kernel_rfl)),trivial,trivial⟩,⟨(qd4 Tryz.func234 (by kernel_rfl) (by kernel_rfl)),trivial,trivial⟩⟩⟩,⟨trivial,trivial,⟨(qd4 Tryz.func122 (by kernel_rfl) (by kernel_rfl)),trivial,trivial⟩⟩⟩⟩,⟨(qd4 Tryz.func14 (by kernel_rfl) (by kernel_rfl)),⟨trivial,⟨trivial,trivial,⟨trivial,⟨(qd4 Tryz.func166 (by kernel_rfl) (by kernel_rfl)),trivial,trivial⟩,trivial⟩⟩,trivial⟩,⟨trivial,⟨trivial,⟨(qd4 Tryz.func78 (by kernel_rfl) (by kernel_rfl)),trivial,trivial⟩,⟨trivial,trivial,⟨(qd4 Tryz.func238 (by kernel_rfl) (by kernel_rfl)),trivial,trivial⟩⟩⟩,⟨trivial,⟨trivial,trivial,⟨(qd4 Tryz.func222 (by kernel_rfl) (by kernel_rfl)),trivial,trivial⟩⟩,trivial⟩⟩⟩⟩⟩⟩
end Go.Av
noncomputable section
namespace Go.Av
open Go Go.Proofs
def Fz (_:List Nat):Prop:=True
section
variable {frz:List Nat} {nt m:Nat} {ro':Option Nat} {K:Ex->S->Prop} {ops:Array Oper} {l:List Oper} {o:Oper} {tm tm' tm1 tm0:PT AV} {objs objs':List Ob} {dl:List Dl} {b:Bool} {ob:Option (List Ob)} {fl:Bool} {s s0:S} {i:Nat} {acc:List Eff} {G:S->Prop} {P A B X Y Q:Prop} {g:FuncId} {ds:List DV} {r:AV}
theorem oXw (_:Fz frz) {v v':AV} (k:RunOps Tryz.prog nt m ro' ops l ⟨tm',objs',dl⟩ K) (hg:qan ops (rd tm) o=some true:=by rfl) (hv:qax Et H0 frz (rd tm) objs o=some (v',ob,fl):=by rfl) (hf:fl=true:=by rfl)
  (he:v'=v:=by first|(conv=>lhs;dsimp only)|rfl) (ho:ob.getD objs=objs':=by first|(conv=>lhs;dsimp only [Option.getD])|rfl) (hp:qba v=false:=by rfl) (ht:qa6 nt tm o.dst v=some tm':=by rfl) :
  RunOps Tryz.prog nt m ro' ops (o :: l) ⟨tm,objs,dl⟩ K:=RunOps.x qak hg hv hf he ho hp ht k
theorem oXn (_:Fz frz) {v v':AV} (k:RunOps Tryz.prog nt m ro' ops l ⟨tm',objs',dl⟩ K) (_:qjN o.op=false:=by rfl) (hg:qan ops (rd tm) o=some true:=by rfl) (hv:qax Et H0 frz (rd tm) objs o=some (v',ob,fl):=by rfl) (hf:fl=true:=by rfl)
  (he:v'=v:=by first|(conv=>lhs;dsimp only)|rfl) (ho:ob.getD objs=objs':=by first|(conv=>lhs;dsimp only [Option.getD])|rfl) (hp:qba v=false:=by rfl) (ht:qa6 nt tm o.dst v=some tm':=by rfl) :
  RunOps Tryz.prog nt m ro' ops (o :: l) ⟨tm,objs,dl⟩ K:=RunOps.x qak hg hv hf he ho hp ht k
theorem eXn {v v':AV} (k:EvD Tryz.prog Et frz nt ops s0 (i+1) (acc++[qbS (rd tm) objs o ob]) l ⟨tm',objs',dl⟩ G) (_:qjN o.op=false:=by rfl) (hg:qan ops (rd tm) o=some true:=by rfl) (hv:qax Et H0 frz (rd tm) objs o=some (v',ob,fl):=by rfl) (hf:fl=true:=by rfl)
  (he:v'=v:=by first|(conv=>lhs;dsimp only)|rfl) (ho:ob.getD objs=objs':=by first|(conv=>lhs;dsimp only [Option.getD])|rfl) (hp:qba v=false:=by rfl) (ht:qa6 nt tm o.dst v=some tm':=by rfl) :
  EvD Tryz.prog Et frz nt ops s0 i acc (o :: l) ⟨tm,objs,dl⟩ G:=EvD.x hg hv hf he ho hp ht k
theorem oBw (_:Fz frz) (k1:b=true->RunOps Tryz.prog nt m ro' ops l ⟨tm1,objs',dl⟩ K) (k0:b=false->RunOps Tryz.prog nt m ro' ops l ⟨tm0,objs',dl⟩ K) (hb:qjN o.op=true:=by rfl) (hg:qan ops (rd tm) o=some true:=by rfl)
  (hv:qax Et H0 frz (rd tm) objs o=some (.d (.bool b),ob,fl):=by rfl) (hf:fl=true:=by rfl) (ho:ob.getD objs=objs':=by first|(conv=>lhs;dsimp only [Option.getD])|rfl) (ht1:qa6 nt tm o.dst (.d (.bool true))=some tm1:=by rfl) (ht0:qa6 nt tm o.dst (.d (.bool false))=some tm0:=by rfl) :
  RunOps Tryz.prog nt m ro' ops (o :: l) ⟨tm,objs,dl⟩ K:=RunOps.xb qak hb hg hv hf ho ht1 ht0 k1 k0
theorem dW (_:Fz frz) {id:Nat} (h:EvD Tryz.prog Et frz nt ops s 0 [] ops.toList s (fun s'=>K .normal s')):Run Tryz.prog nt m ro' (.region id ops true) s K:=Yd qak (by kernel_rfl) h
theorem gD {α:Type} (l:List α) (i:Nat) (d:α):l.getD i d=l[i]?.getD d:=List.getD_eq_getElem?_getD
theorem oI {v v':AV} (k:RunOps Tryz.prog nt m ro' ops l ⟨tm',objs',dl⟩ K) (_:Fz frz:=by assumption) (hg:qan ops (rd tm) o=some true:=by rfl) (hv:qax Et H0 frz (rd tm) objs o=some (v',ob,fl):=by rfl) (hf:fl=true:=by first|(simp [inB]<;>fail)|(simp [inB];omega))
  (he:v'=v:=by first|(conv=>lhs;dsimp only)|rfl) (ho:ob.getD objs=objs':=by first|(conv=>lhs;dsimp only [Option.getD])|rfl) (hp:qba v=false:=by rfl) (ht:qa6 nt tm o.dst v=some tm':=by rfl) :
  RunOps Tryz.prog nt m ro' ops (o :: l) ⟨tm,objs,dl⟩ K:=RunOps.x qak hg hv hf he ho hp ht k
theorem eI {v v':AV} (k:EvD Tryz.prog Et frz nt ops s0 (i+1) (acc++[qbS (rd tm) objs o ob]) l ⟨tm',objs',dl⟩ G) (hg:qan ops (rd tm) o=some true:=by rfl) (hv:qax Et H0 frz (rd tm) objs o=some (v',ob,fl):=by rfl) (hf:fl=true:=by first|(simp [inB]<;>fail)|(simp [inB];omega))
  (he:v'=v:=by first|(conv=>lhs;dsimp only)|rfl) (ho:ob.getD objs=objs':=by first|(conv=>lhs;dsimp only [Option.getD])|rfl) (hp:qba v=false:=by rfl) (ht:qa6 nt tm o.dst v=some tm':=by rfl) :
  EvD Tryz.prog Et frz nt ops s0 i acc (o :: l) ⟨tm,objs,dl⟩ G:=EvD.x hg hv hf he ho hp ht k
theorem ti {k:Nat} (l:List (Nat × AV)) (n:Nat) (ho:objs.take n=objs':=by rfl) (hn:Nat.ble k n=true:=by rfl) (h:qiS tm l:=by repeat' (first|exact trivial|refine⟨(Or.inl rfl),?_⟩|refine⟨(Or.inr rfl),?_⟩|refine⟨(Or.inl (qaq (by kernel_rfl) (by omega))),?_⟩|fail))
  (hl:qv6 (qg6 8 n) l:=by repeat' (first|exact trivial|refine⟨rfl,?_⟩|fail)) (hr:objs'.all (qbB n)=true:=by rfl) (hd:dl.all (qpO n)=true:=by rfl):qbU k ⟨tm,objs,dl⟩ ⟨PT.ofList l,objs',dl⟩:=qcQ l n ho hn h hl hr hd
theorem wkE {x y:List Ob} (h:WkObs x y:=by repeat' (first|exact trivial|refine⟨.refl,?_⟩|refine⟨.gone,?_⟩|refine⟨.box (by repeat' (first|exact trivial|refine⟨.inr rfl,?_⟩|refine⟨.inl rfl,?_⟩)),?_⟩)):WkObs x y:=h
theorem oV (k:RunOps Tryz.prog nt m ro' ops l ⟨tm',objs',dl⟩ K) {v v':AV} (_:Fz frz:=by assumption) (hg:qan ops (rd tm) o=some true:=by rfl) (hv:qax Et H0 frz (rd tm) objs o=some (v',ob,fl):=by rfl) (hf:fl=true:=by rfl)
  (he:v'=v:=by first|(conv=>lhs;dsimp only)|rfl) (ho:ob.getD objs=objs':=by first|(conv=>lhs;dsimp only [Option.getD])|rfl) (hp:qba v=false:=by rfl) (ht:qa6 nt tm o.dst v=some tm':=by rfl) :
  RunOps Tryz.prog nt m ro' ops (o :: l) ⟨tm,objs,dl⟩ K:=RunOps.x qak hg hv hf he ho hp ht k
theorem kF {n:Nat} {f:Func} {ds:List DV} {r:AV} (h1:Tryz.prog.funcs[n]?=some f) (l:List Nat) (h:Fz l->Run Tryz.prog (qdf f l).nt 0 none (qdf f l).body ⟨qb7 0 (ds.map .d) .nil,[],[]⟩ (qqa Et (qdf f l).results r)) (h2:f.body.isSome=true:=by kernel_rfl)
  (h3:(f.name == "runtime.NumGoroutine")=false:=by kernel_rfl) (h4:xk l=none:=by rfl) (hlen:(ds.map AV.d).length=(qdf f l).np:=by rfl) (hle:Nat.ble (qdf f l).np (qdf f l).nt=true:=by rfl):qaa Tryz.prog n ds r:=qxY qak (qd4 h1 h2 h3 h4) (h trivial) hlen hle
theorem zX (q:Q) (h:Q->P:=by intro q;first|exact oXw (by assumption) q|exact eX q):P:=h q
theorem zW (q:Q) (h:Q->P:=by intro q;first|exact Yg q|exact Yq q|exact oXn (by assumption) q|exact oS q|exact Yn q|exact Yk q|exact cT q|exact cF q|exact Yb q|exact Ye q|exact dW (by assumption) q|exact eXn q|exact eS q|exact eN q|(refine Yt ?_;first|exact rB q|exact rI q|exact rA q|exact rII q|exact rSI q|exact rT q|exact rS q)):P:=h q
theorem zR (q:Q) (h:Q->P:=by intro q;first|exact Yg q|exact Run.seqR q|exact oXw (by assumption) q|exact oS q|exact Yn q|exact dW (by assumption) q|exact eX q|exact eS q|exact eN q):P:=h q
theorem zRn (q:Q) (h:Q->P:=by intro q;first|exact Yg q|exact Run.seqR q|exact oXw (by assumption) q|exact oS q|exact Yn q|exact eX q|exact eS q|exact eN q):P:=h q
theorem zN (q:Q) (h:Q->P:=by intro q;first|exact Yg q|exact Yq q|exact oXn (by assumption) q|exact oS q|exact Yn q|exact Yk q|exact cT q|exact cF q|exact Yb q|exact Ye q|exact eXn q|exact eS q|exact eN q|(refine Yt ?_;first|exact rB q|exact rI q|exact rA q|exact rII q|exact rSI q|exact rT q|exact rS q)):P:=h q
theorem zG (q:Q) (h:Q->P:=by intro q;first|exact Yg q|exact Yq q|exact Yn q|exact Yk q|exact cT q|exact cF q|exact Yb q|exact Ye q|exact eN q|exact dW (by assumption) q):P:=h q
theorem zS (q:Q) (h:Q->P:=by intro q;first|exact Yq q|exact Yg q|exact Yn q|exact Yk q|exact cT q|exact cF q|exact Yb q|exact Ye q):P:=h q
theorem zA (q:Q) (h:Q->P:=by intro q;first|exact oXw (by assumption) q|exact oS q|exact Yn q|exact Yg q|exact Yq q|exact Yk q|exact Yb q|exact Ye q|exact dW (by assumption) q|exact eX q|exact eS q|exact eN q):P:=h q
theorem zB (x:A->X) (y:B->Y) (h:(A->X)->(B->Y)->P:=by intro x y;first|exact oBw (by assumption) x y|exact eB x y):P:=h x y
def Vx (_:AV):Prop:=True
theorem oVw (_:Fz frz) {v v':AV} (he:v'=v) (k:RunOps Tryz.prog nt m ro' ops l ⟨tm',objs',dl⟩ K) (hg:qan ops (rd tm) o=some true:=by rfl) (hv:qax Et H0 frz (rd tm) objs o=some (v',ob,fl):=by rfl) (hf:fl=true:=by rfl) (ho:ob.getD objs=objs':=by first|(conv=>lhs;dsimp only [Option.getD])|rfl) (hp:qba v=false:=by rfl) (ht:qa6 nt tm o.dst v=some tm':=by rfl) :
  RunOps Tryz.prog nt m ro' ops (o :: l) ⟨tm,objs,dl⟩ K:=RunOps.x qak hg hv hf he ho hp ht k
theorem eVw {v v':AV} (he:v'=v) (k:EvD Tryz.prog Et frz nt ops s0 (i+1) (acc++[qbS (rd tm) objs o ob]) l ⟨tm',objs',dl⟩ G) (hg:qan ops (rd tm) o=some true:=by rfl) (hv:qax Et H0 frz (rd tm) objs o=some (v',ob,fl):=by rfl) (hf:fl=true:=by rfl) (ho:ob.getD objs=objs':=by first|(conv=>lhs;dsimp only [Option.getD])|rfl) (hp:qba v=false:=by rfl) (ht:qa6 nt tm o.dst v=some tm':=by rfl) :
  EvD Tryz.prog Et frz nt ops s0 i acc (o :: l) ⟨tm,objs,dl⟩ G:=EvD.x hg hv hf he ho hp ht k
theorem oIv (_:Fz frz) {v v':AV} (_:Vx v) (k:RunOps Tryz.prog nt m ro' ops l ⟨tm',objs',dl⟩ K) (hg:qan ops (rd tm) o=some true:=by rfl) (hv:qax Et H0 frz (rd tm) objs o=some (v',ob,fl):=by rfl) (he:v'=v) (hf:fl=true:=by first|(simp [inB]<;>fail)|(simp [inB];omega)) (ho:ob.getD objs=objs':=by first|(conv=>lhs;dsimp only [Option.getD])|rfl) (hp:qba v=false:=by rfl) (ht:qa6 nt tm o.dst v=some tm':=by rfl) :
  RunOps Tryz.prog nt m ro' ops (o :: l) ⟨tm,objs,dl⟩ K:=RunOps.x qak hg hv hf he ho hp ht k
theorem eIv {v v':AV} (_:Vx v) (k:EvD Tryz.prog Et frz nt ops s0 (i+1) (acc++[qbS (rd tm) objs o ob]) l ⟨tm',objs',dl⟩ G) (hg:qan ops (rd tm) o=some true:=by rfl) (hv:qax Et H0 frz (rd tm) objs o=some (v',ob,fl):=by rfl) (he:v'=v) (hf:fl=true:=by first|(simp [inB]<;>fail)|(simp [inB];omega)) (ho:ob.getD objs=objs':=by first|(conv=>lhs;dsimp only [Option.getD])|rfl) (hp:qba v=false:=by rfl) (ht:qa6 nt tm o.dst v=some tm':=by rfl) :
  EvD Tryz.prog Et frz nt ops s0 i acc (o :: l) ⟨tm,objs,dl⟩ G:=EvD.x hg hv hf he ho hp ht k
theorem zAp (q:Q) (h:Q->P:=by intro q;first|exact oXw (by assumption) q (hv:=qnV) (hf:=rfl) (he:=rfl)|exact eX q (hv:=qnV) (hf:=rfl) (he:=rfl)|exact oXw (by assumption) q (hv:=qAe) (hf:=rfl) (he:=rfl)|exact eX q (hv:=qAe) (hf:=rfl) (he:=rfl)):P:=h q
theorem zV {v v':AV} (he:v'=v) (q:Q) (h:v'=v->Q->P:=by intro e q;first|exact oVw (by assumption) e q|exact eVw e q):P:=h he q
theorem zI {F:Prop} (w:Fz frz) (v:AV) (f:F) (q:Q) (h:Fz frz->Vx v->F->Q->P:=by intro w x f q;first|exact oIv w x q (he:=by first|(simp [gD,qam,f]<;>fail)|fail)|exact eIv x q (he:=by first|(simp [gD,qam,f]<;>fail)|fail)):P:=h w trivial f q
theorem zIP {F:Prop} (w:Fz frz) (v:AV) (f:F) (q:Q) (h:Fz frz->Vx v->F->Q->P:=by intro w x f q;first|exact oIv w x q (he:=by first|(simp [gD,qam,qbf,f]<;>fail)|fail)|exact eIv x q (he:=by first|(simp [gD,qam,qbf,f]<;>fail)|fail)):P:=h w trivial f q
theorem zIR {F:Prop} (w:Fz frz) (v:AV) (f:F) (q:Q) (h:Fz frz->Vx v->F->Q->P:=by intro w x f q;first|exact oIv w x q (he:=by first|(simp [gD,qam,qbV,f]<;>fail)|fail)|exact eIv x q (he:=by first|(simp [gD,qam,qbV,f]<;>fail)|fail)):P:=h w trivial f q
theorem zk (a:A) (h:A->P:=by intro h;exfalso;simp at h;first|done|omega):P:=h a
theorem zC (c:qaa Tryz.prog g ds r) (q:Q) (h:qaa Tryz.prog g ds r->Q->P:=by intro c q;first|exact oC c q|exact eC c q):P:=h c q
theorem zK (c:qaa Tryz.prog g ds (.d (.bool b))) (x:A->X) (y:B->Y) (h:qaa Tryz.prog g ds (.d (.bool b))->(A->X)->(B->Y)->P:=by intro c x y;first|exact oK c x y|exact eK c x y):P:=h c x y
theorem zL (c:qaa Tryz.prog g ds r) (q:Q) (h:qaa Tryz.prog g ds r->Q->P:=by intro c q;first|exact oL c q|exact eL c q):P:=h c q
theorem zM (c:qaa Tryz.prog g ds r) (q:Q) (h:qaa Tryz.prog g ds r->Q->P:=by intro c q;first|exact oL c q|exact eL c q|exact oM c q|exact eM c q):P:=h c q
theorem zLb (c:qaa Tryz.prog g ds (.d (.bool b))) (x:A->X) (y:B->Y) (h:qaa Tryz.prog g ds (.d (.bool b))->(A->X)->(B->Y)->P:=by intro c x y;first|exact oLb c x y|exact eLb c x y):P:=h c x y
theorem fnB {n:Nat} {f:Func} (h1:Tryz.prog.funcs[n]?=some f) (l:List Nat) (h2:f.body.isSome=true:=by kernel_rfl) (h3:(f.name == "runtime.NumGoroutine")=false:=by kernel_rfl) (h4:xk l=none:=by rfl):qmt Tryz.prog n (qdf f l):=qd4 h1 h2 h3 h4
end
set_option maxRecDepth 10000
abbrev qao (l:List (List Nat)):DV:=.sl 1 (l.map .str)
abbrev qcV (l:List Int):DV:=.sl 1 (l.map (.int .i64))
theorem qai {α:Type} {l:List α} {i:Nat} (h:i<l.length):∃ x,l[i]?=some x:=⟨l[i],by simp [h]⟩
theorem qph (a b:List (List Nat)) (hal:a.length<=1099511627776):ACall Tryz.prog 41 [.d (qao a),.d (qao b)] [] (.d (.bool (decide (a=b)))) []:=by
 have w:Fz []:=trivial;refine qaf qak (fnB Tryz.func41 []) rfl rfl ?_
 repeat refine zA ?_
 refine Run.cond (by rfl) (fun h=>?_) (fun h=>?_)
 .have hne:a≠b:=fun e=>by subst e;simp at h
  repeat refine zA ?_
  refine Yt ?_;refine⟨trivial,rfl,Eq.trans (b:=some (.d (.bool false))) (by kernel_rfl) ?_⟩;rw [decide_eq_false hne]
 .have hlen:a.length=b.length:=by simp at h;omega
  repeat refine zA ?_
  refine Run.loop (fun i:Nat=>⟨PT.ofList [(0,.d (qao a)),(1,.d (qao b)),(5,.d (.int .i64 i))],[],[]⟩) (fun i=>i<=a.length/\a.take i=b.take i) (fun i=>a.length-i) 0 ⟨Nat.zero_le _,rfl⟩ (qac ⟨rfl,rfl,rfl,trivial⟩) (fun i hi=>?_)
  repeat refine zA ?_
  refine Run.cond (by rfl) (fun h=>?_) (fun h=>?_)
  .have hlt:i<a.length:=by simpa using h
   obtain⟨x,hx⟩:=qai hlt;obtain⟨y,hy⟩:=qai (show i<b.length by omega)
   repeat refine zA ?_
   first|refine oV (v:=.d (.ep [.str x])) ?_ (hf:=(by first|(simp [inB]<;>fail)|(simp [inB];omega))) (he:=(by first|(simp [List.getD_eq_getElem?_getD,qam,hx]<;>fail)|fail))|refine eX (v:=.d (.ep [.str x])) ?_ (hf:=(by first|(simp [inB]<;>fail)|(simp [inB];omega))) (he:=(by first|(simp [List.getD_eq_getElem?_getD,qam,hx]<;>fail)|fail))
   repeat refine zA ?_
   first|refine oV (v:=.d (.ep [.str y])) ?_ (hf:=(by first|(simp [inB]<;>fail)|(simp [inB];omega))) (he:=(by first|(simp [List.getD_eq_getElem?_getD,qam,hy]<;>fail)|fail))|refine eX (v:=.d (.ep [.str y])) ?_ (hf:=(by first|(simp [inB]<;>fail)|(simp [inB];omega))) (he:=(by first|(simp [List.getD_eq_getElem?_getD,qam,hy]<;>fail)|fail))
   repeat refine zA ?_
   refine Run.cond (by rfl) (fun h=>?_) (fun h=>?_)
   .have hne:a≠b:=fun e=>by subst e;rw [hx] at hy;cases hy;simp at h
    repeat refine zA ?_
    refine Yt ?_;refine⟨trivial,rfl,Eq.trans (b:=some (.d (.bool false))) (by kernel_rfl) ?_⟩;rw [decide_eq_false hne]
   .have hxy:x=y:=by simpa using h
    subst hxy;refine Yk ?_;refine Yg ?_;refine zX ?_
    first|refine oV (v:=.d (.int .i64 (i+1:Nat))) ?_ (he:=(congrArg (fun n=>AV.d (.int .i64 n)) (qaT (n:=i+1) (by omega))))|refine eX (v:=.d (.int .i64 (i+1:Nat))) ?_ (he:=(congrArg (fun n=>AV.d (.int .i64 n)) (qaT (n:=i+1) (by omega))))
    refine zX ?_;refine Yn ?_;refine⟨i+1,⟨by omega,?_⟩,by omega,qac ⟨rfl,rfl,rfl,trivial⟩⟩;rw [List.take_add_one,List.take_add_one,hi.2,hx,hy]
  .have hge:i=a.length:=by have:=hi.1;simp at h;omega
   have hab:a=b:=by have:=hi.2;rw [hge,List.take_length,hlen,List.take_length] at this;exact this
   repeat refine zA ?_
   refine Yt ?_;refine⟨trivial,rfl,Eq.trans (b:=some (.d (.bool true))) (by kernel_rfl) ?_⟩;rw [decide_eq_true hab]
theorem qgr (a b:List (List Nat)) (hal:a.length<=1099511627776):qaa Tryz.prog 41 [qao a,qao b] (.d (.bool (decide (a=b)))):=fun o=>qgt (k:=8) rfl (qph a b hal) rfl o
structure qaV where
 left:Int
 right:List Int
structure qaH where
 k:Int
 tokens:List (List Nat)
 sep:List Nat
 names:List (List Nat)
 start:Int
 prods:List qaV
def qbf (p:qaV):DV:=.agg [.int .i64 p.left,qcV p.right]
abbrev qd5 (g:qaH):DV:=.agg [.int .i64 g.k,qao g.tokens,.str g.sep,qao g.names,.int .i64 g.start,.sl 2 (g.prods.map qbf)]
structure Fits (g:qaH):Prop where
 tokens:g.tokens.length<=1048576
 names:g.names.length<=1048576
 prods:g.prods.length<=1048576
 sep:g.sep.length<=1048576
 tokenS:∀ s ∈ g.tokens,s.length<=1048576
 nameS:∀ s ∈ g.names,s.length<=1048576
 rights:∀ p ∈ g.prods,p.right.length<=1048576
def qek (g:qaH) (s:Int):Bool:=decide (0<=s) && decide (s<g.tokens.length)
def qaK (g:qaH) (s:Int):Bool:=decide (16<=s) && decide (s<16+g.names.length)
theorem qrN (g:qaH) (s:Int):ACall Tryz.prog 166 [.d (qd5 g),.d (.int .i64 s)] [] (.d (.bool (qek g s))) []:=by
 have w:Fz [2]:=trivial;refine qaf qak (fnB Tryz.func166 [2]) rfl rfl ?_;by_cases h:0<=s
 .refine Yq (Yg ?_)
  iterate 2 refine zX ?_
  refine Yn ?_;refine Yq (Yg ?_);refine zX ?_
  first|refine oV (v:=.d (.bool true)) ?_ (he:=(by simp [h]))|refine eX (v:=.d (.bool true)) ?_ (he:=(by simp [h]))
  repeat refine zA ?_
  refine Yt ?_;refine⟨trivial,rfl,Eq.trans (b:=some (.d (.bool (decide (s<((g.tokens.map DV.str).length:Nat)))))) (by kernel_rfl) ?_⟩;simp [qek,h]
 .refine Yq (Yg ?_)
  iterate 2 refine zX ?_
  refine Yn ?_;refine Yq (Yg ?_);refine zX ?_
  first|refine oV (v:=.d (.bool false)) ?_ (he:=(by simp [h]))|refine eX (v:=.d (.bool false)) ?_ (he:=(by simp [h]))
  refine zX ?_;iterate 5 refine RunOps.skip (by rfl) (by rfl) ?_
  repeat refine zA ?_
  refine Yt ?_;refine⟨trivial,rfl,Eq.trans (b:=some (.d (.bool false))) (by kernel_rfl) ?_⟩;simp [qek,h]
theorem qh1 (g:qaH) (s:Int):qaa Tryz.prog 166 [qd5 g,.int .i64 s] (.d (.bool (qek g s))):=fun o=>qgt (k:=8) rfl (qrN g s) rfl o
theorem qjc (ps:List qaV) (hl:ps.length<=1099511627776) (yi L:Nat) (B:Nat->List Ob) (hyi:Nat.blt yi L=true) (hL:∀ k,(B k).length=L) (hR:∀ k,(B k).all (qbB L)=true) (n:Nat) (hn:n<=ps.length)
  (hy:∀ k p,k<n->ps[k]?=some p->qcJ Tryz.prog yi [.d (.int .i64 k),.d (qbf p)] (B k) (.d (.bool true)) (B (k+1))) (obs:List Ob)
  (hend:n=ps.length/\obs=B n\/∃ p,ps[n]?=some p/\qcJ Tryz.prog yi [.d (.int .i64 n),.d (qbf p)] (B n) (.d (.bool false)) obs) :
  ACall Tryz.prog 221 [.yl yi,.d (.ep [.sl 2 (ps.map qbf)])] (B 0) (.tup []) obs:=by
 have w:Fz []:=trivial;refine qaf qak (fnB Tryz.func221 []) rfl rfl ?_
 repeat refine zA ?_
 refine Run.loop (fun k:Nat=>⟨PT.ofList [(0,.yl yi),(5,.d (.sl 2 (ps.map qbf))),(6,.d (.int .i64 (ps.map qbf).length)),(7,.d (.int .i64 k))],B k,[]⟩) (fun k=>k<=n) (fun k=>ps.length-k) 0 (Nat.zero_le _) (qac ⟨rfl,rfl,rfl,rfl,trivial⟩) (fun k hk=>?_)
 repeat refine zA ?_
 refine Run.cond (by rfl) (fun h=>?_) (fun h=>?_)
 .have hlt:k<ps.length:=by simpa using h
  obtain⟨p,hp⟩:=qai hlt
  repeat refine zA ?_
  first|refine oV (v:=.d (.ep [.int .i64 p.left,qcV p.right])) ?_ (hf:=(by first|(simp [inB]<;>fail)|(simp [inB];omega))) (he:=(by first|(simp [List.getD_eq_getElem?_getD,qam,hp,qbf]<;>fail)|fail))|refine eX (v:=.d (.ep [.int .i64 p.left,qcV p.right])) ?_ (hf:=(by first|(simp [inB]<;>fail)|(simp [inB];omega))) (he:=(by first|(simp [List.getD_eq_getElem?_getD,qam,hp,qbf]<;>fail)|fail))
  repeat refine zA ?_
  refine RunOps.x (frz:=[]) (v:=.d .any) (ob:=some (B k++[.box [.d (.int .i64 p.left),.d (qcV p.right)]])) (fl:=true) qak (by rfl)
   (Eq.trans (b:=Option.map (fun(p:AV × List Ob × Bool)=>(p.1,some p.2.1,p.2.2)) (qff Et 82 (.bp (B k).length 0) (.d (.agg [.int .i64 p.left,qcV p.right])) (B k++[.box [.d (.int .i64 0),.d .nilsl]]))) rfl (by rw [qhh (y:=qxz) (by rfl) (B k) _ (by rfl) (by rfl) (by rfl)];rfl)) rfl rfl rfl rfl (by rfl) ?_
  repeat refine zA ?_
  refine RunOps.x (frz:=[]) (v:=.d (.agg [.int .i64 p.left,qcV p.right])) (ob:=none) (fl:=true) qak (by rfl)
   (Eq.trans (b:=Option.map (fun(p:AV × List Ob × Bool)=>(p.1,none,p.2.2)) (qgx Et 82 (.bp (B k).length 0) (B k++[.box [.d (.int .i64 p.left),.d (qcV p.right)]]))) rfl (by rw [qmV (y:=qxz) (by rfl) (by rfl) (B k) _ (by rfl)];rfl)) rfl rfl rfl rfl (by rfl) ?_
  have hLk:=hL k;have hb:Nat.blt yi (B k).length=true:=by rw [hLk];exact hyi
  refine RunOps.less (qcP [(5,.d (.sl 2 (ps.map qbf))),(6,.d (.int .i64 (ps.map qbf).length)),(7,.d (.int .i64 k)),(12,.yl yi),(0,.yl yi),(13,.d (.int .i64 k)),(14,.d (qbf p))] (B k).length (List.take_left) (by rw [hL,hL];exact Nat.ble_eq_true_of_le (Nat.le_refl _))
   ⟨by kernel_rfl,by kernel_rfl,by kernel_rfl,by kernel_rfl,by kernel_rfl,by kernel_rfl,by kernel_rfl,trivial⟩ ⟨rfl,rfl,rfl,hb,hb,rfl,rfl,trivial⟩ (by rw [hLk];exact hR k) rfl) ?_
  rcases Nat.lt_or_ge k n with hkn|hkn
  .refine RunOps.yield (by rfl) (by rfl) (hy k p hkn hp) (by rfl) (by rfl) ?_
   repeat refine zA ?_
   refine Run.cond (b:=false) (by rfl) (fun h=>by cases h) (fun _=>?_)
   repeat refine zA ?_
   exact⟨k+1,hkn,by omega,qac ⟨(by kernel_rfl),(by kernel_rfl),(by kernel_rfl),(qaq (k:=k) (by kernel_rfl) (by omega)),trivial⟩⟩
  .have hkn:k=n:=by omega
   subst hkn;rcases hend with⟨h1,_⟩|⟨p',hp',hA⟩
   .omega
   .rw [hp] at hp';cases hp'
    refine RunOps.yield (by rfl) (by rfl) hA (by rfl) (by rfl) ?_
    repeat refine zA ?_
    refine Run.cond (b:=true) (by rfl) (fun _=>?_) (fun h=>by cases h);refine Yt ?_;exact⟨trivial,rfl,by kernel_rfl⟩
 .have hge:ps.length<=k:=by simpa using h
  have hkn:k=n:=by omega
  subst hkn;rcases hend with⟨_,rfl⟩|⟨p',hp',_⟩
  .repeat refine zA ?_
   exact⟨trivial,rfl,by kernel_rfl⟩
  .rw [List.getElem?_eq_none (by omega)] at hp';cases hp'
abbrev qem (ps:List qaV):DV:=.fn (.func 221) [] [.ep [.sl 2 (ps.map qbf)]]
theorem Run.rangeProds {nt m:Nat} {frz:List Nat} {K:Ex->S->Prop} {tm:PT AV} {dl:List Dl} {f:Operand} {qs:Array Tmp} {assign body:Code} (L:Nat) (Bs:Nat->List Ob) (ps:List qaV) (hl:ps.length<=1099511627776)
  (hf:rd tm f=.d (qem ps)) (hBL:∀ k,(Bs k).length=L) (hBr:∀ k,(Bs k).all (qbB (L+2))=true) (hT:qdO (qg6 8 (L+2)) tm=true) (n:Nat) (hn:n<=ps.length)
  (hround:∀ k p,k<n->ps[k]?=some p->qcJ Tryz.prog (L+1) [.d (.int .i64 k),.d (qbf p)] (qag (Bs k) tm nt frz qs assign body .ready none) (.d (.bool true)) (qag (Bs (k+1)) tm nt frz qs assign body .ready none))
  (hend:(n=ps.length/\K .normal ⟨tm,qag (Bs n) tm nt frz qs assign body .exhausted none,.mark L :: dl⟩) \/
   ∃ p Be,ps[n]?=some p/\(Be.length=L)/\((qcJ Tryz.prog (L+1) [.d (.int .i64 n),.d (qbf p)] (qag (Bs n) tm nt frz qs assign body .ready none) (.d (.bool false)) (qag Be tm nt frz qs assign body .done (some .ret)) /\
     K .ret ⟨tm,qag Be tm nt frz qs assign body .exhausted (some .ret),.mark L :: dl⟩) \/
    ∃ id,qcJ Tryz.prog (L+1) [.d (.int .i64 n),.d (qbf p)] (qag (Bs n) tm nt frz qs assign body .ready none) (.d (.bool false)) (qag Be tm nt frz qs assign body .done (some (.exit id))) /\
     K (.exit id) ⟨tm,qag Be tm nt frz qs assign body .exhausted (some (.exit id)),.mark L :: dl⟩)) :
  Run Tryz.prog nt m none (.rangeFunc f qs assign body) ⟨tm,Bs 0,dl⟩ K:=by
 have hlen:∀ B:List Ob,B.length=L->∀ st pend,(qag B tm nt frz qs assign body st pend).length=L+2:=fun B h st pend=>by simp [qag,h]
 have hrefs:∀ k,(qag (Bs k) tm nt frz qs assign body .ready none).all (qbB (L+2))=true:=fun k=>by
  simp only [qag,List.all_append,hBr k,Bool.true_and,List.all_cons,List.all_nil,Bool.and_true];simp only [qbB,hT,Bool.and_self]
 have hget:∀ B:List Ob,B.length=L->∀ st pend,(qag B tm nt frz qs assign body st pend)[L+1]?=some (.loop tm nt frz qs assign body st pend):=fun B h st pend=>by
  subst h;simp [qag]
 have hset:∀ B:List Ob,B.length=L->∀ st pend st' pend',(qag B tm nt frz qs assign body st pend).set (L+1) (.loop tm nt frz qs assign body st' pend')=qag B tm nt frz qs assign body st' pend':=fun B h st pend st' pend'=>by
  subst h;unfold qag;rw [List.set_append_right _ _ (by simp)]
  simp
 have hyi:Nat.blt (L+1) (L+2)=true:=by rw [Nat.blt_eq];omega
 have hm:Tryz.prog.follows .mixedOrders=true:=by kernel_rfl
 rcases hend with⟨h1,h2⟩|⟨p,Be,hp,hBe,⟨h1,h2⟩|⟨id,h1,h2⟩⟩
 .have hA:=qjc ps hl (L+1) (L+2) (fun k=>qag (Bs k) tm nt frz qs assign body .ready none) hyi (fun k=>hlen _ (hBL k) _ _) hrefs n hn hround (qag (Bs n) tm nt frz qs assign body .ready none) (.inl ⟨h1,rfl⟩)
  rw [<- hBL 0] at hA;have:=Run.range (m:=m) (s:=⟨tm,Bs 0,dl⟩) (K:=K) qak hm hf hA rfl (by rw [hBL 0];exact hget _ (hBL n) _ _) (by simp) (by
   simp only [hBL 0];rw [hset _ (hBL n)];exact h2)
  exact this
 .have hA:=qjc ps hl (L+1) (L+2) (fun k=>qag (Bs k) tm nt frz qs assign body .ready none) hyi (fun k=>hlen _ (hBL k) _ _) hrefs n hn hround (qag Be tm nt frz qs assign body .done (some .ret)) (.inr ⟨p,hp,h1⟩)
  rw [<- hBL 0] at hA;have:=Run.range (m:=m) (s:=⟨tm,Bs 0,dl⟩) (K:=K) qak hm hf hA rfl (by rw [hBL 0];exact hget _ hBe _ _) (by simp) (by
   simp only [hBL 0];rw [hset _ hBe];exact h2)
  exact this
 .have hA:=qjc ps hl (L+1) (L+2) (fun k=>qag (Bs k) tm nt frz qs assign body .ready none) hyi (fun k=>hlen _ (hBL k) _ _) hrefs n hn hround (qag Be tm nt frz qs assign body .done (some (.exit id))) (.inr ⟨p,hp,h1⟩)
  rw [<- hBL 0] at hA;have:=Run.range (m:=m) (s:=⟨tm,Bs 0,dl⟩) (K:=K) qak hm hf hA rfl (by rw [hBL 0];exact hget _ hBe _ _) (by simp) (by
   simp only [hBL 0];rw [hset _ hBe];exact h2)
  exact this
theorem qeL {n:Int} (h1:-9223372036854775808<=n) (h2:n<=9223372036854775807):IntKind.i64.wrap n=n:=IntWalk.i64_in n ⟨h1,h2⟩
theorem qcs (g:qaH) (s:Int) (hf:Fits g):qaa Tryz.prog 164 [qd5 g,.int .i64 s] (.d (.bool (qaK g s))):=by
 have hn:=hf.names;have hw:IntKind.i64.wrap (16+(g.names.length:Int))=16+g.names.length:=qeL (by omega) (by omega);refine kF Tryz.func164 [2] fun w=>?_
 repeat' (first|refine zW ?_|refine zB ?_ ?_<;>intro h<;>try exact zk h|(show _=_;first|(simp_all [qaK];done)|(simp_all [qaK];omega))|fail)
def qa4 (c:Int):Bool:=(decide (97<=c) && decide (c<=122)) || (decide (65<=c) && decide (c<=90))
def qdZ (c:Int):Bool:=decide (48<=c) && decide (c<=57)
def qiJ (s:List Nat) (i:Nat):Prop:=∃ c:Nat,s[i]?=some c/\qa4 c=false/\(i=0\/(qdZ c=false/\(c:Int)≠95))
open Classical in
def qea (s:List Nat):Int:=if s=[] then 5 else if ∃ i,qiJ s i then 3 else if 12<s.length then 4 else 0
def qcz:List Nat:=[108,111,111,107,97,104,101,97,100]
def qaZ:List Nat:=[116,111,107,101,110]
def qf2:List Nat:=[115,101,112,97,114,97,116,111,114]
def qbk:List Nat:=[115,116,97,114,116]
def qc3 (s:List Nat):Bool:=decide (s=qcz\/s=qaZ\/s=qf2\/s=qbk)
def qcS (s:List Nat):Int:=if qea s=0/\qc3 s=true then 12 else qea s
theorem qlX (c:Int):qaa Tryz.prog 266 [.int .u8 c] (.d (.bool (qa4 c))):=by
 refine kF Tryz.func266 [] fun w=>?_
 repeat' (first|refine zW ?_|refine zB ?_ ?_<;>intro h<;>try exact zk h|(show _=_;first|(simp_all [qa4];done)|(simp_all [qa4];omega))|fail)
theorem qpa (c:Int):qaa Tryz.prog 260 [.int .i32 c] (.d (.bool (qa4 c))):=by
 refine kF Tryz.func260 [] fun w=>?_
 repeat' (first|refine zW ?_|refine zB ?_ ?_<;>intro h<;>try exact zk h|(show _=_;first|(simp_all [qa4];done)|(simp_all [qa4];omega))|fail)
theorem qos (c:Int):qaa Tryz.prog 267 [.int .u8 c] (.d (.bool (qdZ c))):=by
 refine kF Tryz.func267 [] fun w=>?_
 repeat' (first|refine zW ?_|refine zB ?_ ?_<;>intro h<;>try exact zk h|(show _=_;first|(simp_all [qdZ];done)|(simp_all [qdZ];omega))|fail)
theorem qs1 (c:Int):qaa Tryz.prog 261 [.int .i32 c] (.d (.bool (qdZ c))):=by
 refine kF Tryz.func261 [] fun w=>?_
 repeat' (first|refine zW ?_|refine zB ?_ ?_<;>intro h<;>try exact zk h|(show _=_;first|(simp_all [qdZ];done)|(simp_all [qdZ];omega))|fail)
theorem qiP (s:List Nat):qaa Tryz.prog 250 [.str s] (.d (.bool (qc3 s))):=by
 refine kF Tryz.func250 [] fun w=>?_
 repeat' (first|refine zW ?_|refine zB ?_ ?_<;>intro h<;>try exact zk h|(show _=_;first|(simp_all [qc3,qcz,qaZ,qf2,qbk];done))|fail)
theorem qgz {s:List Nat} (hs:s≠[]) {i:Nat} (h:qiJ s i):qea s=3:=by
 unfold qea;rw [if_neg hs,if_pos ⟨i,h⟩]
theorem qhq {s:List Nat} (hs:s≠[]) (h:∀ i,¬ qiJ s i):qea s=if 12<s.length then 4 else 0:=by
 unfold qea;rw [if_neg hs,if_neg (fun⟨i,hi⟩=>h i hi)]
theorem qqH (s:List Nat) (hl:s.length<=1099511627776):qaa Tryz.prog 249 [.str s] (.d (.int .i64 (qea s))):=by
 refine kF Tryz.func249 [] fun w=>?_
 repeat' (first|refine zW ?_|refine zB ?_ ?_<;>intro h<;>try exact zk h|(show _=_;simp_all [qea])|fail)
 have hs:s≠[]:=by simpa using h
 refine Run.loop (fun i:Nat=>⟨PT.ofList [(0,.d (.str s)),(3,.d (.int .i64 i))],[],[]⟩) (fun i=>i<=s.length/\∀ j,j<i->¬ qiJ s j) (fun i=>s.length-i) 0 ⟨Nat.zero_le _,fun j hj=>by omega⟩ (qac ⟨rfl,rfl,trivial⟩) (fun i hi=>?_);obtain⟨hi1,hi2⟩:=hi;rcases Nat.lt_or_ge i s.length with hlt|hge
 .obtain⟨c,hc⟩:=qai hlt
  have hbad:qiJ s i ↔ qa4 c=false/\(i=0\/(qdZ c=false/\(c:Int)≠95)):=⟨fun⟨c',h1,h2⟩=>by rw [hc] at h1;cases h1;exact h2,fun h=>⟨c,hc,h⟩⟩
  repeat' (first|refine zW ?_|refine zB ?_ ?_<;>intro h<;>try exact zk h|refine zI w (.d (.int .u8 c)) hc ?_|refine zK (qlX _) ?_ ?_<;>intro h<;>try exact zk h|refine zC (qlX _) ?_|refine zK (qos _) ?_ ?_<;>intro h<;>try exact zk h|refine zC (qos _) ?_|(show _=_;rw [qgz hs (i:=i) (hbad.2 (by simp_all))])|(exact⟨i+1,⟨by omega,fun j hj=>by rcases Nat.lt_succ_iff_lt_or_eq.1 hj with h|h;exact hi2 j h;subst h;rw [hbad];simp_all⟩,by omega,qac ⟨(by kernel_rfl),(qaq (k:=i) (by kernel_rfl) (by omega)),trivial⟩⟩)|fail)
 .have hge:i=s.length:=by omega
  have hall:∀ j,¬ qiJ s j:=fun j hj=>by
   by_cases hlt:j<i
   .exact hi2 j hlt hj
   .obtain⟨c,h1,_⟩:=hj
    rw [List.getElem?_eq_none (by omega)] at h1;cases h1
  repeat' (first|refine zW ?_|refine zB ?_ ?_<;>intro h<;>try exact zk h|(show _=_;rw [qhq hs hall];first|(simp_all []<;>fail)|(simp_all [];omega))|fail)
theorem word (s:List Nat) (hl:s.length<=1099511627776):qaa Tryz.prog 238 [.str s] (.d (.int .i64 (qea s))):=by
 refine kF Tryz.func238 [] fun w=>?_
 repeat' (first|refine zW ?_|refine zB ?_ ?_<;>intro h<;>try exact zk h|(show _=_;simp_all [qea])|fail)
 have hs:s≠[]:=by simpa using h
 refine Run.loop (fun i:Nat=>⟨PT.ofList [(0,.d (.str s)),(8,.bp 0 0)],[.sit s i],[]⟩) (fun i=>i<=s.length/\∀ j,j<i->¬ qiJ s j) (fun i=>s.length-i) 0 ⟨Nat.zero_le _,fun j hj=>by omega⟩ (qac ⟨rfl,rfl,trivial⟩) (fun i hi=>?_);obtain⟨hi1,hi2⟩:=hi;rcases Nat.lt_or_ge i s.length with hlt|hge
 .obtain⟨c,hc⟩:=qai hlt
  have hbad:qiJ s i ↔ qa4 c=false/\(i=0\/(qdZ c=false/\(c:Int)≠95)):=⟨fun⟨c',h1,h2⟩=>by rw [hc] at h1;cases h1;exact h2,fun h=>⟨c,hc,h⟩⟩
  rcases Nat.lt_or_ge c 128 with h8|h8
  .have hd:=qpZ hc h8
   repeat' (first|refine zW ?_|refine zB ?_ ?_<;>intro h<;>try exact zk h|refine RunOps.next qak (by rfl) (by rfl) (by rfl) hlt hd (by rfl) (by rfl) (by rfl) ?_|refine zK (qpa _) ?_ ?_<;>intro h<;>try exact zk h|refine zC (qpa _) ?_|refine zK (qs1 _) ?_ ?_<;>intro h<;>try exact zk h|refine zC (qs1 _) ?_|(show _=_;rw [qgz hs (i:=i) (hbad.2 (by simp_all))])|(exact⟨i+1,⟨by omega,fun j hj=>by rcases Nat.lt_succ_iff_lt_or_eq.1 hj with h|h;exact hi2 j h;subst h;rw [hbad];simp_all⟩,by omega,qb4 (by rfl) rfl ⟨(by kernel_rfl),(by kernel_rfl),trivial⟩⟩)|fail)
  .have hd:=qqR hc h8
   obtain⟨r,n,hrn⟩:∃ r n,qsj s i=(r,n):=⟨_,_,rfl⟩
   rw [hrn] at hd;have hb:qiJ s i:=hbad.2 ⟨by simp [qa4];omega,.inr ⟨by simp [qdZ];omega,by omega⟩⟩;have hr1:qa4 r=false:=by simp [qa4];simp at hd;omega
   have hr2:qdZ r=false:=by simp [qdZ];simp at hd;omega
   have hr3:(r:Int)≠95:=by simp at hd;omega
   repeat' (first|refine zW ?_|refine zB ?_ ?_<;>intro h<;>try exact zk h|refine RunOps.next qak (by rfl) (by rfl) (by rfl) hlt hrn (by rfl) (by rfl) (by rfl) ?_|refine zK (qpa _) ?_ ?_<;>intro h<;>try exact zk h|refine zC (qpa _) ?_|refine zK (qs1 _) ?_ ?_<;>intro h<;>try exact zk h|refine zC (qs1 _) ?_|(show _=_;rw [qgz hs (i:=i) hb])|(exfalso;simp_all)|fail)
 .have hge:i=s.length:=by omega
  have hall:∀ j,¬ qiJ s j:=fun j hj=>by
   by_cases hlt:j<i
   .exact hi2 j hlt hj
   .obtain⟨c,h1,_⟩:=hj
    rw [List.getElem?_eq_none (by omega)] at h1;cases h1
  repeat' (first|refine zW ?_|refine zB ?_ ?_<;>intro h<;>try exact zk h|refine RunOps.nextEnd qak (by rfl) (by rfl) (by rfl) (Nat.le_of_eq hge.symm) (by rfl) (by rfl) ?_|(show _=_;rw [qhq hs hall];first|(simp_all []<;>fail)|(simp_all [];omega))|fail)
theorem qcv (s:List Nat) (hl:s.length<=1099511627776):qaa Tryz.prog 224 [.str s] (.d (.int .i64 (qcS s))):=by
 refine kF Tryz.func224 [] fun w=>?_
 repeat' (first|refine zW ?_|refine zB ?_ ?_<;>intro h<;>try exact zk h|refine zK (qqH _ hl) ?_ ?_<;>intro h<;>try exact zk h|refine zC (qqH _ hl) ?_|refine zK (qiP _) ?_ ?_<;>intro h<;>try exact zk h|refine zC (qiP _) ?_|(show _=_;first|(simp_all [qcS]<;>fail)|(simp_all [qcS];omega))|fail)
theorem qa1 {p:Nat->Prop} {i:Nat} (h:∀ j,j<i->p j) (h':p i):∀ j,j<i+1->p j:=fun j hj=>by
 rcases Nat.lt_succ_iff_lt_or_eq.1 hj with h1|h1
 .exact h j h1
 .exact h1 ▸ h'
def qbX (l:List (List Nat)) (s:List Nat):Int:=if s ∈ l then(l.idxOf s:Nat) else -1
theorem qfG {l:List (List Nat)} {s:List Nat} {i:Nat} (h:l[i]?=some s) (hb:∀ j,j<i->l[j]?≠some s):qbX l s=i:=by
 have hm:s ∈ l:=List.mem_of_getElem? h;have hi:i<l.length:=(List.getElem?_eq_some_iff.1 h).1;have h1:l.idxOf s<l.length:=List.idxOf_lt_length_iff.2 hm;have h2:l[l.idxOf s]?=some s:=by rw [List.getElem?_eq_getElem h1,List.getElem_idxOf h1]
 have h3:¬ l.idxOf s<i:=fun hlt=>hb _ hlt h2;have h4:¬ i<l.idxOf s:=fun hlt=>by
  have:=List.not_of_lt_findIdx hlt;have e:l[i]=s:=(List.getElem?_eq_some_iff.1 h).2;simp [e] at this
 rw [qbX,if_pos hm];omega
theorem qhm {l:List (List Nat)} {s:List Nat} (hb:∀ j,j<l.length->l[j]?≠some s):qbX l s=-1:=by
 rw [qbX,if_neg];intro hm;obtain⟨i,hi,e⟩:=List.getElem_of_mem hm;exact hb i hi (by rw [List.getElem?_eq_getElem hi,e])
theorem qkM (l:List (List Nat)) (s:List Nat) (hl:l.length<=1099511627776):qaa Tryz.prog 205 [qao l,.str s] (.d (.int .i64 (qbX l s))):=by
 refine kF Tryz.func205 [] fun w=>?_
 repeat' (first|refine zW ?_|refine zB ?_ ?_<;>intro h<;>try exact zk h|fail)
 refine Run.loop (fun i:Nat=>⟨PT.ofList [ (0,.d (qao l)),(1,.d (.str s)),(5,.d (.int .i64 i))],[],[]⟩) (fun i=>i<=l.length/\∀ j,j<i->l[j]?≠some s) (fun i=>l.length-i) 0 ⟨Nat.zero_le _,fun j hj=>by omega⟩ (qac (by repeat' (first|exact trivial|refine⟨rfl,?_⟩))) (fun i hi=>?_);obtain⟨hi1,hi2⟩:=hi;rcases Nat.lt_or_ge i l.length with hlt|hge
 .obtain⟨x,hx⟩:=qai hlt
  repeat' (first|refine zW ?_|refine zB ?_ ?_<;>intro h<;>try exact zk h|refine zI w (.d (.ep [.str x])) hx ?_|(show _=_;rw [qfG (i:=i) (by simp_all) hi2])|(exact⟨i+1,⟨by omega,qa1 hi2 (by rw [hx];intro e;simp_all)⟩,by omega,qac (by repeat' (first|exact trivial|refine⟨rfl,?_⟩|refine⟨(qaq (k:=i) (by kernel_rfl) (by omega)),?_⟩))⟩)|fail)
 .have hge:i=l.length:=by omega
  repeat' (first|refine zW ?_|refine zB ?_ ?_<;>intro h<;>try exact zk h|(show _=_;rw [qhm (fun j hj=>hi2 j (by omega))])|fail)
theorem index (l:List (List Nat)) (s:List Nat) (hl:l.length<=1099511627776):qaa Tryz.prog 165 [qao l,.str s] (.d (.int .i64 (qbX l s))):=by
 refine kF Tryz.func165 [] fun w=>?_
 repeat' (first|refine zW ?_|refine zB ?_ ?_<;>intro h<;>try exact zk h|fail)
 refine Run.loop (fun i:Nat=>⟨PT.ofList [(7,.d (.int .i64 ((l.map DV.str).length:Nat))),(0,.d (qao l)),(1,.d (.str s)),(8,.d (.int .i64 i))],[],[]⟩) (fun i=>i<=l.length/\∀ j,j<i->l[j]?≠some s) (fun i=>l.length-i) 0 ⟨Nat.zero_le _,fun j hj=>by omega⟩ (qac (by repeat' (first|exact trivial|refine⟨rfl,?_⟩))) (fun i hi=>?_);obtain⟨hi1,hi2⟩:=hi;rcases Nat.lt_or_ge i l.length with hlt|hge
 .obtain⟨x,hx⟩:=qai hlt
  repeat' (first|refine zW ?_|refine zB ?_ ?_<;>intro h<;>try exact zk h|refine zI w (.d (.ep [.str x])) hx ?_|(show _=_;rw [qfG (i:=i) (by simp_all) hi2])|(exact⟨i+1,⟨by omega,qa1 hi2 (by rw [hx];intro e;simp_all)⟩,by omega,qac (by repeat' (first|exact trivial|refine⟨rfl,?_⟩|refine⟨(qaq (k:=i) (by kernel_rfl) (by omega)),?_⟩))⟩)|fail)
 .have hge:i=l.length:=by omega
  repeat' (first|refine zW ?_|refine zB ?_ ?_<;>intro h<;>try exact zk h|(show _=_;rw [qhm (fun j hj=>hi2 j (by omega))])|fail)
theorem qgy (l:List (List Nat)) (s:List Nat) (hl:l.length<=1099511627776):qaa Tryz.prog 125 [qao l,.str s] (.d (.bool (decide (s ∈ l)))):=by
 refine kF Tryz.func125 [] fun w=>?_
 repeat' (first|refine zW ?_|refine zB ?_ ?_<;>intro h<;>try exact zk h|refine zK (index _ _ hl) ?_ ?_<;>intro h<;>try exact zk h|refine zC (index _ _ hl) ?_|(show _=_;by_cases hm:s ∈ l<;>(first|(simp_all [qbX]<;>fail)|(simp_all [qbX];omega)))|fail)
abbrev qlO:List AV:=[.d (.str qcz),.d (.str qaZ),.d (.str qf2),.d (.str qbk)]
theorem qxe (s:List Nat):ACall Tryz.prog 165 [.bs 0 0 4 4,.d (.str s)] [.box qlO] (.d (.int .i64 (qbX [qcz,qaZ,qf2,qbk] s))) [.box qlO]:=by
 have w:Fz []:=trivial;refine qaf qak (fnB Tryz.func165 []) rfl rfl ?_
 repeat' (first|refine zW ?_|refine zB ?_ ?_<;>intro h<;>try exact zk h|fail)
 refine Run.loop (fun i:Nat=>⟨PT.ofList [(0,.bs 0 0 4 4),(1,.d (.str s)),(7,.d (.int .i64 4)),(8,.d (.int .i64 i))],[.box qlO],[]⟩) (fun i=>i<=4/\∀ j,j<i->[qcz,qaZ,qf2,qbk][j]?≠some s) (fun i=>4-i) 0 ⟨Nat.zero_le _,fun j hj=>by omega⟩ (qac (by repeat' (first|exact trivial|refine⟨rfl,?_⟩))) (fun i hi=>?_);obtain⟨hi1,hi2⟩:=hi;have hcase:i=0\/i=1\/i=2\/i=3\/i=4:=by omega
 rcases hcase with h|h|h|h|h<;>subst h
 .repeat' (first|refine zW ?_|refine zB ?_ ?_<;>intro h<;>try exact zk h|(exact⟨1,⟨by omega,qa1 hi2 (fun e=>by simp at e;subst e;simp at h)⟩,by omega,qac (by repeat' (first|exact trivial|refine⟨rfl,?_⟩))⟩)|fail)
  have hs:s=qcz:=by simpa using h
  refine Yt ?_;refine⟨trivial,rfl,Eq.trans (b:=some (.d (.int .i64 0))) (by rfl) ?_⟩;rw [qfG (i:=0) (by rw [hs];rfl) hi2];rfl
 .repeat' (first|refine zW ?_|refine zB ?_ ?_<;>intro h<;>try exact zk h|(exact⟨2,⟨by omega,qa1 hi2 (fun e=>by simp at e;subst e;simp at h)⟩,by omega,qac (by repeat' (first|exact trivial|refine⟨rfl,?_⟩))⟩)|fail)
  have hs:s=qaZ:=by simpa using h
  refine Yt ?_;refine⟨trivial,rfl,Eq.trans (b:=some (.d (.int .i64 1))) (by rfl) ?_⟩;rw [qfG (i:=1) (by rw [hs];rfl) hi2];rfl
 .repeat' (first|refine zW ?_|refine zB ?_ ?_<;>intro h<;>try exact zk h|(exact⟨3,⟨by omega,qa1 hi2 (fun e=>by simp at e;subst e;simp at h)⟩,by omega,qac (by repeat' (first|exact trivial|refine⟨rfl,?_⟩))⟩)|fail)
  have hs:s=qf2:=by simpa using h
  refine Yt ?_;refine⟨trivial,rfl,Eq.trans (b:=some (.d (.int .i64 2))) (by rfl) ?_⟩;rw [qfG (i:=2) (by rw [hs];rfl) hi2];rfl
 .repeat' (first|refine zW ?_|refine zB ?_ ?_<;>intro h<;>try exact zk h|(exact⟨4,⟨by omega,qa1 hi2 (fun e=>by simp at e;subst e;simp at h)⟩,by omega,qac (by repeat' (first|exact trivial|refine⟨rfl,?_⟩))⟩)|fail)
  have hs:s=qbk:=by simpa using h
  refine Yt ?_;refine⟨trivial,rfl,Eq.trans (b:=some (.d (.int .i64 3))) (by rfl) ?_⟩;rw [qfG (i:=3) (by rw [hs];rfl) hi2];rfl
 .repeat' (first|refine zW ?_|refine zB ?_ ?_<;>intro h<;>try exact zk h|fail)
  refine Yt ?_;refine⟨trivial,rfl,Eq.trans (b:=some (.d (.int .i64 (-1)))) (by rfl) ?_⟩;rw [qhm (l:=[qcz,qaZ,qf2,qbk]) hi2]
theorem qrL (s:List Nat):ACall Tryz.prog 125 [.bs 0 0 4 4,.d (.str s)] [.box qlO] (.d (.bool (qc3 s))) [.box qlO]:=by
 have w:Fz []:=trivial;refine qaf qak (fnB Tryz.func125 []) rfl rfl ?_
 repeat refine zA ?_
 refine RunOps.call (by rfl) (by rfl) (qxe s) (by rfl) (by rfl) ?_
 repeat refine zA ?_
 refine Yt ?_;refine⟨trivial,rfl,Eq.trans (b:=some (.d (.bool (decide (0<=qbX [qcz,qaZ,qf2,qbk] s))))) (by kernel_rfl) ?_⟩;by_cases hm:s ∈ [qcz,qaZ,qf2,qbk]
 .simp only [qbX,if_pos hm];simp_all [qc3]
 .simp only [qbX,if_neg hm];simp_all [qc3]
theorem qo8 (s:List Nat):qaa Tryz.prog 239 [.str s] (.d (.bool (qc3 s))):=by
 refine kF Tryz.func239 [] fun w=>?_
 repeat refine zA ?_
 refine RunOps.call (by rfl) (by rfl) (qrL s) (by rfl) (by rfl) ?_
 repeat' (first|refine zW ?_|refine zB ?_ ?_<;>intro h<;>try exact zk h|rfl|fail)
theorem qfm (s:List Nat) (hl:s.length<=1099511627776):qaa Tryz.prog 204 [.str s] (.d (.int .i64 (qcS s))):=by
 refine kF Tryz.func204 [] fun w=>?_
 repeat' (first|refine zW ?_|refine zB ?_ ?_<;>intro h<;>try exact zk h|refine zK (word _ hl) ?_ ?_<;>intro h<;>try exact zk h|refine zC (word _ hl) ?_|refine zK (qo8 _) ?_ ?_<;>intro h<;>try exact zk h|refine zC (qo8 _) ?_|(show _=_;first|(simp_all [qcS]<;>fail)|(simp_all [qcS];omega))|fail)
def qap (s:List Nat):Bool:=decide (qcS s=0) && decide (97<=s.getD 0 0)
def qae (s:List Nat):Bool:=decide (qcS s=0) && decide (s.getD 0 0<97)
theorem qfw {s:List Nat} (h:qcS s=0):∃ c:Nat,s[0]?=some c/\qa4 c=true:=by
 have hw:qea s=0:=by
  unfold qcS at h;split at h
  .omega
  .exact h
 have hs:s≠[]:=fun e=>by simp [qea,e] at hw
 obtain⟨c,hc⟩:=qai (l:=s) (i:=0) (List.length_pos_iff.2 hs);refine⟨c,hc,?_⟩;cases hl:qa4 c with
 |true=>rfl
 |false=>rw [qgz hs ⟨c,hc,hl,.inl rfl⟩] at hw;omega
theorem qd0 {c:Nat} (h:qa4 c=true):(97<=c/\c<=122)\/(65<=c/\c<=90):=by simp [qa4] at h;omega
theorem qgo (s:List Nat) (hl:s.length<=1099511627776):qaa Tryz.prog 172 [.str s] (.d (.bool (qap s))):=by
 refine kF Tryz.func172 [] fun w=>?_;by_cases h0:qcS s=0
 .obtain⟨c,hc,hlet⟩:=qfw h0
  have hr:=qd0 hlet;have hlt:0<s.length:=(List.getElem?_eq_some_iff.1 hc).1;have hg:s.getD 0 0=c:=by simp [List.getD_eq_getElem?_getD,hc]
  repeat' (first|refine zW ?_|refine zB ?_ ?_<;>intro h<;>try exact zk h|refine zK (qcv _ hl) ?_ ?_<;>intro h<;>try exact zk h|refine zC (qcv _ hl) ?_|refine zI w (.d (.int .u8 c)) hc ?_|(show _=_;first|(simp_all [qap]<;>fail)|(simp_all [qap];omega))|fail)
 .repeat' (first|refine zW ?_|refine zB ?_ ?_<;>intro h<;>try exact zk h|refine zK (qcv _ hl) ?_ ?_<;>intro h<;>try exact zk h|refine zC (qcv _ hl) ?_|(show _=_;first|(simp_all [qap]<;>fail)|(simp_all [qap];omega))|fail)
theorem small (s:List Nat) (hl:s.length<=1099511627776):qaa Tryz.prog 121 [.str s] (.d (.bool (qap s))):=by
 refine kF Tryz.func121 [] fun w=>?_;by_cases h0:qcS s=0
 .obtain⟨c,hc,hlet⟩:=qfw h0
  have hr:=qd0 hlet;have hlt:0<s.length:=(List.getElem?_eq_some_iff.1 hc).1;have hg:s.getD 0 0=c:=by simp [List.getD_eq_getElem?_getD,hc]
  repeat' (first|refine zW ?_|refine zB ?_ ?_<;>intro h<;>try exact zk h|refine zK (qfm _ hl) ?_ ?_<;>intro h<;>try exact zk h|refine zC (qfm _ hl) ?_|refine zI w (.d (.int .u8 c)) hc ?_|(show _=_;first|(simp_all [qap]<;>fail)|(simp_all [qap];omega))|fail)
 .repeat' (first|refine zW ?_|refine zB ?_ ?_<;>intro h<;>try exact zk h|refine zK (qfm _ hl) ?_ ?_<;>intro h<;>try exact zk h|refine zC (qfm _ hl) ?_|(show _=_;first|(simp_all [qap]<;>fail)|(simp_all [qap];omega))|fail)
theorem qd9 (s:List Nat) (hl:s.length<=1099511627776):qaa Tryz.prog 173 [.str s] (.d (.bool (qae s))):=by
 refine kF Tryz.func173 [] fun w=>?_;by_cases h0:qcS s=0
 .obtain⟨c,hc,hlet⟩:=qfw h0
  have hr:=qd0 hlet;have hlt:0<s.length:=(List.getElem?_eq_some_iff.1 hc).1;have hg:s.getD 0 0=c:=by simp [List.getD_eq_getElem?_getD,hc]
  repeat' (first|refine zW ?_|refine zB ?_ ?_<;>intro h<;>try exact zk h|refine zK (qcv _ hl) ?_ ?_<;>intro h<;>try exact zk h|refine zC (qcv _ hl) ?_|refine zI w (.d (.int .u8 c)) hc ?_|(show _=_;first|(simp_all [qae]<;>fail)|(simp_all [qae];omega))|fail)
 .repeat' (first|refine zW ?_|refine zB ?_ ?_<;>intro h<;>try exact zk h|refine zK (qcv _ hl) ?_ ?_<;>intro h<;>try exact zk h|refine zC (qcv _ hl) ?_|(show _=_;first|(simp_all [qae]<;>fail)|(simp_all [qae];omega))|fail)
theorem qfV (s:List Nat) (hl:s.length<=1099511627776):qaa Tryz.prog 122 [.str s] (.d (.bool (qae s))):=by
 refine kF Tryz.func122 [] fun w=>?_;by_cases h0:qcS s=0
 .obtain⟨c,hc,hlet⟩:=qfw h0
  have hr:=qd0 hlet;have hlt:0<s.length:=(List.getElem?_eq_some_iff.1 hc).1;have hg:s.getD 0 0=c:=by simp [List.getD_eq_getElem?_getD,hc]
  repeat' (first|refine zW ?_|refine zB ?_ ?_<;>intro h<;>try exact zk h|refine zK (qfm _ hl) ?_ ?_<;>intro h<;>try exact zk h|refine zC (qfm _ hl) ?_|refine zI w (.d (.int .u8 c)) hc ?_|(show _=_;first|(simp_all [qae]<;>fail)|(simp_all [qae];omega))|fail)
 .repeat' (first|refine zW ?_|refine zB ?_ ?_<;>intro h<;>try exact zk h|refine zK (qfm _ hl) ?_ ?_<;>intro h<;>try exact zk h|refine zC (qfm _ hl) ?_|(show _=_;first|(simp_all [qae]<;>fail)|(simp_all [qae];omega))|fail)
def qaz (g:qaH):List (List Nat):=g.tokens++[g.sep]
open Classical in
def qb6 (g:qaH):Int:=if(∃ s ∈ qaz g,qap s=false)\/∃ s ∈ g.names,qae s=false then 12 else 0
theorem qlL (ps:List qaV):qaa Tryz.prog 167 [.sl 2 (ps.map qbf)] (.d (qem ps)):=by
 refine kF Tryz.func167 [1] fun w=>?_
 repeat refine zA ?_
 refine Yt ?_;refine⟨trivial,_,_,by rfl,by rfl,Eq.trans (b:=some (.d (qem ps))) (by kernel_rfl) ?_⟩
 rfl
theorem qf8 (g:qaH):qaa Tryz.prog 74 [qd5 g] (.d (qem g.prods)):=by
 refine kF Tryz.func74 [1] fun w=>?_
 repeat refine zA ?_
 first|refine RunOps.call (by rfl) (by rfl) (qlL g.prods _) (by rfl) (by rfl) ?_|refine EvD.call (by rfl) (by rfl) (by rfl) (qlL g.prods) (by rfl) (by rfl) ?_
 repeat refine zA ?_
 refine Yt ?_;refine⟨trivial,_,_,by rfl,by rfl,Eq.trans (b:=some (.d (qem g.prods))) (by kernel_rfl) ?_⟩
 rfl
def qc0 (g:qaH):Int:=if 8<g.tokens.length\/8<g.names.length\/24<g.prods.length\/∃ p ∈ g.prods,6<p.right.length then 6 else 0
theorem qAA (g:qaH) (hf:Fits g):qaa Tryz.prog 77 [qd5 g] (.d (.int .i64 (qc0 g))):=by
 refine kF Tryz.func77 [1] fun w=>?_;refine Yq (Yg ?_);iterate 2 refine zX ?_
 refine Yn ?_;refine Yq (Yq (Yg ?_));iterate 3 refine zX ?_
 by_cases h1:8<g.tokens.length
 .first|refine oV (v:=.d (.bool true)) ?_ (he:=(by simp;omega))|refine eX (v:=.d (.bool true)) ?_ (he:=(by simp;omega))
  repeat refine zA ?_
  refine Run.cond (b:=true) (by rfl) (fun _=>?_) (fun h=>by cases h)
  repeat refine zA ?_
  refine Yt ?_;refine⟨trivial,_,_,by rfl,by rfl,Eq.trans (b:=some (.d (.int .i64 6))) (by kernel_rfl) ?_⟩;simp [qc0,h1]
 .first|refine oV (v:=.d (.bool false)) ?_ (he:=(by simp;omega))|refine eX (v:=.d (.bool false)) ?_ (he:=(by simp;omega))
  iterate 4 refine zX ?_
  by_cases h2:8<g.names.length
  .first|refine oV (v:=.d (.bool true)) ?_ (he:=(by simp;omega))|refine eX (v:=.d (.bool true)) ?_ (he:=(by simp;omega))
   repeat refine zA ?_
   refine Run.cond (b:=true) (by rfl) (fun _=>?_) (fun h=>by cases h)
   repeat refine zA ?_
   refine Yt ?_;refine⟨trivial,_,_,by rfl,by rfl,Eq.trans (b:=some (.d (.int .i64 6))) (by kernel_rfl) ?_⟩;simp [qc0,h2]
  .first|refine oV (v:=.d (.bool false)) ?_ (he:=(by simp;omega))|refine eX (v:=.d (.bool false)) ?_ (he:=(by simp;omega))
   iterate 5 refine zX ?_
   by_cases h3:24<g.prods.length
   .first|refine oV (v:=.d (.bool true)) ?_ (he:=(by simp;omega))|refine eX (v:=.d (.bool true)) ?_ (he:=(by simp;omega))
    repeat refine zA ?_
    refine Run.cond (b:=true) (by rfl) (fun _=>?_) (fun h=>by cases h)
    repeat refine zA ?_
    refine Yt ?_;refine⟨trivial,_,_,by rfl,by rfl,Eq.trans (b:=some (.d (.int .i64 6))) (by kernel_rfl) ?_⟩;simp [qc0,h3]
   .first|refine oV (v:=.d (.bool false)) ?_ (he:=(by simp;omega))|refine eX (v:=.d (.bool false)) ?_ (he:=(by simp;omega))
    repeat refine zA ?_
    refine Run.cond (b:=false) (by rfl) (fun h=>by cases h) (fun _=>?_)
    repeat refine zA ?_
    first|refine RunOps.call (by rfl) (by rfl) (qf8 g _) (by rfl) (by rfl) ?_|refine EvD.call (by rfl) (by rfl) (by rfl) (qf8 g) (by rfl) (by rfl) ?_
    repeat refine zA ?_
    obtain⟨n,hn⟩:∃ n,n=g.prods.findIdx (fun p=>decide (6<p.right.length)):=⟨_,rfl⟩
    have hidx:n<=g.prods.length:=by rw [hn];exact List.findIdx_le_length
    have hcase:n<g.prods.length\/n=g.prods.length:=by omega
    refine Run.rangeProds (frz:=[1]) 1 (fun _=>[.box [.d (.int .i64 0)]]) g.prods (Nat.le_trans hf.prods (by decide)) (by rfl) (fun _=>rfl) (fun _=>rfl) (by kernel_rfl) n hidx (fun k p hk hp=>?_) ?_
    .have hgood:¬ 6<p.right.length:=by
      rw [hn] at hk;have:=List.not_of_lt_findIdx hk;have e:g.prods[k]=p:=by rw [List.getElem?_eq_some_iff] at hp;exact hp.2
      simpa [e] using this
     refine qaN (i:=2) (by rfl) (by rfl) (by rfl) ?_
     repeat refine zA ?_
     refine⟨rfl,_,_,_,_,_,_,_,by rfl,?_⟩;refine Run.less ?_
     repeat refine zA ?_
     refine Run.cond (by rfl) (fun h=>?_) (fun h=>?_)
     .simp at h;omega
     .repeat refine zA ?_
      exact⟨rfl,_,qcP [] 3 rfl (by rfl) trivial trivial (by kernel_rfl) rfl,_,_,_,_,_,_,_,_,by rfl,rfl,by rfl⟩
    .rcases hcase with hlt|hge
     .obtain⟨p,hp⟩:=qai hlt
      have hbad:6<p.right.length:=by
       rw [hn] at hp hlt;have:=List.findIdx_getElem (p:=fun p:qaV=>decide (6<p.right.length)) (xs:=g.prods) (w:=hlt);have e:g.prods[g.prods.findIdx fun p=>decide (6<p.right.length)]=p:=by rw [List.getElem?_eq_some_iff] at hp;exact hp.2
       rw [e] at this;simpa using this
      refine .inr ⟨p,[.box [.d (.int .i64 6)]],hp,rfl,.inl ⟨?_,?_⟩⟩
      .refine qaN (i:=2) (by rfl) (by rfl) (by rfl) ?_
       repeat refine zA ?_
       refine⟨rfl,_,_,_,_,_,_,_,by rfl,?_⟩;refine Run.less ?_
       repeat refine zA ?_
       refine Run.cond (by rfl) (fun h=>?_) (fun h=>?_)
       .repeat refine zA ?_
        refine Yt ?_;exact⟨rfl,_,qcP [] 3 rfl (by rfl) trivial trivial (by kernel_rfl) rfl,_,_,_,_,_,_,_,_,by rfl,rfl,by rfl⟩
       .simp at h;omega
      .refine⟨trivial,_,_,by rfl,by rfl,Eq.trans (b:=some (.d (.int .i64 6))) (by kernel_rfl) ?_⟩
       have hm:qc0 g=6:=by
        unfold qc0;rw [if_pos (.inr (.inr (.inr ⟨p,List.mem_of_getElem? hp,hbad⟩)))]
       rw [hm]
     .refine .inl ⟨hge,?_⟩
      repeat refine zA ?_
      refine Yt ?_;refine⟨trivial,_,_,by rfl,by rfl,Eq.trans (b:=some (.d (.int .i64 0))) (by kernel_rfl) ?_⟩;have hm:qc0 g=0:=by
       unfold qc0;rw [if_neg]
       rintro(h|h|h|⟨p,hp,h⟩)
       .exact h1 h
       .exact h2 h
       .exact h3 h
       .have:=List.findIdx_lt_length_of_exists (xs:=g.prods) (p:=fun p=>decide (6<p.right.length)) ⟨p,hp,by simpa using h⟩
        omega
      rw [hm]
theorem qsW {g:qaH} (h:8<g.tokens.length):qc0 g=6:=if_pos (.inl h)
theorem qtk {g:qaH} (h:8<g.names.length):qc0 g=6:=if_pos (.inr (.inl h))
theorem qsy {g:qaH} (h:24<g.prods.length):qc0 g=6:=if_pos (.inr (.inr (.inl h)))
theorem qsC {g:qaH} {i:Nat} {p:qaV} (h:g.prods[i]?=some p) (h':6<p.right.length):qc0 g=6:=if_pos (.inr (.inr (.inr ⟨p,List.mem_of_getElem? h,h'⟩)))
theorem quV {g:qaH} (h1:¬ 8<g.tokens.length) (h2:¬ 8<g.names.length) (h3:¬ 24<g.prods.length) (h4:∀ (j:Nat) p,j<g.prods.length->g.prods[j]?=some p->¬ 6<p.right.length):qc0 g=0:=by
 refine if_neg ?_
 rintro(h|h|h|⟨p,hp,h⟩)
 .exact h1 h
 .exact h2 h
 .exact h3 h
 .obtain⟨j,hj,e⟩:=List.getElem_of_mem hp
  exact h4 j p hj (by rw [List.getElem?_eq_getElem hj,e]) h
def qct (g:qaH):Int:=if qb6 g=0/\(¬ (qaz g).Nodup\/¬ g.names.Nodup) then 8 else qb6 g
theorem qnH {g:qaH} {i:Nat} {s:List Nat} (h:(qaz g)[i]?=some s) (h':qap s=false):qb6 g=12:=if_pos (.inl ⟨s,List.mem_of_getElem? h,h'⟩)
theorem qli {g:qaH} {i:Nat} {s:List Nat} (h:g.names[i]?=some s) (h':qae s=false):qb6 g=12:=if_pos (.inr ⟨s,List.mem_of_getElem? h,h'⟩)
theorem qoI {g:qaH} (h1:∀ j:Nat,j<(qaz g).length->∀ s,(qaz g)[j]?=some s->qap s=true) (h2:∀ j:Nat,j<g.names.length->∀ s,g.names[j]?=some s->qae s=true):qb6 g=0:=by
 refine if_neg ?_
 rintro(⟨s,hs,h⟩|⟨s,hs,h⟩)
 .obtain⟨j,hj,e⟩:=List.getElem_of_mem hs
  have:=h1 j hj s (by rw [List.getElem?_eq_getElem hj,e]);simp [this] at h
 .obtain⟨j,hj,e⟩:=List.getElem_of_mem hs
  have:=h2 j hj s (by rw [List.getElem?_eq_getElem hj,e]);simp [this] at h
theorem Fits.small {g:qaH} (hf:Fits g) {i:Nat} {s:List Nat} (h:(qaz g)[i]?=some s):s.length<=1099511627776:=by
 have:=List.mem_of_getElem? h;simp only [qaz,List.mem_append,List.mem_singleton] at this;rcases this with h|rfl
 .exact Nat.le_trans (hf.tokenS _ h) (by decide)
 .exact Nat.le_trans hf.sep (by decide)
theorem Fits.name {g:qaH} (hf:Fits g) {i:Nat} {s:List Nat} (h:g.names[i]?=some s):s.length<=1099511627776:=Nat.le_trans (hf.nameS _ (List.mem_of_getElem? h)) (by decide)
def qxo (g:qaH) (s:List Nat):Int:=if 0<=qbX g.names s then 16+qbX g.names s else qbX g.tokens s
theorem qnO (l:List (List Nat)) (s:List Nat):-1<=qbX l s/\qbX l s<l.length:=by
 unfold qbX;split
 .rename_i h
  have:=List.idxOf_lt_length_iff.2 h;omega
 .omega
def qxM (k sz:Nat):List DV->AV
 |[]=>.d .nilsl
 |a :: l=>.sr k sz (a :: l)
def qyd (sz:Nat):List DV->List Ob
 |[]=>[]
 |_ :: l=>[.room (l.length+1) sz]
def qcB (g:qaH) (s:Int) (i:Nat):List Nat:=((g.prods.take i).zipIdx.filter (fun q=>decide (q.1.left=s))).map (·.2)
def qdG (g:qaH) (s:Int):List Nat:=qcB g s g.prods.length
theorem qfs {g:qaH} {s:Int} {i:Nat} {p:qaV} (h:g.prods[i]?=some p):qcB g s (i+1)=qcB g s i++(if p.left=s then [i] else []):=by
 have hi:=(List.getElem?_eq_some_iff.1 h).1;have hl:(g.prods.take i).length=i:=by simp;omega
 simp only [qcB];rw [List.take_add_one,h,List.zipIdx_append,List.filter_append,List.map_append,hl]
 congr 1
 by_cases hp:p.left=s<;>simp [hp]
theorem qnU (g:qaH) (s:Int) (i:Nat):(qcB g s i).length<=i:=by
 simp only [qcB,List.length_map];refine Nat.le_trans (List.length_filter_le _ _) ?_
 simp;omega
def qfq (g:qaH) (s:Int):Bool:=qek g s || qaK g s
def qss (g:qaH) (p:qaV):Prop:=qaK g p.left=true/\∀ s ∈ p.right,qfq g s=true
def qgw (g:qaH):Prop:=qaK g g.start=true/\∀ p ∈ g.prods,qss g p
def qh9 (g:qaH):Prop:=∃ (i:Nat) (p q:qaV),g.prods[i]?=some p/\g.prods[i+1]?=some q/\q.left<p.left
def qhb (g:qaH):Prop:=∃ i:Nat,i<g.names.length/\qdG g (16+i)=[]
open Classical in
def qco (g:qaH):Int:=if qgw g then(if qh9 g then 9 else if qhb g then 7 else 0) else 14
open Classical in
def qaM (g:qaH):Int:=if g.k<1\/4<g.k then 2 else if qc0 g≠0 then qc0 g else if g.tokens=[]\/g.names=[] then 5 else if qct g≠0 then qct g else qco g
def qnT (g:qaH) (s:List Nat):Int × Int:=if qaM g≠0 then(0,qaM g) else if qxo g s<0 then(0,7) else(qxo g s,0)
def qcq (g:qaH) (s:Int):Option (List Nat):=if 16<=s then g.names[(s-16).toNat]? else if 0<=s then g.tokens[s.toNat]? else none
theorem qbh {g:qaH} (h:qaM g=0):qc0 g=0/\g.tokens≠[]/\g.names≠[]/\qct g=0/\qco g=0:=by
 unfold qaM at h;split at h
 .omega
 .split at h
  .contradiction
  .split at h
   .omega
   .split at h
    .contradiction
    .rename_i h1 h2 h3 h4
     rw [not_or] at h3;exact⟨Classical.byContradiction h2,h3.1,h3.2,Classical.byContradiction h4,h⟩
theorem qis {g:qaH} (h:qc0 g=0):g.tokens.length<=8/\g.names.length<=8/\g.prods.length<=24/\∀ p ∈ g.prods,p.right.length<=6:=by
 unfold qc0 at h;split at h
 .omega
 .rename_i hn
  simp only [not_or,not_exists,not_and] at hn;exact⟨by omega,by omega,by omega,fun p hp=>by have:=hn.2.2.2 p hp;omega⟩
theorem qb3 {g:qaH} (h:qco g=0):qgw g/\¬ qh9 g/\¬ qhb g:=by
 unfold qco at h;split at h
 .split at h
  .omega
  .split at h
   .omega
   .exact⟨by assumption,by assumption,by assumption⟩
 .omega
theorem qeX {g:qaH} (ht:g.tokens.length<=8) {s:Int} (h:qfq g s=true):∃ x,qcq g s=some x:=by
 simp only [qfq,qek,qaK,Bool.or_eq_true,Bool.and_eq_true,decide_eq_true_eq] at h;unfold qcq;split
 .exact qai (by omega)
 .rw [if_pos (by omega)]
  exact qai (by omega)
def nameS (g:qaH) (s:Int):List Nat:=(qcq g s).getD []
theorem qh7 {g:qaH} {s:Int} {x:List Nat} (h:qcq g s=some x):nameS g s=x:=by simp [nameS,h]
theorem qbA {α:Type} (l:List α):qdQ none (some (l.length:Int)) l=l:=by simp [qdQ]
def qgk (g:qaH):Int:=if g.tokens=[]\/g.names=[] then 5 else qb6 g
theorem qrx {g:qaH} (h1:g.tokens≠[]) (h2:g.names≠[]):qgk g=qb6 g:=if_neg (by simp [h1,h2])
theorem qz6 (g:qaH) (hf:Fits g):qaa Tryz.prog 78 [qd5 g] (.d (.int .i64 (qgk g))):=by
 have hft:=hf.tokens;have hfn:=hf.names;have hsl:(qaz g).length=g.tokens.length+1:=by simp [qaz]
 by_cases h1:g.tokens=[]
 .have e:qgk g=5:=if_pos (.inl h1)
  rw [e];refine kF Tryz.func78 [1,28] fun w=>?_
  repeat' (first|refine zW ?_|refine zB ?_ ?_<;>intro h<;>try exact zk h|refine zX ?_|rfl|(exfalso;(simp_all<;>fail))|fail)
 .by_cases h2:g.names=[]
  .have e:qgk g=5:=if_pos (.inr h2)
   rw [e];have h1':g.tokens.length≠0:=by simpa using h1
   refine kF Tryz.func78 [1,28] fun w=>?_
   repeat' (first|refine zW ?_|refine zB ?_ ?_<;>intro h<;>try exact zk h|refine zX ?_|rfl|(exfalso;(simp_all<;>fail))|fail)
  .rw [qrx h1 h2]
   have h1':g.tokens.length≠0:=by simpa using h1
   have h2':g.names.length≠0:=by simpa using h2
   refine kF Tryz.func78 [1,28] fun w=>?_
   repeat' (first|refine zW ?_|refine zB ?_ ?_<;>intro h<;>try exact zk h|refine zX ?_|refine oV ?_ (hf:=(by first|(simp [qbR]<;>fail)|(simp [qbR];omega)))|refine eX ?_ (hf:=(by first|(simp [qbR]<;>fail)|(simp [qbR];omega)))|refine zAp ?_|(show _=_;exfalso;(simp_all<;>fail))|fail)
   first|refine Run.tidy (qcQ (objs:=_) [(1,(.d (.ep [.int .i64 g.k,qao g.tokens,.str g.sep,qao g.names,.int .i64 g.start,.sl 2 (g.prods.map qbf)]))),(29,.d (qao (qaz g))),(30,.d (.int .i64 (qaz g).length)),(31,.d (.int .i64 0))] 0 (Eq.trans (b:=[]) rfl rfl) rfl (by repeat' (first|exact trivial|refine⟨(Or.inl rfl),?_⟩|refine⟨(Or.inr rfl),?_⟩|refine⟨rfl,?_⟩|refine⟨(Or.inr (Eq.trans (b:=some (.d (.sl 1 (qdQ none (some ((g.tokens.map DV.str).length:Int)) (g.tokens.map DV.str)++[.str g.sep])))) rfl (by rw [qbA];simp [qaz]))),?_⟩|refine⟨(Or.inl (Eq.trans (b:=some (.d (.int .i64 ((qdQ none (some ((g.tokens.map DV.str).length:Int)) (g.tokens.map DV.str)++[DV.str g.sep]).length:Nat)))) rfl (by rw [qbA];simp [qaz]))),?_⟩|fail)) (by repeat' (first|exact trivial|refine⟨(Or.inl rfl),?_⟩|refine⟨(Or.inr rfl),?_⟩|refine⟨rfl,?_⟩|refine⟨(Or.inr (Eq.trans (b:=some (.d (.sl 1 (qdQ none (some ((g.tokens.map DV.str).length:Int)) (g.tokens.map DV.str)++[.str g.sep])))) rfl (by rw [qbA];simp [qaz]))),?_⟩|refine⟨(Or.inl (Eq.trans (b:=some (.d (.int .i64 ((qdQ none (some ((g.tokens.map DV.str).length:Int)) (g.tokens.map DV.str)++[DV.str g.sep]).length:Nat)))) rfl (by rw [qbA];simp [qaz]))),?_⟩|fail)) rfl rfl) ?_|refine RunOps.tidy (qcQ (objs:=_) [(1,(.d (.ep [.int .i64 g.k,qao g.tokens,.str g.sep,qao g.names,.int .i64 g.start,.sl 2 (g.prods.map qbf)]))),(29,.d (qao (qaz g))),(30,.d (.int .i64 (qaz g).length)),(31,.d (.int .i64 0))] 0 (Eq.trans (b:=[]) rfl rfl) rfl (by repeat' (first|exact trivial|refine⟨(Or.inl rfl),?_⟩|refine⟨(Or.inr rfl),?_⟩|refine⟨rfl,?_⟩|refine⟨(Or.inr (Eq.trans (b:=some (.d (.sl 1 (qdQ none (some ((g.tokens.map DV.str).length:Int)) (g.tokens.map DV.str)++[.str g.sep])))) rfl (by rw [qbA];simp [qaz]))),?_⟩|refine⟨(Or.inl (Eq.trans (b:=some (.d (.int .i64 ((qdQ none (some ((g.tokens.map DV.str).length:Int)) (g.tokens.map DV.str)++[DV.str g.sep]).length:Nat)))) rfl (by rw [qbA];simp [qaz]))),?_⟩|fail)) (by repeat' (first|exact trivial|refine⟨(Or.inl rfl),?_⟩|refine⟨(Or.inr rfl),?_⟩|refine⟨rfl,?_⟩|refine⟨(Or.inr (Eq.trans (b:=some (.d (.sl 1 (qdQ none (some ((g.tokens.map DV.str).length:Int)) (g.tokens.map DV.str)++[.str g.sep])))) rfl (by rw [qbA];simp [qaz]))),?_⟩|refine⟨(Or.inl (Eq.trans (b:=some (.d (.int .i64 ((qdQ none (some ((g.tokens.map DV.str).length:Int)) (g.tokens.map DV.str)++[DV.str g.sep]).length:Nat)))) rfl (by rw [qbA];simp [qaz]))),?_⟩|fail)) rfl rfl) ?_
   refine Run.loop (fun i:Nat=>⟨PT.ofList [(1,(.d (.ep [.int .i64 g.k,qao g.tokens,.str g.sep,qao g.names,.int .i64 g.start,.sl 2 (g.prods.map qbf)]))),(29,.d (qao (qaz g))),(30,.d (.int .i64 (qaz g).length)),(31,.d (.int .i64 i))],[],[]⟩) (fun i=>i<=(qaz g).length/\∀ j,j<i->∀ s,(qaz g)[j]?=some s->qap s=true) (fun i=>(qaz g).length-i) 0 ⟨Nat.zero_le _,fun j hj=>by omega⟩ (qac (by repeat' (first|exact trivial|refine⟨rfl,?_⟩))) (fun i hi=>?_);obtain⟨hi1,hi2⟩:=hi;rcases Nat.lt_or_ge i (qaz g).length with hlt|hge
   .obtain⟨s,hs⟩:=qai hlt
    repeat' (first|refine zW ?_|refine zB ?_ ?_<;>intro h<;>try exact zk h|refine zX ?_|refine zI w (.d (.ep [.str s])) hs ?_|refine zK (small _ (hf.small hs)) ?_ ?_<;>intro h<;>try exact zk h|refine zC (small _ (hf.small hs)) ?_|(show _=_;rw [qnH hs (by simp_all)])|(exact⟨i+1,⟨by omega,qa1 hi2 (fun q hq=>by rw [hs] at hq;cases hq;simp_all)⟩,by omega,qac (by repeat' (first|exact trivial|refine⟨rfl,?_⟩|refine⟨(qaq (k:=i) (by kernel_rfl) (by omega)),?_⟩))⟩)|fail)
   .repeat' (first|refine zW ?_|refine zB ?_ ?_<;>intro h<;>try exact zk h|refine zX ?_|fail)
    refine Run.loop (fun i:Nat=>⟨PT.ofList [(1,(.d (.ep [.int .i64 g.k,qao g.tokens,.str g.sep,qao g.names,.int .i64 g.start,.sl 2 (g.prods.map qbf)]))),(40,.d (qao g.names)),(41,.d (.int .i64 (g.names.map DV.str).length)),(42,.d (.int .i64 i))],[],[]⟩) (fun i=>i<=g.names.length/\∀ j,j<i->∀ s,g.names[j]?=some s->qae s=true) (fun i=>g.names.length-i) 0 ⟨Nat.zero_le _,fun j hj=>by omega⟩ (qac (by repeat' (first|exact trivial|refine⟨rfl,?_⟩))) (fun k hk=>?_);obtain⟨hk1,hk2⟩:=hk;rcases Nat.lt_or_ge k g.names.length with hklt|hkge
    .obtain⟨s,hs⟩:=qai hklt
     repeat' (first|refine zW ?_|refine zB ?_ ?_<;>intro h<;>try exact zk h|refine zX ?_|refine zI w (.d (.ep [.str s])) hs ?_|refine zK (qfV _ (hf.name hs)) ?_ ?_<;>intro h<;>try exact zk h|refine zC (qfV _ (hf.name hs)) ?_|(show _=_;rw [qli hs (by simp_all)])|(exact⟨k+1,⟨by omega,qa1 hk2 (fun q hq=>by rw [hs] at hq;cases hq;simp_all)⟩,by omega,qac (by repeat' (first|exact trivial|refine⟨rfl,?_⟩|refine⟨(qaq (k:=k) (by kernel_rfl) (by omega)),?_⟩))⟩)|fail)
    .have h0:qb6 g=0:=qoI (fun j hj=>hi2 j (by omega)) (fun j hj=>hk2 j (by omega))
     repeat' (first|refine zW ?_|refine zB ?_ ?_<;>intro h<;>try exact zk h|refine zX ?_|(show _=_;rw [h0])|fail)
def qji (g:qaH):List (List Nat):=qaz g++g.names
def qmf (g:qaH):Int:=if(qji g).Nodup then 0 else 8
def kvs (l:List (List Nat)):List (DV × DV):=l.map fun s=>(.str s,.bool true)
theorem qlH (l:List (List Nat)):kvs l=(l.map fun s=>((s,DV.bool true):List Nat × DV)).map fun p=>(.str p.1,p.2):=by simp [kvs]
theorem qsK {E:PT Ty} {t:TypeId} {l:List (List Nat)} {s:List Nat} (h:s ∉ l):qbD (qc5 E t) (.str s) (kvs l)=some none:=by
 rw [qlH,qcU];have:(l.map fun s=>((s,DV.bool true):List Nat × DV)).findIdx? (fun p=>p.1 == s)=none:=by
  rw [List.findIdx?_eq_none_iff];intro p hp;simp only [List.mem_map] at hp;obtain⟨x,hx,rfl⟩:=hp
  simp
  exact fun e=>h (e ▸ hx)
 rw [this];rfl
theorem quT {E:PT Ty} {t:TypeId} {l:List (List Nat)} {s:List Nat} (h:s ∈ l):∃ j,qbD (qc5 E t) (.str s) (kvs l)=some (some (j,.bool true)):=by
 rw [qlH,qcU];cases hf:(l.map fun s=>((s,DV.bool true):List Nat × DV)).findIdx? (fun p=>p.1 == s) with
 |none =>
  rw [List.findIdx?_eq_none_iff] at hf;have:=hf (s,.bool true) (by simp [h]);simp at this
 |some j =>
  have hj:j<l.length:=by
   rw [List.findIdx?_eq_some_iff_getElem] at hf;obtain⟨h1,_⟩:=hf;simpa using h1
  exact⟨j,by simp [hj]⟩
theorem qvH (l:List (List Nat)) (s:List Nat):kvs l++[(.str s,.bool true)]=kvs (l++[s]):=by simp [kvs]
theorem qho {l:List (List Nat)} {i:Nat} {s:List Nat} (h:l[i]?=some s) (hn:(l.take i).Nodup) (hs:s ∉ l.take i):(l.take (i+1)).Nodup:=by
 rw [List.take_add_one,h,List.nodup_append];refine⟨hn,by simp,fun a ha b hb=>?_⟩;simp at hb;subst hb;exact fun e=>hs (e ▸ ha)
theorem qfn {l:List (List Nat)} {i:Nat} {s:List Nat} (h:l[i]?=some s) (hs:s ∈ l.take i):¬ l.Nodup:=fun hn=>by
 obtain⟨j,hj,e⟩:=List.getElem_of_mem hs;have hji:j<i:=by simp at hj;omega
 have hi:=(List.getElem?_eq_some_iff.1 h).1;refine List.pairwise_iff_getElem.1 hn j i (by omega) hi hji ?_;rw [(List.getElem?_eq_some_iff.1 h).2];simpa using e
theorem qr3 (g:qaH) (hf:Fits g):qaa Tryz.prog 79 [qd5 g] (.d (.int .i64 (qmf g))):=by
 have hft:=hf.tokens;have hfn:=hf.names;have hal:(qji g).length=g.tokens.length+1+g.names.length:=by simp [qji,qaz];omega
 refine kF Tryz.func79 [1,18] fun w=>?_
 repeat' (first|refine zW ?_|refine zB ?_ ?_<;>intro h<;>try exact zk h|refine zX ?_|refine oV ?_ (hf:=(by first|(simp [qbR]<;>fail)|(simp [qbR];omega)))|refine eX ?_ (hf:=(by first|(simp [qbR]<;>fail)|(simp [qbR];omega)))|refine zAp ?_|fail)
 first|refine Run.tidy (qcQ (objs:=_) [(1,(.d (.ep [.int .i64 g.k,qao g.tokens,.str g.sep,qao g.names,.int .i64 g.start,.sl 2 (g.prods.map qbf)]))),(3,.mp 0),(22,.d (qao (qji g))),(23,.d (.int .i64 (qji g).length)),(24,.d (.int .i64 0))] 1 (Eq.trans (b:=[.map []]) rfl rfl) rfl (by repeat' (first|exact trivial|refine⟨(Or.inl rfl),?_⟩|refine⟨(Or.inr rfl),?_⟩|refine⟨rfl,?_⟩|refine⟨(Or.inr (Eq.trans (b:=some (.d (.sl 1 (qdQ none (some ((g.tokens.map DV.str).length:Int)) (g.tokens.map DV.str)++[.str g.sep]++g.names.map .str)))) rfl (by rw [qbA];simp [qji,qaz]))),?_⟩|refine⟨(Or.inl (Eq.trans (b:=some (.d (.int .i64 ((qdQ none (some ((g.tokens.map DV.str).length:Int)) (g.tokens.map DV.str)++[DV.str g.sep]++g.names.map DV.str).length:Nat)))) rfl (congrArg (fun n:Nat=>some (AV.d (DV.int .i64 n))) (by rw [qbA,hal];simp<;>omega)))),?_⟩|fail)) (by repeat' (first|exact trivial|refine⟨(Or.inl rfl),?_⟩|refine⟨(Or.inr rfl),?_⟩|refine⟨rfl,?_⟩|refine⟨(Or.inr (Eq.trans (b:=some (.d (.sl 1 (qdQ none (some ((g.tokens.map DV.str).length:Int)) (g.tokens.map DV.str)++[.str g.sep]++g.names.map .str)))) rfl (by rw [qbA];simp [qji,qaz]))),?_⟩|refine⟨(Or.inl (Eq.trans (b:=some (.d (.int .i64 ((qdQ none (some ((g.tokens.map DV.str).length:Int)) (g.tokens.map DV.str)++[DV.str g.sep]++g.names.map DV.str).length:Nat)))) rfl (congrArg (fun n:Nat=>some (AV.d (DV.int .i64 n))) (by rw [qbA,hal];simp<;>omega)))),?_⟩|fail)) rfl rfl) ?_|refine RunOps.tidy (qcQ (objs:=_) [(1,(.d (.ep [.int .i64 g.k,qao g.tokens,.str g.sep,qao g.names,.int .i64 g.start,.sl 2 (g.prods.map qbf)]))),(3,.mp 0),(22,.d (qao (qji g))),(23,.d (.int .i64 (qji g).length)),(24,.d (.int .i64 0))] 1 (Eq.trans (b:=[.map []]) rfl rfl) rfl (by repeat' (first|exact trivial|refine⟨(Or.inl rfl),?_⟩|refine⟨(Or.inr rfl),?_⟩|refine⟨rfl,?_⟩|refine⟨(Or.inr (Eq.trans (b:=some (.d (.sl 1 (qdQ none (some ((g.tokens.map DV.str).length:Int)) (g.tokens.map DV.str)++[.str g.sep]++g.names.map .str)))) rfl (by rw [qbA];simp [qji,qaz]))),?_⟩|refine⟨(Or.inl (Eq.trans (b:=some (.d (.int .i64 ((qdQ none (some ((g.tokens.map DV.str).length:Int)) (g.tokens.map DV.str)++[DV.str g.sep]++g.names.map DV.str).length:Nat)))) rfl (congrArg (fun n:Nat=>some (AV.d (DV.int .i64 n))) (by rw [qbA,hal];simp<;>omega)))),?_⟩|fail)) (by repeat' (first|exact trivial|refine⟨(Or.inl rfl),?_⟩|refine⟨(Or.inr rfl),?_⟩|refine⟨rfl,?_⟩|refine⟨(Or.inr (Eq.trans (b:=some (.d (.sl 1 (qdQ none (some ((g.tokens.map DV.str).length:Int)) (g.tokens.map DV.str)++[.str g.sep]++g.names.map .str)))) rfl (by rw [qbA];simp [qji,qaz]))),?_⟩|refine⟨(Or.inl (Eq.trans (b:=some (.d (.int .i64 ((qdQ none (some ((g.tokens.map DV.str).length:Int)) (g.tokens.map DV.str)++[DV.str g.sep]++g.names.map DV.str).length:Nat)))) rfl (congrArg (fun n:Nat=>some (AV.d (DV.int .i64 n))) (by rw [qbA,hal];simp<;>omega)))),?_⟩|fail)) rfl rfl) ?_
 refine Run.loop (fun i:Nat=>⟨PT.ofList [(1,(.d (.ep [.int .i64 g.k,qao g.tokens,.str g.sep,qao g.names,.int .i64 g.start,.sl 2 (g.prods.map qbf)]))),(3,.mp 0),(22,.d (qao (qji g))),(23,.d (.int .i64 (qji g).length)),(24,.d (.int .i64 i))],[.map (kvs ((qji g).take i))],[]⟩) (fun i=>i<=(qji g).length/\((qji g).take i).Nodup) (fun i=>(qji g).length-i) 0 ⟨Nat.zero_le _,by simp⟩ (qb4 rfl rfl (by repeat' (first|exact trivial|refine⟨rfl,?_⟩))) (fun i hi=>?_);obtain⟨hi1,hi2⟩:=hi;rcases Nat.lt_or_ge i (qji g).length with hlt|hge
 .obtain⟨s,hs⟩:=qai hlt
  by_cases hm:s ∈ (qji g).take i
  .obtain⟨j,hj⟩:=quT (E:=Et) (t:=9) hm
   repeat' (first|refine zW ?_|refine zB ?_ ?_<;>intro h<;>try exact zk h|refine zX ?_|refine zI w (.d (.ep [.str s])) hs ?_|refine RunOps.x (frz:=[1,18]) qak (by rfl) (qbJ (by rfl) (by rfl) (by rfl) (by rfl) (by rfl) (by rfl) (by rfl) (by rfl) (by rfl) hj (by rfl)) rfl (v:=.d (.bool true)) rfl rfl (by rfl) (by rfl) ?_|(show _=_;rw [qmf,if_neg (qfn hs hm)])|fail)
  .have hj:=qsK (E:=Et) (t:=9) hm
   repeat' (first|refine zW ?_|refine zB ?_ ?_<;>intro h<;>try exact zk h|refine zX ?_|refine zI w (.d (.ep [.str s])) hs ?_|refine RunOps.x (frz:=[1,18]) qak (by rfl) (qbJ (by rfl) (by rfl) (by rfl) (by rfl) (by rfl) (by rfl) (by rfl) (by rfl) (by rfl) hj (by rfl)) rfl (v:=.d (.bool false)) rfl rfl (by rfl) (by rfl) ?_|refine RunOps.x (frz:=[1,18]) qak (by rfl) (qcE (by rfl) (by rfl) (by rfl) (by rfl) (by rfl) (by rfl) (by rfl) (by rfl) (by rfl) hj) rfl rfl rfl (by rfl) (by rfl) ?_|(refine⟨i+1,⟨by omega,qho hs hi2 hm⟩,by omega,qb4 (by rw [List.take_add_one,hs];exact congrArg (fun q=>[Ob.map q]) (qvH _ _).symm) rfl (by repeat' (first|exact trivial|refine⟨rfl,?_⟩|refine⟨(qaq (k:=i) (by kernel_rfl) (by omega)),?_⟩))⟩)|fail)
 .have hnd:(qji g).Nodup:=by rw [List.take_of_length_le hge] at hi2;exact hi2
  repeat' (first|refine zW ?_|refine zB ?_ ?_<;>intro h<;>try exact zk h|refine zX ?_|(show _=_;rw [qmf,if_pos hnd])|fail)
def qn6 {α:Type} (l:List α) (p:α->Bool):Int:=if l.any p then(l.findIdx p:Nat) else -1
theorem qi2 {α:Type} {l:List α} {p:α->Bool} {i:Nat} {x:α} (h:l[i]?=some x) (hx:p x=true) (hb:∀ j,j<i->∀ y,l[j]?=some y->p y=false):qn6 l p=i:=by
 have hm:=List.mem_of_getElem? h;have ha:l.any p=true:=List.any_eq_true.2 ⟨x,hm,hx⟩;rw [qn6,if_pos ha];have h1:l.findIdx p<l.length:=List.findIdx_lt_length_of_exists ⟨x,hm,hx⟩;have h2:=List.findIdx_getElem (w:=h1);have h3:¬ l.findIdx p<i:=fun hlt=>by
  have:=hb _ hlt _ (List.getElem?_eq_getElem h1);rw [this] at h2;cases h2
 have h4:¬ i<l.findIdx p:=fun hlt=>by
  have h5:=List.not_of_lt_findIdx hlt;rw [(List.getElem?_eq_some_iff.1 h).2] at h5;simp [hx] at h5
 omega
theorem qe8 {α:Type} {l:List α} {p:α->Bool} (hb:∀ j,j<l.length->∀ y,l[j]?=some y->p y=false):qn6 l p=-1:=by
 rw [qn6,if_neg];intro ha;obtain⟨x,hx,hp⟩:=List.any_eq_true.1 ha;obtain⟨j,hj,e⟩:=List.getElem_of_mem hx;have:=hb j hj x (by rw [List.getElem?_eq_getElem hj,e]);rw [this] at hp;cases hp
theorem qgp {α:Type} (l:List α) (p:α->Bool):decide (0<=qn6 l p)=l.any p:=by
 unfold qn6;cases h:l.any p<;>simp
theorem qgN (l:List Int) (hl:l.length<=1099511627776) (F:FuncId) (caps:List DV) (p:Int->Bool) (hp:∀ x ∈ l,qaa Tryz.prog F ((.int .i64 x) :: caps) (.d (.bool (p x)))) :
  qaa Tryz.prog 222 [(.sl 1 (l.map (.int .i64))),.fn (.func F) [] caps] (.d (.int .i64 (qn6 l p))):=by
 refine kF Tryz.func222 [] fun w=>?_
 repeat' (first|refine zW ?_|refine zB ?_ ?_<;>intro h<;>try exact zk h|fail)
 refine Run.loop (fun i:Nat=>⟨PT.ofList [(0,.d (.sl 1 (l.map (.int .i64)))),(1,.d (.fn (.func F) [] caps)),(7,.d (.int .i64 l.length)),(8,.d (.int .i64 i))],[],[]⟩) (fun i=>i<=l.length/\∀ j,j<i->∀ y,l[j]?=some y->p y=false) (fun i=>l.length-i) 0 ⟨Nat.zero_le _,fun j hj=>by omega⟩ (qac (by repeat' (first|exact trivial|refine⟨rfl,?_⟩|refine⟨Eq.trans (b:=some (.d (.int .i64 (l.map _).length))) rfl (by rw [List.length_map]),?_⟩|fail))) (fun i hi=>?_);obtain⟨hi1,hi2⟩:=hi;rcases Nat.lt_or_ge i l.length with hlt|hge
 .obtain⟨x,hx⟩:=qai hlt
  have hc:=hp x (List.mem_of_getElem? hx)
  repeat' (first|refine zW ?_|refine zB ?_ ?_<;>intro h<;>try exact zk h|refine zI w (.d (.ep [.int .i64 x])) hx ?_|refine zK (hc) ?_ ?_<;>intro h<;>try exact zk h|refine zC (hc) ?_|(show _=_;rw [qi2 hx (by simp_all) hi2])|(exact⟨i+1,⟨by omega,qa1 hi2 (fun q hq=>by rw [hx] at hq;cases hq;simp_all)⟩,by omega,qac (by repeat' (first|exact trivial|refine⟨rfl,?_⟩|refine⟨(qaq (k:=i) (by kernel_rfl) (by omega)),?_⟩))⟩)|fail)
 .have hge:i=l.length:=by omega
  repeat' (first|refine zW ?_|refine zB ?_ ?_<;>intro h<;>try exact zk h|(show _=_;rw [qe8 (fun j hj=>hi2 j (by omega))])|fail)
theorem qeG (l:List Int) (hl:l.length<=1099511627776) (F:FuncId) (caps:List DV) (p:Int->Bool) (hp:∀ x ∈ l,qaa Tryz.prog F ((.int .i64 x) :: caps) (.d (.bool (p x)))) :
  qaa Tryz.prog 168 [(.sl 1 (l.map (.int .i64))),.fn (.func F) [] caps] (.d (.bool (l.any p))):=by
 refine kF Tryz.func168 [] fun w=>?_;have e:=qgp l p
 repeat' (first|refine zW ?_|refine zB ?_ ?_<;>intro h<;>try exact zk h|refine zK (qgN _ hl _ _ _ hp) ?_ ?_<;>intro h<;>try exact zk h|refine zC (qgN _ hl _ _ _ hp) ?_|(show _=_;first|(rw [<- e]<;>simp_all<;>fail)|fail)|fail)
theorem qhj (g:qaH) (s:Int):qdG g s=[] ↔ g.prods.any (fun p=>decide (p.left=s))=false:=by
 simp only [qdG,qcB,List.take_length,List.map_eq_nil_iff,List.filter_eq_nil_iff,List.any_eq_false,decide_eq_true_eq];refine⟨fun h p hp=>?_,fun h q hq=>h q.1 (by have:=List.fst_mem_of_mem_zipIdx hq;exact this)⟩;obtain⟨j,hj,e⟩:=List.getElem_of_mem hp;exact h (p,j) (by rw [List.mem_zipIdx_iff_getElem?];rw [List.getElem?_eq_getElem hj,e])
theorem qpY (l:List qaV) (hl:l.length<=1099511627776) (F:FuncId) (caps:List AV) (objs:List Ob) (p:qaV->Bool) (hp:∀ x ∈ l,ACall Tryz.prog F (.d (qbf x) :: caps) objs (.d (.bool (p x))) objs) :
  ACall Tryz.prog 223 [.d (.sl 2 (l.map qbf)),.fn (.func F) [] caps] objs (.d (.int .i64 (qn6 l p))) objs:=by
 have w:Fz []:=trivial;refine qaf qak (fnB Tryz.func223 []) rfl rfl ?_
 repeat' (first|refine zW ?_|refine zB ?_ ?_<;>intro h<;>try exact zk h|fail)
 refine Run.loop (fun i:Nat=>⟨PT.ofList [(0,.d (.sl 2 (l.map qbf))),(1,.fn (.func F) [] caps),(7,.d (.int .i64 l.length)),(8,.d (.int .i64 i))],objs,[]⟩) (fun i=>i<=l.length/\∀ j,j<i->∀ y,l[j]?=some y->p y=false) (fun i=>l.length-i) 0 ⟨Nat.zero_le _,fun j hj=>by omega⟩ (qac (by repeat' (first|exact trivial|refine⟨rfl,?_⟩|refine⟨Eq.trans (b:=some (.d (.int .i64 (l.map _).length))) rfl (by rw [List.length_map]),?_⟩|fail))) (fun i hi=>?_);obtain⟨hi1,hi2⟩:=hi;rcases Nat.lt_or_ge i l.length with hlt|hge
 .obtain⟨x,hx⟩:=qai hlt
  have hc:=hp x (List.mem_of_getElem? hx);cases hpx:p x with
  |true =>
   rw [hpx] at hc
   repeat' (first|refine zW ?_|refine zB ?_ ?_<;>intro h<;>try exact zk h|refine zIP w (.d (.ep [.int .i64 x.left,qcV x.right])) hx ?_|refine RunOps.call (by rfl) (by rfl) hc (by rfl) (by rfl) ?_|fail)
   refine Yt ?_;refine⟨trivial,rfl,?_⟩;rw [qi2 hx hpx hi2];rfl
  |false =>
   rw [hpx] at hc
   repeat' (first|refine zW ?_|refine zB ?_ ?_<;>intro h<;>try exact zk h|refine zIP w (.d (.ep [.int .i64 x.left,qcV x.right])) hx ?_|refine RunOps.call (by rfl) (by rfl) hc (by rfl) (by rfl) ?_|(exact⟨i+1,⟨by omega,qa1 hi2 (fun q hq=>by rw [hx] at hq;cases hq;exact hpx)⟩,by omega,qac (by repeat' (first|exact trivial|refine⟨rfl,?_⟩|refine⟨(qaq (k:=i) (by kernel_rfl) (by omega)),?_⟩))⟩)|fail)
 .have hge:i=l.length:=by omega
  repeat' (first|refine zW ?_|refine zB ?_ ?_<;>intro h<;>try exact zk h|fail)
  refine Yt ?_;refine⟨trivial,rfl,?_⟩;rw [qe8 (fun j hj=>hi2 j (by omega))];rfl
theorem qld (l:List qaV) (hl:l.length<=1099511627776) (F:FuncId) (caps:List AV) (objs:List Ob) (p:qaV->Bool) (hp:∀ x ∈ l,ACall Tryz.prog F (.d (qbf x) :: caps) objs (.d (.bool (p x))) objs) :
  ACall Tryz.prog 170 [.d (.sl 2 (l.map qbf)),.fn (.func F) [] caps] objs (.d (.bool (l.any p))) objs:=by
 have w:Fz []:=trivial;refine qaf qak (fnB Tryz.func170 []) rfl rfl ?_
 repeat refine zA ?_
 refine RunOps.call (by rfl) (by rfl) (qpY l hl F caps objs p hp) (by rfl) (by rfl) ?_
 repeat refine zA ?_
 refine Yt ?_;refine⟨trivial,rfl,Eq.trans (b:=some (.d (.bool (decide (qn6 l p >= 0))))) (by kernel_rfl) ?_⟩;rw [show decide (qn6 l p >= 0)=l.any p from qgp l p]
theorem qsh (p:qaV) (i:Nat) (hi:i<=1048576):ACall Tryz.prog 171 [.d (qbf p),.bp 0 0] [.box [.d (.int .i64 i)]] (.d (.bool (decide (p.left=16+(i:Int))))) [.box [.d (.int .i64 i)]]:=by
 have w:Fz [2]:=trivial;have hw:IntKind.i64.wrap (16+(i:Int))=16+i:=qeL (by omega) (by omega);refine qaf qak (fnB Tryz.func171 [2]) rfl rfl ?_
 repeat refine zA ?_
 refine Yt ?_;refine⟨trivial,rfl,Eq.trans (b:=some (.d (.bool (p.left == IntKind.i64.wrap (16+(i:Int)))))) (by kernel_rfl) ?_⟩;rw [hw]
 congr 3
open Classical in
def qdC (g:qaH):Int:=if qhb g then 7 else 0
theorem qs9 (g:qaH) (hf:Fits g):qaa Tryz.prog 82 [qd5 g] (.d (.int .i64 (qdC g))):=by
 have hfp:=hf.prods;have hfn:=hf.names;refine kF Tryz.func82 [1] fun w=>?_
 repeat' (first|refine zW ?_|refine zB ?_ ?_<;>intro h<;>try exact zk h|fail)
 refine Run.loopT (fun i:Nat=>⟨PT.ofList [(1,(.d (.ep [.int .i64 g.k,qao g.tokens,.str g.sep,qao g.names,.int .i64 g.start,.sl 2 (g.prods.map qbf)]))),(6,.d (.int .i64 (g.names.map DV.str).length)),(7,.d (.int .i64 i))],[],[]⟩) (fun i=>i<=g.names.length/\∀ j:Nat,j<i->qdG g (16+j)≠[]) (fun i=>g.names.length-i) 0 ⟨Nat.zero_le _,fun j hj=>by omega⟩ (ti _ 0) (fun i hi=>?_);obtain⟨hi1,hi2⟩:=hi;rcases Nat.lt_or_ge i g.names.length with hlt|hge
 .have hc:=qld g.prods (by omega) 171 [.bp 0 0] [.box [.d (.int .i64 i)]] (fun p=>decide (p.left=16+(i:Int))) (fun x _=>qsh x i (by omega))
  cases hpx:g.prods.any (fun p=>decide (p.left=16+(i:Int))) with
  |true =>
   rw [hpx] at hc
   repeat' (first|refine zW ?_|refine zB ?_ ?_<;>intro h<;>try exact zk h|refine RunOps.call (by rfl) (by rfl) hc (by rfl) (by rfl) ?_|(exact⟨i+1,⟨by omega,qa1 hi2 (fun e=>by rw [qhj,hpx] at e;cases e)⟩,by omega,(ti _ 0)⟩)|fail)
  |false =>
   rw [hpx] at hc;have hm:qhb g:=⟨i,hlt,by rw [qhj];exact hpx⟩
   repeat' (first|refine zW ?_|refine zB ?_ ?_<;>intro h<;>try exact zk h|refine RunOps.call (by rfl) (by rfl) hc (by rfl) (by rfl) ?_|(show _=_;rw [qdC,if_pos hm])|fail)
 .have hm:¬ qhb g:=fun⟨j,h1,h2⟩=>hi2 j (by omega) h2
  repeat' (first|refine zW ?_|refine zB ?_ ?_<;>intro h<;>try exact zk h|(show _=_;rw [qdC,if_neg hm])|fail)
abbrev quL (g:qaH):DV:=.ep [.int .i64 g.k,qao g.tokens,.str g.sep,qao g.names,.int .i64 g.start,.sl 2 (g.prods.map qbf)]
theorem qoz (g:qaH) (s:Int) (hf:Fits g):qaa Tryz.prog 169 [.int .i64 s,quL g] (.d (.bool (!qfq g s))):=by
 refine kF Tryz.func169 [] fun w=>?_
 repeat' (first|refine zW ?_|refine zB ?_ ?_<;>intro h<;>try exact zk h|refine zK (qh1 g _) ?_ ?_<;>intro h<;>try exact zk h|refine zC (qh1 g _) ?_|refine zK (qcs g _ hf) ?_ ?_<;>intro h<;>try exact zk h|refine zC (qcs g _ hf) ?_|(show _=_;first|(simp_all [qfq]<;>fail)|(simp_all [qfq];omega))|fail)
open Classical in
def qqB (g:qaH) (p:qaV):Bool:=!qaK g p.left || p.right.any (fun s=>!qfq g s)
theorem qkF (g:qaH) (p:qaV):qqB g p=false ↔ qss g p:=by
 simp only [qqB,qss,Bool.or_eq_false_iff,Bool.not_eq_false',List.any_eq_false];refine and_congr Iff.rfl (forall_congr' fun s=>forall_congr' fun _=>?_)
 simp
open Classical in
def qix (g:qaH):Int:=if qgw g then 0 else 14
theorem quG (g:qaH) (hf:Fits g):qaa Tryz.prog 80 [qd5 g] (.d (.int .i64 (qix g))):=by
 have hfp:=hf.prods;cases hst:qaK g g.start with
 |false =>
  have e:qix g=14:=by unfold qix;rw [if_neg];exact fun h=>by rw [h.1] at hst;cases hst
  rw [e];have hc:=qcs g g.start hf;rw [hst] at hc;refine kF Tryz.func80 [1] fun w=>?_
  repeat' (first|refine zW ?_|refine zB ?_ ?_<;>intro h<;>try exact zk h|refine zK (hc) ?_ ?_<;>intro h<;>try exact zk h|refine zC (hc) ?_|rfl|fail)
 |true =>
  have hc:=qcs g g.start hf;rw [hst] at hc;refine kF Tryz.func80 [1] fun w=>?_
  repeat' (first|refine zW ?_|refine zB ?_ ?_<;>intro h<;>try exact zk h|refine zC (hc) ?_|refine zK (qf8 g) ?_ ?_<;>intro h<;>try exact zk h|refine zC (qf8 g) ?_|rfl|fail)
  obtain⟨n,hn⟩:∃ n,n=g.prods.findIdx (fun p=>qqB g p):=⟨_,rfl⟩
  have hidx:n<=g.prods.length:=by rw [hn];exact List.findIdx_le_length
  have hcase:n<g.prods.length\/n=g.prods.length:=by omega
  refine Run.rangeProds (frz:=[1]) 1 (fun _=>[.box [.d (.int .i64 0)]]) g.prods (Nat.le_trans hf.prods (by decide)) (by rfl) (fun _=>rfl) (fun _=>rfl) (by kernel_rfl) n hidx (fun k p hk hp=>?_) ?_
  .have hgood:qqB g p=false:=by
    rw [hn] at hk;have:=List.not_of_lt_findIdx hk;have e:g.prods[k]=p:=by rw [List.getElem?_eq_some_iff] at hp;exact hp.2
    simpa [e] using this
   have hpr:=hf.rights p (List.mem_of_getElem? hp);have hg:=(qkF g p).1 hgood;have hnt:=qcs g p.left hf;rw [hg.1] at hnt;have hcf:=qeG p.right (by omega) 169 [quL g] (fun s=>!qfq g s) (fun s _=>qoz g s hf);rw [show p.right.any (fun s=>!qfq g s)=false from by simp only [qqB,Bool.or_eq_false_iff] at hgood;exact hgood.2] at hcf;refine qaN (i:=2) (by rfl) (by rfl) (by rfl) ?_
   repeat refine zA ?_
   refine⟨rfl,_,_,_,_,_,_,_,by rfl,?_⟩;refine Run.less ?_
   repeat' (first|refine zW ?_|refine zB ?_ ?_<;>intro h<;>try exact zk h|refine zC (hnt) ?_|refine zC (hcf) ?_|(exact⟨rfl,_,qcP [] 3 rfl (by rfl) trivial trivial (by kernel_rfl) rfl,_,_,_,_,_,_,_,_,by rfl,rfl,by rfl⟩)|fail)
  .rcases hcase with hlt|hge
   .obtain⟨p,hp⟩:=qai hlt
    have hbad:qqB g p=true:=by
     rw [hn] at hp hlt;have:=List.findIdx_getElem (p:=fun p:qaV=>qqB g p) (xs:=g.prods) (w:=hlt);have e:g.prods[g.prods.findIdx fun p=>qqB g p]=p:=by rw [List.getElem?_eq_some_iff] at hp;exact hp.2
     rw [e] at this;simpa using this
    have hpr:=hf.rights p (List.mem_of_getElem? hp);have e:qix g=14:=by
     unfold qix;rw [if_neg];intro h;have:=(qkF g p).2 (h.2 p (List.mem_of_getElem? hp));rw [hbad] at this;cases this
    rw [e];have hcf:=qeG p.right (by omega) 169 [quL g] (fun s=>!qfq g s) (fun s _=>qoz g s hf);refine .inr ⟨p,[.box [.d (.int .i64 14)]],hp,rfl,.inl ⟨?_,?_⟩⟩
    .cases hl:qaK g p.left with
     |false =>
      have hnt:=qcs g p.left hf;rw [hl] at hnt;refine qaN (i:=2) (by rfl) (by rfl) (by rfl) ?_
      repeat refine zA ?_
      refine⟨rfl,_,_,_,_,_,_,_,by rfl,?_⟩;refine Run.less ?_
      repeat' (first|refine zW ?_|refine zB ?_ ?_<;>intro h<;>try exact zk h|refine zC (hnt) ?_|((refine Yt ?_;exact⟨rfl,_,qcP [] 3 rfl (by rfl) trivial trivial (by kernel_rfl) rfl,_,_,_,_,_,_,_,_,by rfl,rfl,by rfl⟩))|fail)
     |true =>
      have hnt:=qcs g p.left hf;rw [hl] at hnt;rw [show p.right.any (fun s=>!qfq g s)=true from by simpa [qqB,hl] using hbad] at hcf;refine qaN (i:=2) (by rfl) (by rfl) (by rfl) ?_
      repeat refine zA ?_
      refine⟨rfl,_,_,_,_,_,_,_,by rfl,?_⟩;refine Run.less ?_
      repeat' (first|refine zW ?_|refine zB ?_ ?_<;>intro h<;>try exact zk h|refine zC (hnt) ?_|refine zC (hcf) ?_|((refine Yt ?_;exact⟨rfl,_,qcP [] 3 rfl (by rfl) trivial trivial (by kernel_rfl) rfl,_,_,_,_,_,_,_,_,by rfl,rfl,by rfl⟩))|fail)
    .refine⟨trivial,_,_,by rfl,by rfl,Eq.trans (b:=some (.d (.int .i64 14))) (by kernel_rfl) ?_⟩
     rfl
   .have e:qix g=0:=by
     unfold qix;rw [if_pos];refine⟨hst,fun p hp=>(qkF g p).1 ?_⟩;cases hb:qqB g p with
     |false=>rfl
     |true =>
      have:=List.findIdx_lt_length_of_exists (xs:=g.prods) (p:=fun p=>qqB g p) ⟨p,hp,hb⟩;omega
    rw [e];refine .inl ⟨hge,?_⟩
    repeat' (first|refine zW ?_|refine zB ?_ ?_<;>intro h<;>try exact zk h|rfl|fail)
theorem qpc (P:Nat->Bool):∀ N:Nat,∃ n,n<=N/\(∀ k,k<n->P k=false)/\(n=N\/(n<N/\P n=true))
 |0=>⟨0,Nat.le_refl _,fun k hk=>by omega,.inl rfl⟩
 |N+1=>by
  obtain⟨n,h1,h2,h3⟩:=qpc P N;rcases h3 with rfl|⟨h3,h4⟩
  .cases hp:P n with
   |true=>exact⟨n,by omega,h2,.inr ⟨by omega,hp⟩⟩
   |false=>exact⟨n+1,by omega,qa1 h2 hp,.inl rfl⟩
  .exact⟨n,by omega,h2,.inr ⟨by omega,h4⟩⟩
open Classical in
def qlB (g:qaH) (k:Nat):Bool:=decide (0<k/\∃ p q,g.prods[k-1]?=some p/\g.prods[k]?=some q/\q.left<p.left)
open Classical in
theorem qhi (g:qaH) (k:Nat):qlB g k=true ↔ (0<k/\∃ p q,g.prods[k-1]?=some p/\g.prods[k]?=some q/\q.left<p.left):=by unfold qlB;exact decide_eq_true_iff
open Classical in
def qdr (g:qaH):Int:=if qh9 g then 9 else 0
theorem qvz (g:qaH) (hf:Fits g):qaa Tryz.prog 81 [qd5 g] (.d (.int .i64 (qdr g))):=by
 have hfp:=hf.prods;refine kF Tryz.func81 [1] fun w=>?_
 repeat' (first|refine zW ?_|refine zB ?_ ?_<;>intro h<;>try exact zk h|refine zK (qf8 g) ?_ ?_<;>intro h<;>try exact zk h|refine zC (qf8 g) ?_|fail)
 obtain⟨n,hidx,hbefore,hcase⟩:=qpc (qlB g) g.prods.length;refine Run.rangeProds (frz:=[1]) 1 (fun _=>[.box [.d (.int .i64 0)]]) g.prods (Nat.le_trans hf.prods (by decide)) (by rfl) (fun _=>rfl) (fun _=>rfl) (by kernel_rfl) n hidx (fun k p hk hp=>?_) ?_
 .have hgood:=hbefore k hk
  have hkl:=(List.getElem?_eq_some_iff.1 hp).1;rcases k with _|k
  .refine qaN (i:=2) (by rfl) (by rfl) (by rfl) ?_
   repeat refine zA ?_
   refine⟨rfl,_,_,_,_,_,_,_,by rfl,?_⟩;refine Run.less ?_
   repeat' (first|refine zW ?_|refine zB ?_ ?_<;>intro h<;>try exact zk h|(exact⟨rfl,_,qcP [] 3 rfl (by rfl) trivial trivial (by kernel_rfl) rfl,_,_,_,_,_,_,_,_,by rfl,rfl,by rfl⟩)|fail)
  .obtain⟨q,hq⟩:=qai (show k<g.prods.length by omega)
   have hno:¬ p.left<q.left:=fun h=>by
    have:qlB g (k+1)=true:=(qhi _ _).2 ⟨Nat.succ_pos _,q,p,hq,hp,h⟩;rw [this] at hgood;cases hgood
   have hw:IntKind.i64.wrap (((k+1:Nat):Int)-1)=(k:Nat):=by rw [qeL (by omega) (by omega)];omega
   refine qaN (i:=2) (by rfl) (by rfl) (by rfl) ?_
   repeat refine zA ?_
   refine⟨rfl,_,_,_,_,_,_,_,by rfl,?_⟩;refine Run.less ?_
   repeat' (first|refine oV (v:=.d (.int .i64 (k:Nat))) ?_ (he:=(congrArg (fun n=>AV.d (.int .i64 n)) hw))|refine eX (v:=.d (.int .i64 (k:Nat))) ?_ (he:=(congrArg (fun n=>AV.d (.int .i64 n)) hw))|refine zW ?_|refine zB ?_ ?_<;>intro h<;>try exact zk h|refine zIP w (.d (.ep [.int .i64 q.left,qcV q.right])) hq ?_|(exact⟨rfl,_,qcP [] 3 rfl (by rfl) trivial trivial (by kernel_rfl) rfl,_,_,_,_,_,_,_,_,by rfl,rfl,by rfl⟩)|((exfalso;first|(simp_all<;>fail)|(simp_all;omega)))|fail)
 .rcases hcase with hge|⟨hlt,hbad⟩
  .have e:qdr g=0:=by
    unfold qdr;rw [if_neg]
    rintro⟨i,p,q,h1,h2,h3⟩
    have hi:=(List.getElem?_eq_some_iff.1 h2).1;have:=hbefore (i+1) (by omega);rw [show qlB g (i+1)=true from(qhi _ _).2 ⟨Nat.succ_pos _,p,q,h1,h2,h3⟩] at this;cases this
   rw [e];refine .inl ⟨hge,?_⟩
   repeat' (first|refine zW ?_|refine zB ?_ ?_<;>intro h<;>try exact zk h|rfl|fail)
  .have hb:=(qhi _ _).1 hbad
   obtain⟨hn0,q,p,hq,hp,hlt2⟩:=hb;rcases n with _|k
   .omega
   .have hq:g.prods[k]?=some q:=hq
    have e:qdr g=9:=by unfold qdr;rw [if_pos ⟨k,q,p,hq,hp,hlt2⟩]
    rw [e];have hkl:=(List.getElem?_eq_some_iff.1 hp).1;have hw:IntKind.i64.wrap (((k+1:Nat):Int)-1)=(k:Nat):=by rw [qeL (by omega) (by omega)];omega
    refine .inr ⟨p,[.box [.d (.int .i64 9)]],hp,rfl,.inl ⟨?_,?_⟩⟩
    .refine qaN (i:=2) (by rfl) (by rfl) (by rfl) ?_
     repeat refine zA ?_
     refine⟨rfl,_,_,_,_,_,_,_,by rfl,?_⟩;refine Run.less ?_
     repeat' (first|refine oV (v:=.d (.int .i64 (k:Nat))) ?_ (he:=(congrArg (fun n=>AV.d (.int .i64 n)) hw))|refine eX (v:=.d (.int .i64 (k:Nat))) ?_ (he:=(congrArg (fun n=>AV.d (.int .i64 n)) hw))|refine zW ?_|refine zB ?_ ?_<;>intro h<;>try exact zk h|refine zIP w (.d (.ep [.int .i64 q.left,qcV q.right])) hq ?_|((refine Yt ?_;exact⟨rfl,_,qcP [] 3 rfl (by rfl) trivial trivial (by kernel_rfl) rfl,_,_,_,_,_,_,_,_,by rfl,rfl,by rfl⟩))|((exfalso;first|(simp_all<;>fail)|(simp_all;omega)))|fail)
    .refine⟨trivial,_,_,by rfl,by rfl,Eq.trans (b:=some (.d (.int .i64 9))) (by kernel_rfl) ?_⟩
     rfl
def qc6 (g:qaH):List Int:=[qc0 g,qgk g,qmf g,qix g,qdr g,qdC g]
def qdn:List Int->Int
 |[]=>0
 |e :: r=>if e=0 then qdn r else e
def qma (g:qaH):Int:=if g.k<1\/4<g.k then 2 else qdn (qc6 g)
theorem qcr:∀ {l:List Int} {i:Nat} {e:Int},l[i]?=some e->e≠0->(∀ j,j<i->l[j]?=some 0)->qdn l=e
 |[],i,e,h,_,_=>by simp at h
 |a :: r,0,e,h,he,_=>by simp at h;subst h;simp [qdn,he]
 |a :: r,i+1,e,h,he,hb=>by
  have ha:a=0:=by have:=hb 0 (by omega);simpa using this
  subst ha;simp only [qdn,if_true];exact qcr (i:=i) (by simpa using h) he (fun j hj=>by have:=hb (j+1) (by omega);simpa using this)
theorem qgn:∀ {l:List Int},(∀ j,j<l.length->l[j]?=some 0)->qdn l=0
 |[],_=>rfl
 |a :: r,hb=>by
  have ha:a=0:=by have:=hb 0 (by simp);simpa using this
  subst ha;simp only [qdn,if_true];exact qgn (fun j hj=>by have:=hb (j+1) (by simpa using hj);simpa using this)
abbrev qxE:List DV:=[.fn (.func 77) [] [],.fn (.func 78) [] [],.fn (.func 79) [] [],.fn (.func 80) [] [],.fn (.func 81) [] [],.fn (.func 82) [] []]
theorem quY (g:qaH) (hf:Fits g):qaa Tryz.prog 20 [qd5 g] (.d (.int .i64 (qma g))):=by
 by_cases hk:g.k<1\/4<g.k
 .have e:qma g=2:=if_pos hk
  rw [e];refine kF Tryz.func20 [1,13,200001] fun w=>?_;refine Yq ?_
  repeat' (first|refine zW ?_|refine zB ?_ ?_<;>intro h<;>try exact zk h|refine zX ?_|fail)
  refine Run.scope ?_
  repeat' (first|refine zW ?_|refine zB ?_ ?_<;>intro h<;>try exact zk h|refine zX ?_|rfl|((exfalso;first|(simp_all<;>fail)|(simp_all;omega)))|fail)
 .have e:qma g=qdn (qc6 g):=if_neg hk
  rw [e];rw [not_or] at hk;refine kF Tryz.func20 [1,13,200001] fun w=>?_
  repeat' (first|refine zW ?_|refine zB ?_ ?_<;>intro h<;>try exact zk h|refine zX ?_|fail)
  refine Run.scope ?_
  repeat' (first|refine zW ?_|refine zB ?_ ?_<;>intro h<;>try exact zk h|refine zX ?_|refine Run.label ?_|((exfalso;first|(simp_all<;>fail)|(simp_all;omega)))|fail)
  refine Run.loop (fun i:Nat=>⟨PT.ofList [(1,(.d (.ep [.int .i64 g.k,qao g.tokens,.str g.sep,qao g.names,.int .i64 g.start,.sl 2 (g.prods.map qbf)]))),(2,.d (.int .i64 0)),(13,.d (.sl 1 qxE)),(14,.d (.int .i64 6)),(15,.d (.int .i64 i))],[],[]⟩) (fun i=>i<=6/\∀ j,j<i->(qc6 g)[j]?=some 0) (fun i=>6-i) 0 ⟨Nat.zero_le _,fun j hj=>by omega⟩ (qac (by repeat' (first|exact trivial|refine⟨rfl,?_⟩))) (fun i hi=>?_);obtain⟨hi1,hi2⟩:=hi;have hcs:i=0\/i=1\/i=2\/i=3\/i=4\/i=5\/i=6:=by omega
  rcases hcs with h|h|h|h|h|h|h<;>subst h
  .have hc:=qAA g hf
   by_cases he:qc0 g=0
   .have hnext:(qc6 g)[0]?=some 0:=by rw [<- he];rfl
    rw [he] at hc
    repeat' (first|refine zW ?_|refine zB ?_ ?_<;>intro h<;>try exact zk h|refine zX ?_|refine zC (hc) ?_|(exact⟨1,⟨by omega,qa1 hi2 hnext⟩,by omega,qac (by repeat' (first|exact trivial|refine⟨rfl,?_⟩))⟩)|fail)
   .repeat' (first|refine zW ?_|refine zB ?_ ?_<;>intro h<;>try exact zk h|refine zX ?_|refine zC (hc) ?_|(show _=_;rw [qcr (i:=0) (show(qc6 g)[0]?=some (qc0 g) from rfl) he hi2])|((exfalso;(simp_all<;>fail)))|fail)
  .have hc:=qz6 g hf
   by_cases he:qgk g=0
   .have hnext:(qc6 g)[1]?=some 0:=by rw [<- he];rfl
    rw [he] at hc
    repeat' (first|refine zW ?_|refine zB ?_ ?_<;>intro h<;>try exact zk h|refine zX ?_|refine zC (hc) ?_|(exact⟨2,⟨by omega,qa1 hi2 hnext⟩,by omega,qac (by repeat' (first|exact trivial|refine⟨rfl,?_⟩))⟩)|fail)
   .repeat' (first|refine zW ?_|refine zB ?_ ?_<;>intro h<;>try exact zk h|refine zX ?_|refine zC (hc) ?_|(show _=_;rw [qcr (i:=1) (show(qc6 g)[1]?=some (qgk g) from rfl) he hi2])|((exfalso;(simp_all<;>fail)))|fail)
  .have hc:=qr3 g hf
   by_cases he:qmf g=0
   .have hnext:(qc6 g)[2]?=some 0:=by rw [<- he];rfl
    rw [he] at hc
    repeat' (first|refine zW ?_|refine zB ?_ ?_<;>intro h<;>try exact zk h|refine zX ?_|refine zC (hc) ?_|(exact⟨3,⟨by omega,qa1 hi2 hnext⟩,by omega,qac (by repeat' (first|exact trivial|refine⟨rfl,?_⟩))⟩)|fail)
   .repeat' (first|refine zW ?_|refine zB ?_ ?_<;>intro h<;>try exact zk h|refine zX ?_|refine zC (hc) ?_|(show _=_;rw [qcr (i:=2) (show(qc6 g)[2]?=some (qmf g) from rfl) he hi2])|((exfalso;(simp_all<;>fail)))|fail)
  .have hc:=quG g hf
   by_cases he:qix g=0
   .have hnext:(qc6 g)[3]?=some 0:=by rw [<- he];rfl
    rw [he] at hc
    repeat' (first|refine zW ?_|refine zB ?_ ?_<;>intro h<;>try exact zk h|refine zX ?_|refine zC (hc) ?_|(exact⟨4,⟨by omega,qa1 hi2 hnext⟩,by omega,qac (by repeat' (first|exact trivial|refine⟨rfl,?_⟩))⟩)|fail)
   .repeat' (first|refine zW ?_|refine zB ?_ ?_<;>intro h<;>try exact zk h|refine zX ?_|refine zC (hc) ?_|(show _=_;rw [qcr (i:=3) (show(qc6 g)[3]?=some (qix g) from rfl) he hi2])|((exfalso;(simp_all<;>fail)))|fail)
  .have hc:=qvz g hf
   by_cases he:qdr g=0
   .have hnext:(qc6 g)[4]?=some 0:=by rw [<- he];rfl
    rw [he] at hc
    repeat' (first|refine zW ?_|refine zB ?_ ?_<;>intro h<;>try exact zk h|refine zX ?_|refine zC (hc) ?_|(exact⟨5,⟨by omega,qa1 hi2 hnext⟩,by omega,qac (by repeat' (first|exact trivial|refine⟨rfl,?_⟩))⟩)|fail)
   .repeat' (first|refine zW ?_|refine zB ?_ ?_<;>intro h<;>try exact zk h|refine zX ?_|refine zC (hc) ?_|(show _=_;rw [qcr (i:=4) (show(qc6 g)[4]?=some (qdr g) from rfl) he hi2])|((exfalso;(simp_all<;>fail)))|fail)
  .have hc:=qs9 g hf
   by_cases he:qdC g=0
   .have hnext:(qc6 g)[5]?=some 0:=by rw [<- he];rfl
    rw [he] at hc
    repeat' (first|refine zW ?_|refine zB ?_ ?_<;>intro h<;>try exact zk h|refine zX ?_|refine zC (hc) ?_|(exact⟨6,⟨by omega,qa1 hi2 hnext⟩,by omega,qac (by repeat' (first|exact trivial|refine⟨rfl,?_⟩))⟩)|fail)
   .repeat' (first|refine zW ?_|refine zB ?_ ?_<;>intro h<;>try exact zk h|refine zX ?_|refine zC (hc) ?_|(show _=_;rw [qcr (i:=5) (show(qc6 g)[5]?=some (qdC g) from rfl) he hi2])|((exfalso;(simp_all<;>fail)))|fail)
  .repeat' (first|refine zW ?_|refine zB ?_ ?_<;>intro h<;>try exact zk h|refine zX ?_|(show _=_;rw [qgn (l:=qc6 g) hi2])|fail)
theorem qfx {g:qaH} (h:qb6 g=0):(∀ s ∈ qaz g,qap s=true)/\∀ s ∈ g.names,qae s=true:=by
 unfold qb6 at h;split at h
 .omega
 .rename_i hn
  simp only [not_or,not_exists,not_and,Bool.not_eq_false] at hn;exact hn
theorem qey {s:List Nat} (h1:qap s=true) (h2:qae s=true):False:=by
 simp only [qap,qae,Bool.and_eq_true,decide_eq_true_eq] at h1 h2;omega
theorem qkl {g:qaH} (h:qb6 g=0):(qji g).Nodup ↔ (qaz g).Nodup/\g.names.Nodup:=by
 obtain⟨h1,h2⟩:=qfx h;rw [qji,List.nodup_append];refine⟨fun h=>⟨h.1,h.2.1⟩,fun h=>⟨h.1,h.2,fun a ha b hb e=>qey (h1 a ha) (e ▸ h2 b hb)⟩⟩
theorem qq1 (g:qaH):qma g=qaM g:=by
 unfold qma qaM;split
 .rfl
 .simp only [qc6,qdn]
  by_cases h1:qc0 g=0
  .simp only [h1,ne_eq,not_true_eq_false,if_false,if_true]
   by_cases h2:g.tokens=[]\/g.names=[]
   .have:qgk g=5:=if_pos h2
    simp [this,h2]
   .have:qgk g=qb6 g:=if_neg h2
    simp only [this,if_neg h2];by_cases h3:qb6 g=0
    .simp only [h3,if_true]
     by_cases h4:(qji g).Nodup
     .have h5:=(qkl h3).1 h4
      have h6:qmf g=0:=if_pos h4;have h7:qct g=0:=by unfold qct;rw [if_neg (by simp [h5.1,h5.2]),h3]
      simp only [h6,h7,ne_eq,not_true_eq_false,if_false,if_true];unfold qix qdr qdC qco;by_cases a:qgw g<;>by_cases b:qh9 g<;>by_cases c:qhb g<;>simp [a,b,c]
     .have h6:qmf g=8:=if_neg h4
      have h7:qct g=8:=by
       unfold qct;rw [if_pos];refine⟨h3,?_⟩;by_cases h5:(qaz g).Nodup
       .exact .inr fun h8=>h4 ((qkl h3).2 ⟨h5,h8⟩)
       .exact .inl h5
      simp [h6,h7]
    .have h7:qct g=qb6 g:=by unfold qct;rw [if_neg (by simp [h3])]
     simp [h3,h7]
  .simp [h1]
theorem qr0 (g:qaH) (hf:Fits g):qaa Tryz.prog 20 [qd5 g] (.d (.int .i64 (qaM g))):=by rw [<- qq1];exact quY g hf
theorem qus (g:qaH) (s:Int) (x:List Nat) (hf:Fits g) (ht:g.tokens.length<=8) (h:qcq g s=some x):qaa Tryz.prog 73 [qd5 g,.int .i64 s] (.d (.str x)):=by
 have hfn:=hf.names;by_cases hs:16<=s
 .rw [qcq,if_pos hs] at h
  have hlt:=(List.getElem?_eq_some_iff.1 h).1;have hw:IntKind.i64.wrap (s-16)=s-16:=qeL (by omega) (by omega);have hx:=h;have hc:=qh1 g s;rw [show qek g s=false from by simp [qek];omega] at hc;refine kF Tryz.func73 [2] fun w=>?_
  repeat' (first|refine zW ?_|refine zB ?_ ?_<;>intro h<;>try exact zk h|refine zC (hc) ?_|refine zI w (.d (.ep [.str x])) (And.intro hx hw) ?_|rfl|fail)
 .rw [qcq,if_neg hs] at h
  by_cases hs0:0<=s
  .rw [if_pos hs0] at h
   have hlt:=(List.getElem?_eq_some_iff.1 h).1;have hx:=h;have hc:=qh1 g s;rw [show qek g s=true from by simp [qek];omega] at hc;refine kF Tryz.func73 [2] fun w=>?_
   repeat' (first|refine zW ?_|refine zB ?_ ?_<;>intro h<;>try exact zk h|refine zC (hc) ?_|refine zI w (.d (.ep [.str x])) hx ?_|rfl|fail)
  .rw [if_neg hs0] at h;cases h
theorem qnB {g:qaH} (h0:qaM g=0) (s:List Nat) (h1:s ∈ g.tokens) (h2:s ∈ g.names):False:=by
 obtain⟨_,_,_,hn,_⟩:=qbh h0;have h3:qb6 g=0:=by
  unfold qct at hn;split at hn
  .omega
  .exact hn
 obtain⟨h4,h5⟩:=qfx h3;exact qey (h4 s (by simp [qaz,h1])) (h5 s h2)
theorem qrA (ps:List qaV) (hl:ps.length<=1099511627776) (yi:Nat) (B:Nat->List Ob) (hyi:∀ k,Nat.blt yi (B k).length=true) (hL:∀ k,Nat.ble (B 0).length (B k).length=true) (hR:∀ k,(B k).all (qbB (B k).length)=true)
  (hy:∀ k p,k<ps.length->ps[k]?=some p->qcJ Tryz.prog yi [.d (.int .i64 k),.d (qbf p)] (B k) (.d (.bool true)) (B (k+1))) :
  ACall Tryz.prog 221 [.yl yi,.d (.ep [.sl 2 (ps.map qbf)])] (B 0) (.tup []) (B ps.length):=by
 have w:Fz []:=trivial;refine qaf qak (fnB Tryz.func221 []) rfl rfl ?_
 repeat refine zA ?_
 refine Run.loop (fun k:Nat=>⟨PT.ofList [(0,.yl yi),(5,.d (.sl 2 (ps.map qbf))),(6,.d (.int .i64 (ps.map qbf).length)),(7,.d (.int .i64 k))],B k,[]⟩) (fun k=>k<=ps.length) (fun k=>ps.length-k) 0 (Nat.zero_le _) (qac ⟨rfl,rfl,rfl,rfl,trivial⟩) (fun k hk=>?_)
 repeat refine zA ?_
 refine Run.cond (by rfl) (fun h=>?_) (fun h=>?_)
 .have hlt:k<ps.length:=by simpa using h
  obtain⟨p,hp⟩:=qai hlt
  repeat refine zA ?_
  first|refine oV (v:=.d (.ep [.int .i64 p.left,qcV p.right])) ?_ (hf:=(by first|(simp [inB]<;>fail)|(simp [inB];omega))) (he:=(by first|(simp [List.getD_eq_getElem?_getD,qam,hp,qbf]<;>fail)|fail))|refine eX (v:=.d (.ep [.int .i64 p.left,qcV p.right])) ?_ (hf:=(by first|(simp [inB]<;>fail)|(simp [inB];omega))) (he:=(by first|(simp [List.getD_eq_getElem?_getD,qam,hp,qbf]<;>fail)|fail))
  repeat refine zA ?_
  refine RunOps.x (frz:=[]) (v:=.d .any) (ob:=some (B k++[.box [.d (.int .i64 p.left),.d (qcV p.right)]])) (fl:=true) qak (by rfl)
   (Eq.trans (b:=Option.map (fun(p:AV × List Ob × Bool)=>(p.1,some p.2.1,p.2.2)) (qff Et 82 (.bp (B k).length 0) (.d (.agg [.int .i64 p.left,qcV p.right])) (B k++[.box [.d (.int .i64 0),.d .nilsl]]))) rfl (by rw [qhh (y:=qxz) (by rfl) (B k) _ (by rfl) (by rfl) (by rfl)];rfl)) rfl rfl rfl rfl (by rfl) ?_
  repeat refine zA ?_
  refine RunOps.x (frz:=[]) (v:=.d (.agg [.int .i64 p.left,qcV p.right])) (ob:=none) (fl:=true) qak (by rfl)
   (Eq.trans (b:=Option.map (fun(p:AV × List Ob × Bool)=>(p.1,none,p.2.2)) (qgx Et 82 (.bp (B k).length 0) (B k++[.box [.d (.int .i64 p.left),.d (qcV p.right)]]))) rfl (by rw [qmV (y:=qxz) (by rfl) (by rfl) (B k) _ (by rfl)];rfl)) rfl rfl rfl rfl (by rfl) ?_
  have hb:=hyi k;refine RunOps.less (qcP [(5,.d (.sl 2 (ps.map qbf))),(6,.d (.int .i64 (ps.map qbf).length)),(7,.d (.int .i64 k)),(12,.yl yi),(0,.yl yi),(13,.d (.int .i64 k)),(14,.d (qbf p))] (B k).length (List.take_left) (hL k)
   ⟨by kernel_rfl,by kernel_rfl,by kernel_rfl,by kernel_rfl,by kernel_rfl,by kernel_rfl,by kernel_rfl,trivial⟩ ⟨rfl,rfl,rfl,hb,hb,rfl,rfl,trivial⟩ (hR k) rfl) ?_
  refine RunOps.yield (by rfl) (by rfl) (hy k p hlt hp) (by rfl) (by rfl) ?_
  repeat refine zA ?_
  refine Run.cond (b:=false) (by rfl) (fun h=>by cases h) (fun _=>?_)
  repeat refine zA ?_
  exact⟨k+1,hlt,by omega,qac ⟨(by kernel_rfl),(by kernel_rfl),(by kernel_rfl),(qaq (k:=k) (by kernel_rfl) (by omega)),trivial⟩⟩
 .have hge:ps.length<=k:=by simpa using h
  have hkn:k=ps.length:=by omega
  subst hkn
  repeat refine zA ?_
  exact⟨trivial,rfl,by kernel_rfl⟩
theorem Run.rangeProdsX {nt m:Nat} {frz:List Nat} {K:Ex->S->Prop} {tm:PT AV} {dl:List Dl} {f:Operand} {qs:Array Tmp} {assign body:Code} (L:Nat) (Bs Xs:Nat->List Ob) (ps:List qaV) (hl:ps.length<=1099511627776)
  (hf:rd tm f=.d (qem ps)) (hX0:Xs 0=[]) (hBL:∀ k,(Bs k).length=L) (hBr:∀ k,(Bs k).all (qbB (L+2+(Xs k).length))=true) (hXr:∀ k,(Xs k).all (qbB (L+2+(Xs k).length))=true) (hT:∀ n,qdO (qg6 8 (L+2+n)) tm=true)
  (hround:∀ k p,k<ps.length->ps[k]?=some p->qcJ Tryz.prog (L+1) [.d (.int .i64 k),.d (qbf p)] (qag (Bs k) tm nt frz qs assign body .ready none++Xs k) (.d (.bool true)) (qag (Bs (k+1)) tm nt frz qs assign body .ready none++Xs (k+1)))
  (hend:K .normal ⟨tm,qag (Bs ps.length) tm nt frz qs assign body .exhausted none++Xs ps.length,.mark L :: dl⟩) :
  Run Tryz.prog nt m none (.rangeFunc f qs assign body) ⟨tm,Bs 0,dl⟩ K:=by
 have hlen:∀ k,(qag (Bs k) tm nt frz qs assign body .ready none++Xs k).length=L+2+(Xs k).length:=fun k=>by simp [qag,hBL k];omega
 have hrefs:∀ k,(qag (Bs k) tm nt frz qs assign body .ready none++Xs k).all (qbB (qag (Bs k) tm nt frz qs assign body .ready none++Xs k).length)=true:=fun k=>by
  rw [hlen k];simp only [qag,List.all_append,hBr k,hXr k,Bool.true_and,List.all_cons,List.all_nil,Bool.and_true];simp only [qbB,hT,Bool.and_self]
 have hget:∀ k,(qag (Bs k) tm nt frz qs assign body .ready none++Xs k)[L+1]?=some (.loop tm nt frz qs assign body .ready none):=fun k=>by
  have:=hBL k;subst this;simp [qag]
 have hset:∀ k,(qag (Bs k) tm nt frz qs assign body .ready none++Xs k).set (L+1) (.loop tm nt frz qs assign body .exhausted none)=qag (Bs k) tm nt frz qs assign body .exhausted none++Xs k:=fun k=>by
  have:=hBL k;subst this;rw [List.set_append_left _ _ (by simp [qag])]
  congr 1
  unfold qag;rw [List.set_append_right _ _ (by simp)]
  simp
 have hm:Tryz.prog.follows .mixedOrders=true:=by kernel_rfl
 have hA:=qrA ps hl (L+1) (fun k=>qag (Bs k) tm nt frz qs assign body .ready none++Xs k) (fun k=>by rw [hlen k,Nat.blt_eq];omega) (fun k=>Nat.ble_eq_true_of_le (by rw [hlen 0,hlen k,hX0];simp)) hrefs hround;simp only [hX0,List.append_nil] at hA;rw [<- hBL 0] at hA;have:=Run.range (m:=m) (s:=⟨tm,Bs 0,dl⟩) (K:=K) qak hm hf hA rfl (by rw [hBL 0];exact hget _) (by simp) (by
  simp only [hBL 0];rw [hset];exact hend)
 exact this
section
set_option maxRecDepth 10000
end
section
set_option maxRecDepth 10000
end
theorem qoO (a b:List Int) (hal:a.length<=1099511627776):qaa Tryz.prog 68 [qcV a,qcV b] (.d (.bool (decide (a=b)))):=by
 by_cases hlen:a.length=b.length
 .refine kF Tryz.func68 [] fun w=>?_
  repeat' (first|refine zW ?_|refine zB ?_ ?_<;>intro h<;>try exact zk h|((exfalso;first|(simp_all<;>fail)|(simp_all;omega)))|fail)
  refine Run.loop (fun i:Nat=>⟨PT.ofList [(0,.d (qcV a)),(1,.d (qcV b)),(5,.d (.int .i64 i))],[],[]⟩) (fun i=>i<=a.length/\a.take i=b.take i) (fun i=>a.length-i) 0 ⟨Nat.zero_le _,rfl⟩ (qac (by repeat' (first|exact trivial|refine⟨rfl,?_⟩))) (fun i hi=>?_);rcases Nat.lt_or_ge i a.length with hlt|hge
  .obtain⟨x,hx⟩:=qai hlt
   obtain⟨y,hy⟩:=qai (show i<b.length by omega);by_cases hxy:x=y
   .subst hxy
    have ht:a.take (i+1)=b.take (i+1):=by rw [List.take_add_one,List.take_add_one,hi.2,hx,hy]
    repeat' (first|refine zW ?_|refine zB ?_ ?_<;>intro h<;>try exact zk h|refine zI w (.d (.ep [.int .i64 x])) hx ?_|refine zI w (.d (.ep [.int .i64 x])) hy ?_|(exact⟨i+1,⟨hlt,ht⟩,by omega,qac (by repeat' (first|exact trivial|refine⟨rfl,?_⟩|refine⟨(qaq (k:=i) (by kernel_rfl) (by omega)),?_⟩))⟩)|((exfalso;first|(simp_all<;>fail)|(simp_all;omega)))|fail)
   .have hne:a≠b:=fun e=>by subst e;rw [hx] at hy;cases hy;exact hxy rfl
    rw [decide_eq_false hne]
    repeat' (first|refine zW ?_|refine zB ?_ ?_<;>intro h<;>try exact zk h|refine zI w (.d (.ep [.int .i64 x])) hx ?_|refine zI w (.d (.ep [.int .i64 y])) hy ?_|rfl|((exfalso;first|(simp_all<;>fail)|(simp_all;omega)))|fail)
  .have hie:i=a.length:=by have:=hi.1;omega
   have hab:a=b:=by have:=hi.2;rw [hie,List.take_length,hlen,List.take_length] at this;exact this
   rw [decide_eq_true hab]
   repeat' (first|refine zW ?_|refine zB ?_ ?_<;>intro h<;>try exact zk h|rfl|((exfalso;first|(simp_all<;>fail)|(simp_all;omega)))|fail)
 .have hne:a≠b:=fun e=>by subst e;exact hlen rfl
  rw [decide_eq_false hne];refine kF Tryz.func68 [] fun w=>?_
  repeat' (first|refine zW ?_|refine zB ?_ ?_<;>intro h<;>try exact zk h|rfl|((exfalso;first|(simp_all<;>fail)|(simp_all;omega)))|fail)
def qzI (a b:qaH):Prop:=a.k=b.k/\a.tokens=b.tokens/\a.sep=b.sep/\a.names=b.names/\a.start=b.start/\a.prods=b.prods
theorem qpd (g:qaH) (hf:Fits g):qaa Tryz.prog 25 [qd5 g,qd5 g] (.d (.bool true)):=by
 have hfp:=hf.prods;have hft:=hf.tokens;have hfn:=hf.names;have h1:=qgr g.tokens g.tokens (by omega);have h2:=qgr g.names g.names (by omega);rw [decide_eq_true rfl] at h1 h2;refine kF Tryz.func25 [2,3] fun w=>?_
 repeat' (first|refine zW ?_|refine zB ?_ ?_<;>intro h<;>try exact zk h|refine zX ?_|refine zC (h1) ?_|refine zC (h2) ?_|((exfalso;first|(simp_all<;>fail)|(simp_all;omega)))|fail)
 refine Run.loop (fun i:Nat=>⟨PT.ofList [(2,(.d (.ep [.int .i64 g.k,qao g.tokens,.str g.sep,qao g.names,.int .i64 g.start,.sl 2 (g.prods.map qbf)]))),(3,(.d (.ep [.int .i64 g.k,qao g.tokens,.str g.sep,qao g.names,.int .i64 g.start,.sl 2 (g.prods.map qbf)]))),(5,.d (.int .i64 i))],[],[]⟩) (fun i=>i<=g.prods.length) (fun i=>g.prods.length-i) 0 (Nat.zero_le _) (qac (by repeat' (first|exact trivial|refine⟨rfl,?_⟩))) (fun i hi=>?_);rcases Nat.lt_or_ge i g.prods.length with hlt|hge
 .obtain⟨p,hp⟩:=qai hlt
  have hpr:=hf.rights p (List.mem_of_getElem? hp);have h3:=qoO p.right p.right (by omega);rw [decide_eq_true rfl] at h3
  repeat' (first|refine zW ?_|refine zB ?_ ?_<;>intro h<;>try exact zk h|refine zX ?_|refine zIP w (.d (.ep [.int .i64 p.left,qcV p.right])) hp ?_|refine zC (h3) ?_|(exact⟨i+1,hlt,by omega,qac (by repeat' (first|exact trivial|refine⟨rfl,?_⟩|refine⟨(qaq (k:=i) (by kernel_rfl) (by omega)),?_⟩))⟩)|((exfalso;first|(simp_all<;>fail)|(simp_all;omega)))|fail)
 .have hie:i=g.prods.length:=by omega
  subst hie
  repeat' (first|refine zW ?_|refine zB ?_ ?_<;>intro h<;>try exact zk h|refine zX ?_|rfl|((exfalso;first|(simp_all<;>fail)|(simp_all;omega)))|fail)
abbrev qcG:Ob:=.box [.d (.int .i64 0),.d .nilsl,.d (.str []),.d .nilsl,.d (.int .i64 0),.d .nilsl]
structure SRule where
 name:List Nat
 alts:List (List (List Nat))
structure Src where
 k:Int
 tokens:List (List Nat)
 sep:List Nat
 start:List Nat
 rules:List SRule
abbrev alts (l:List (List (List Nat))):DV:=.sl 1 (l.map qao)
def qbV (r:SRule):DV:=.agg [.str r.name,alts r.alts]
abbrev qfO (x:Src):DV:=.agg [.int .i64 x.k,qao x.tokens,.str x.sep,.str x.start,.sl 2 (x.rules.map qbV)]
abbrev qbK (x:Src):AV:=.d (.ep [.int .i64 x.k,qao x.tokens,.str x.sep,.str x.start,.sl 2 (x.rules.map qbV)])
structure qde (x:Src):Prop where
 tokens:x.tokens.length<=1048576
 rules:x.rules.length<=1048576
 alts:∀ r ∈ x.rules,r.alts.length<=1048576
 names:∀ r ∈ x.rules,∀ a ∈ r.alts,a.length<=1048576
 sep:x.sep.length<=1048576
 start:x.start.length<=1048576
 tokenS:∀ s ∈ x.tokens,s.length<=1048576
 ruleS:∀ r ∈ x.rules,r.name.length<=1048576
 nameS:∀ r ∈ x.rules,∀ a ∈ r.alts,∀ s ∈ a,s.length<=1048576
section
variable {α:Type} {l:List α} {p:α->Bool} {i:Nat} {x:α}
theorem qbn (h:l[i]?=some x) (hb:(l.take i).any p=false) (hx:p x=false):(l.take (i+1)).any p=false:=by
 rw [List.take_add_one,h,List.any_append,hb];simp [hx]
theorem qb8 (h:l[i]?=some x) (hx:p x=true):l.any p=true:=List.any_eq_true.2 ⟨x,List.mem_of_getElem? h,hx⟩
theorem qdc (hb:(l.take l.length).any p=false):l.any p=false:=by rw [List.take_length] at hb;exact hb
end
theorem qiI (l:List (List Nat)) (s:List Nat) (hl:l.length<=1099511627776):qaa Tryz.prog 196 [qao l,.str s] (.d (.bool (l.any fun y=>decide (y=s)))):=by
 refine kF Tryz.func196 [] fun w=>?_
 repeat' (first|refine zW ?_|refine zB ?_ ?_<;>intro h<;>try exact zk h|fail)
 refine Run.loop (fun i:Nat=>⟨PT.ofList [(0,.d (qao l)),(1,.d (.str s)),(5,.d (.int .i64 i))],[],[]⟩) (fun i=>i<=l.length/\(l.take i).any (fun y=>decide (y=s))=false) (fun i=>l.length-i) 0 ⟨Nat.zero_le _,rfl⟩ (qac (by repeat' (first|exact trivial|refine⟨rfl,?_⟩))) (fun i hi=>?_);rcases Nat.lt_or_ge i l.length with hlt|hge
 .obtain⟨y,hy⟩:=qai hlt
  by_cases hys:y=s
  .rw [qb8 hy (p:=fun y=>decide (y=s)) (by simp [hys])]
   repeat' (first|refine zW ?_|refine zB ?_ ?_<;>intro h<;>try exact zk h|refine zI w (.d (.ep [.str y])) hy ?_|rfl|((exfalso;(simp at h<;>fail)))|((exfalso;simp [hys] at h<;>fail))|fail)
  .repeat' (first|refine zW ?_|refine zB ?_ ?_<;>intro h<;>try exact zk h|refine zI w (.d (.ep [.str y])) hy ?_|(show _=_;(exfalso;simp [hys] at h<;>fail))|(exact⟨i+1,⟨hlt,qbn hy hi.2 (by simp [hys])⟩,by omega,qac (by repeat' (first|exact trivial|refine⟨rfl,?_⟩|refine⟨(qaq (k:=i) (by kernel_rfl) (by omega)),?_⟩))⟩)|fail)
 .have hie:i=l.length:=by omega
  subst hie;rw [qdc hi.2]
  repeat' (first|refine zW ?_|refine zB ?_ ?_<;>intro h<;>try exact zk h|rfl|fail)
theorem qln (x:Src) (hf:qde x):qaa Tryz.prog 131 [qfO x] (.d (qao (x.rules.map (·.name)))):=by
 have w:Fz [1,19]:=trivial;have hr:=hf.rules;refine qf5 qak (fnB Tryz.func131 [1,19]) ?_
 repeat' (first|refine zW ?_|refine zB ?_ ?_<;>intro h<;>try exact zk h|refine zX ?_|(refine Yt ?_;refine r2 ?_;first|done|(skip))|fail)
 refine Run.loop (fun y:Nat × List DV=>⟨PT.ofList [(1,qbK x),(3,qxM 0 1 y.2),(4,.d (.int .i64 y.1))],qyd 1 y.2,[]⟩) (fun y=>y.1<=x.rules.length/\y.2=(x.rules.take y.1).map (fun r=>.str r.name)) (fun y=>x.rules.length-y.1) (0,[]) ⟨Nat.zero_le _,rfl⟩ (qac (by repeat' (first|exact trivial|refine⟨rfl,?_⟩))) (fun y hy=>?_);obtain⟨i,acc⟩:=y;obtain⟨hi1,hi2⟩:=hy;simp only at hi1 hi2 |-;have hal:acc.length<=i:=by rw [hi2];simp;omega
 rcases Nat.lt_or_ge i x.rules.length with hlt|hge
 .obtain⟨r,hr⟩:=qai hlt
  have hnext:acc++[.str r.name]=(x.rules.take (i+1)).map (fun r=>.str r.name):=by rw [List.take_add_one,hr,hi2];simp
  rcases acc with _|⟨a,l⟩
  .repeat' (first|refine zW ?_|refine zB ?_ ?_<;>intro h<;>try exact zk h|refine zX ?_|refine zIR w (.d (.ep [.str r.name,alts r.alts])) hr ?_|refine zAp ?_|(refine Yt ?_;refine r2 ?_;first|done|(skip))|(exact⟨(i+1,[.str r.name]),⟨hlt,hnext⟩,by simp only;omega,qb4 (by rfl) rfl (by repeat' (first|exact trivial|refine⟨rfl,?_⟩|refine⟨(qaq (k:=i) (by kernel_rfl) (by omega)),?_⟩))⟩)|fail)
  .have hal':l.length+1<=i:=hal
   repeat' (first|refine zW ?_|refine zB ?_ ?_<;>intro h<;>try exact zk h|refine zX ?_|refine zIR w (.d (.ep [.str r.name,alts r.alts])) hr ?_|refine zAp ?_|(refine Yt ?_;refine r2 ?_;first|done|(skip))|(exact⟨(i+1,a :: (l++[DV.str r.name])),⟨hlt,hnext⟩,by simp only;omega,qb4 (by show [Ob.room ((l++[_]).length+1) 1]=[Ob.room (l.length+1+1) 1];rw [List.length_append];rfl) rfl (by repeat' (first|exact trivial|refine⟨rfl,?_⟩|refine⟨(qaq (k:=i) (by kernel_rfl) (by omega)),?_⟩))⟩)|fail)
 .have hge:i=x.rules.length:=by omega
  have he:(x.rules.map (·.name)).map DV.str=acc:=by rw [hi2,hge,List.take_length,List.map_map];rfl
  rw [show qao (x.rules.map (·.name))=.sl 1 ((x.rules.map (·.name)).map DV.str) from rfl,he];rcases acc with _|⟨a,l⟩
  .repeat' (first|refine zW ?_|refine zB ?_ ?_<;>intro h<;>try exact zk h|refine zX ?_|(refine Yt ?_;refine r2 ?_;first|done|(exact .d .nil))|fail)
  .repeat' (first|refine zW ?_|refine zB ?_ ?_<;>intro h<;>try exact zk h|refine zX ?_|(refine Yt ?_;refine r2 ?_;first|done|(exact .refl))|fail)
def qcw (x:Src):Bool:=x.rules.any (fun r=>r.alts.isEmpty) || x.tokens.isEmpty || x.rules.isEmpty
theorem qvY (x:Src) (hf:qde x):qaa Tryz.prog 127 [qfO x] (.d (.bool (qcw x))):=by
 have hrl:=hf.rules;refine kF Tryz.func127 [1] fun w=>?_
 repeat' (first|refine zW ?_|refine zB ?_ ?_<;>intro h<;>try exact zk h|fail)
 refine Run.loop (fun i:Nat=>⟨PT.ofList [(1,qbK x),(3,.d (.int .i64 i))],[],[]⟩) (fun i=>i<=x.rules.length/\(x.rules.take i).any (fun r=>r.alts.isEmpty)=false) (fun i=>x.rules.length-i) 0 ⟨Nat.zero_le _,rfl⟩ (qac (by repeat' (first|exact trivial|refine⟨rfl,?_⟩))) (fun i hi=>?_);rcases Nat.lt_or_ge i x.rules.length with hlt|hge
 .obtain⟨r,hr⟩:=qai hlt
  cases ha:r.alts with
  |nil =>
   have hs:qcw x=true:=by unfold qcw;rw [qb8 hr (p:=fun r=>r.alts.isEmpty) (by simp [ha])];rfl
   rw [hs]
   repeat' (first|refine zW ?_|refine zB ?_ ?_<;>intro h<;>try exact zk h|refine zIR w (.d (.ep [.str r.name,alts []])) (And.intro hr ha) ?_|rfl|((exfalso;(simp at h<;>fail)))|fail)
  |cons a l =>
   repeat' (first|refine zW ?_|refine zB ?_ ?_<;>intro h<;>try exact zk h|refine zIR w (.d (.ep [.str r.name,alts (a :: l)])) (And.intro hr ha) ?_|(show _=_;(exfalso;(simp at h<;>omega)))|(exact⟨i+1,⟨hlt,qbn hr hi.2 (by simp [ha])⟩,by omega,qac (by repeat' (first|exact trivial|refine⟨rfl,?_⟩|refine⟨(qaq (k:=i) (by kernel_rfl) (by omega)),?_⟩))⟩)|fail)
 .have hie:i=x.rules.length:=by omega
  subst hie;have hs:qcw x=(x.tokens.isEmpty || x.rules.isEmpty):=by unfold qcw;rw [qdc hi.2];simp
  rw [hs];cases ht:x.tokens with
  |nil=>repeat' (first|refine zW ?_|refine zB ?_ ?_<;>intro h<;>try exact zk h|rfl|((exfalso;(simp_all<;>fail)))|((exfalso;(simp_all<;>omega)))|fail)
  |cons t ts =>
   cases hx:x.rules with
   |nil=>repeat' (first|refine zW ?_|refine zB ?_ ?_<;>intro h<;>try exact zk h|rfl|((exfalso;(simp_all<;>fail)))|((exfalso;(simp_all<;>omega)))|fail)
   |cons r rs=>repeat' (first|refine zW ?_|refine zB ?_ ?_<;>intro h<;>try exact zk h|rfl|((exfalso;(simp_all<;>fail)))|((exfalso;(simp_all<;>omega)))|fail)
theorem qrD (l:List (List Nat)) (hl:l.length<=1099511627776):qaa Tryz.prog 130 [qao l] (.d (.bool (decide (¬ l.Nodup)))):=by
 refine kF Tryz.func130 [] fun w=>?_
 repeat' (first|refine zW ?_|refine zB ?_ ?_<;>intro h<;>try exact zk h|fail)
 refine Run.loop (fun i:Nat=>⟨PT.ofList [(0,.d (qao l)),(3,.d (.int .i64 i))],[],[]⟩) (fun i=>i<=l.length/\(l.take i).Nodup) (fun i=>l.length-i) 0 ⟨Nat.zero_le _,by simp⟩ (qac (by repeat' (first|exact trivial|refine⟨rfl,?_⟩))) (fun i hi=>?_);rcases Nat.lt_or_ge i l.length with hlt|hge
 .obtain⟨x,hx⟩:=qai hlt
  have hh:=qiI (l.take i) x (by simp;omega);have hc:AV.d (DV.sl 1 (qdQ none (some (i:Int)) (l.map DV.str)))=.d (qao (l.take i)):=by simp [qdQ,List.map_take]
  by_cases hm:x ∈ l.take i
  .rw [show(l.take i).any (fun y=>decide (y=x))=true from List.any_eq_true.2 ⟨x,hm,by simp⟩] at hh
   rw [decide_eq_true (qfn hx hm)]
   repeat' (first|refine zW ?_|refine zB ?_ ?_<;>intro h<;>try exact zk h|refine zC (hh) ?_|refine zI w (.d (.ep [.str x])) hx ?_|refine eX (v:=.d (qao (l.take i))) ?_ (hf:=by first|(simp [qbR,qjZ]<;>fail)|(simp [qbR,qjZ];omega)) (he:=hc)|rfl|exact zk h|fail)
  .rw [show(l.take i).any (fun y=>decide (y=x))=false from by rw [List.any_eq_false];intro y hy he;exact hm (by simpa using (by simpa using he:y=x) ▸ hy)] at hh
   have hn:=qho hx hi.2 hm
   repeat' (first|refine zW ?_|refine zB ?_ ?_<;>intro h<;>try exact zk h|refine zC (hh) ?_|refine zI w (.d (.ep [.str x])) hx ?_|refine eX (v:=.d (qao (l.take i))) ?_ (hf:=by first|(simp [qbR,qjZ]<;>fail)|(simp [qbR,qjZ];omega)) (he:=hc)|(show _=_;(exfalso;(simp at h<;>omega)))|(exact⟨i+1,⟨hlt,hn⟩,by omega,qac (by repeat' (first|exact trivial|refine⟨rfl,?_⟩|refine⟨(qaq (k:=i) (by kernel_rfl) (by omega)),?_⟩))⟩)|fail)
 .have hie:i=l.length:=by omega
  subst hie;have hn:=hi.2;rw [List.take_length] at hn;rw [decide_eq_false (by simpa using hn)]
  repeat' (first|refine zW ?_|refine zB ?_ ?_<;>intro h<;>try exact zk h|rfl|fail)
def smL {α:Type} (p:α->α->Bool):List α->List α->Bool
 |[],[]=>true
 |x :: a,y :: b=>p x y && smL p a b
 |_,_=>false
theorem qk8 {α:Type} {p:α->α->Bool}:∀ {a b:List α},a.length≠b.length->smL p a b=false
 |[],[],h=>absurd rfl h
 |[],_ :: _,_=>rfl
 |_ :: _,[],_=>rfl
 |x :: a,y :: b,h=>by
  have:smL p a b=false:=qk8 (by simpa using h);simp [smL,this]
theorem qol {α:Type} {p:α->α->Bool}:∀ {a b:List α} {i:Nat} {x y:α},a[i]?=some x->b[i]?=some y->p x y=false->smL p a b=false
 |[],_,i,x,y,h,_,_=>by simp at h
 |_ :: _,[],i,x,y,_,h,_=>by simp at h
 |u :: a,v :: b,0,x,y,h,k,hp=>by simp at h k;subst h k;simp [smL,hp]
 |u :: a,v :: b,i+1,x,y,h,k,hp=>by
  have:=qol (p:=p) (a:=a) (b:=b) (i:=i) (by simpa using h) (by simpa using k) hp;simp [smL,this]
theorem qni {α:Type} {p:α->α->Bool}:∀ {a b:List α},a.length=b.length->(∀ (j:Nat) x y,a[j]?=some x->b[j]?=some y->p x y=true)->smL p a b=true
 |[],[],_,_=>rfl
 |[],_ :: _,h,_=>by simp at h
 |_ :: _,[],h,_=>by simp at h
 |x :: a,y :: b,h,hp=>by
  have h1:=hp 0 x y rfl rfl;have h2:=qni (p:=p) (a:=a) (b:=b) (by simpa using h) (fun j u v hu hv=>hp (j+1) u v (by simpa using hu) (by simpa using hv));simp [smL,h1,h2]
theorem qoJ {α:Type} {p:α->α->Bool} {a:List α} (h:∀ x ∈ a,p x x=true):smL p a a=true :=
 qni rfl fun j x y hx hy=>by rw [hx] at hy;cases hy;exact h x (List.mem_of_getElem? hx)
theorem qvA {α:Type} [DecidableEq α] {a b:List α}:smL (fun x y=>decide (x=y)) a b=decide (a=b):=by
 by_cases hl:a.length=b.length
 .by_cases h:a=b
  .subst h;rw [decide_eq_true rfl];exact qoJ fun x _=>by simp
  .rw [decide_eq_false h]
   have:∃ j:Nat,∃ x y,a[j]?=some x/\b[j]?=some y/\x≠y:=Classical.byContradiction fun hn=>h (List.ext_getElem hl fun j h1 h2=>Classical.byContradiction fun hne=>hn ⟨j,a[j],b[j],by simp [h1],by simp [h2],hne⟩);obtain⟨j,x,y,hx,hy,hne⟩:=this;exact qol hx hy (by simpa using hne)
 .rw [qk8 hl,decide_eq_false]
  intro e;subst e;exact hl rfl
theorem qlS {α:Type} {a b:List α} {p:α->α->Bool} {i:Nat} {x y:α} (hi:∀ j:Nat,j<i->∀ u v,a[j]?=some u->b[j]?=some v->p u v=true) (hx:a[i]?=some x) (hy:b[i]?=some y) (h:p x y=true) :
  ∀ j:Nat,j<i+1->∀ u v,a[j]?=some u->b[j]?=some v->p u v=true:=by
 intro j hj u v hu hv;rcases Nat.lt_or_ge j i with h1|h1
 .exact hi j h1 u v hu hv
 .have:j=i:=by omega
  subst this;rw [hx] at hu;rw [hy] at hv;cases hu;cases hv;exact h
theorem qo6 {α:Type} {a b:List α} {p:α->α->Bool} {i:Nat} (hl:a.length=b.length) (hge:a.length<=i) (hi:∀ j:Nat,j<i->∀ u v,a[j]?=some u->b[j]?=some v->p u v=true):smL p a b=true :=
 qni hl fun j u v hu hv=>hi j (Nat.lt_of_lt_of_le (List.getElem?_eq_some_iff.1 hu).1 hge) u v hu hv
def smR (x y:SRule):Bool:=decide (x.name=y.name) && decide (x.alts=y.alts)
def smX (a b:Src):Bool:=decide (a.k=b.k) && decide (a.sep=b.sep) && decide (a.start=b.start) && decide (a.tokens=b.tokens) && smL smR a.rules b.rules
theorem qts (x:SRule):smR x x=true:=by simp [smR]
theorem qtu (a:Src):smX a a=true:=by simp [smX,qoJ fun x _=>qts x]
theorem que (a b:List (List Nat)) (hal:a.length<=1099511627776):qaa Tryz.prog 86 [qao a,qao b] (.d (.bool (decide (a=b)))):=by
 by_cases hlen:a.length=b.length
 .refine kF Tryz.func86 [] fun w=>?_
  repeat' (first|refine zW ?_|refine zB ?_ ?_<;>intro h<;>try exact zk h|((exfalso;first|(simp_all<;>fail)|(simp_all;omega)))|fail)
  refine Run.loop (fun i:Nat=>⟨PT.ofList [(0,.d (qao a)),(1,.d (qao b)),(12,.d (.int .i64 (a.map DV.str).length)),(13,.d (.int .i64 i))],[],[]⟩) (fun i=>i<=a.length/\a.take i=b.take i) (fun i=>a.length-i) 0 ⟨Nat.zero_le _,rfl⟩ (qac (by repeat' (first|exact trivial|refine⟨rfl,?_⟩))) (fun i hi=>?_);rcases Nat.lt_or_ge i a.length with hlt|hge
  .obtain⟨x,hx⟩:=qai hlt
   obtain⟨y,hy⟩:=qai (show i<b.length by omega);by_cases hxy:x=y
   .subst hxy
    have ht:a.take (i+1)=b.take (i+1):=by rw [List.take_add_one,List.take_add_one,hi.2,hx,hy]
    repeat' (first|refine zW ?_|refine zB ?_ ?_<;>intro h<;>try exact zk h|refine zI w (.d (.ep [.str x])) hx ?_|refine zI w (.d (.ep [.str x])) hy ?_|(exact⟨i+1,⟨hlt,ht⟩,by omega,qac (by repeat' (first|exact trivial|refine⟨rfl,?_⟩|refine⟨(qaq (k:=i) (by kernel_rfl) (by omega)),?_⟩))⟩)|((exfalso;first|(simp_all<;>fail)|(simp_all;omega)))|fail)
   .have hne:a≠b:=fun e=>by subst e;rw [hx] at hy;cases hy;exact hxy rfl
    rw [decide_eq_false hne]
    repeat' (first|refine zW ?_|refine zB ?_ ?_<;>intro h<;>try exact zk h|refine zI w (.d (.ep [.str x])) hx ?_|refine zI w (.d (.ep [.str y])) hy ?_|rfl|((exfalso;first|(simp_all<;>fail)|(simp_all;omega)))|fail)
  .have hie:i=a.length:=by have:=hi.1;omega
   have hab:a=b:=by have:=hi.2;rw [hie,List.take_length,hlen,List.take_length] at this;exact this
   rw [decide_eq_true hab]
   repeat' (first|refine zW ?_|refine zB ?_ ?_<;>intro h<;>try exact zk h|rfl|((exfalso;first|(simp_all<;>fail)|(simp_all;omega)))|fail)
 .have hne:a≠b:=fun e=>by subst e;exact hlen rfl
  rw [decide_eq_false hne];refine kF Tryz.func86 [] fun w=>?_
  repeat' (first|refine zW ?_|refine zB ?_ ?_<;>intro h<;>try exact zk h|rfl|((exfalso;first|(simp_all<;>fail)|(simp_all;omega)))|fail)
theorem qjD (a b:List SRule) (hal:a.length<=1099511627776) (F:FuncId) (p:SRule->SRule->Bool) (hp:∀ x ∈ a,∀ y ∈ b,qaa Tryz.prog F [qbV x,qbV y] (.d (.bool (p x y)))) :
  qaa Tryz.prog 87 [.sl 2 (a.map qbV),.sl 2 (b.map qbV),.fn (.func F) [] []] (.d (.bool (smL p a b))):=by
 by_cases hlen:a.length=b.length
 .refine kF Tryz.func87 [] fun w=>?_
  repeat' (first|refine zW ?_|refine zB ?_ ?_<;>intro h<;>try exact zk h|((exfalso;first|(simp_all<;>fail)|(simp_all;omega)))|fail)
  refine Run.loopT (fun i:Nat=>⟨PT.ofList [(1,.d (.sl 2 (b.map qbV))),(2,.d (.fn (.func F) [] [])),(15,.d (.sl 2 (a.map qbV))),(16,.d (.int .i64 (a.map qbV).length)),(17,.d (.int .i64 i))],[],[]⟩) (fun i=>i<=a.length/\∀ j:Nat,j<i->∀ u v,a[j]?=some u->b[j]?=some v->p u v=true) (fun i=>a.length-i) 0 ⟨Nat.zero_le _,fun j hj=>by omega⟩ (ti _ 0) (fun i hi=>?_);rcases Nat.lt_or_ge i a.length with hlt|hge
  .obtain⟨x,hx⟩:=qai hlt
   obtain⟨y,hy⟩:=qai (show i<b.length by omega);have hc:=hp x (List.mem_of_getElem? hx) y (List.mem_of_getElem? hy);cases hxy:p x y with
   |true =>
    rw [hxy] at hc;have ht:=qlS hi.2 hx hy hxy
    repeat' (first|refine zW ?_|refine zB ?_ ?_<;>intro h<;>try exact zk h|refine zIR w (.d (.ep [.str x.name,Go.Av.alts x.alts])) hx ?_|refine zIR w (.d (.ep [.str y.name,Go.Av.alts y.alts])) hy ?_|refine zC (hc) ?_|(exact⟨i+1,⟨hlt,ht⟩,by omega,(ti _ 0)⟩)|((exfalso;first|(simp_all<;>fail)|(simp_all;omega)))|fail)
   |false =>
    rw [hxy] at hc;rw [qol hx hy hxy]
    repeat' (first|refine zW ?_|refine zB ?_ ?_<;>intro h<;>try exact zk h|refine zIR w (.d (.ep [.str x.name,Go.Av.alts x.alts])) hx ?_|refine zIR w (.d (.ep [.str y.name,Go.Av.alts y.alts])) hy ?_|refine zC (hc) ?_|rfl|((exfalso;first|(simp_all<;>fail)|(simp_all;omega)))|fail)
  .rw [qo6 hlen hge hi.2]
   have hie:i=a.length:=by have:=hi.1;omega
   subst hie
   repeat' (first|refine zW ?_|refine zB ?_ ?_<;>intro h<;>try exact zk h|rfl|((exfalso;first|(simp_all<;>fail)|(simp_all;omega)))|fail)
 .rw [qk8 hlen]
  refine kF Tryz.func87 [] fun w=>?_
  repeat' (first|refine zW ?_|refine zB ?_ ?_<;>intro h<;>try exact zk h|rfl|((exfalso;first|(simp_all<;>fail)|(simp_all;omega)))|fail)
theorem qkL (a b:List (List (List Nat))) (hal:a.length<=1099511627776) (F:FuncId) (p:(List (List Nat))->(List (List Nat))->Bool) (hp:∀ x ∈ a,∀ y ∈ b,qaa Tryz.prog F [qao x,qao y] (.d (.bool (p x y)))) :
  qaa Tryz.prog 89 [.sl 1 (a.map qao),.sl 1 (b.map qao),.fn (.func F) [] []] (.d (.bool (smL p a b))):=by
 by_cases hlen:a.length=b.length
 .refine kF Tryz.func89 [] fun w=>?_
  repeat' (first|refine zW ?_|refine zB ?_ ?_<;>intro h<;>try exact zk h|((exfalso;first|(simp_all<;>fail)|(simp_all;omega)))|fail)
  refine Run.loopT (fun i:Nat=>⟨PT.ofList [(1,.d (.sl 1 (b.map qao))),(2,.d (.fn (.func F) [] [])),(15,.d (.sl 1 (a.map qao))),(16,.d (.int .i64 (a.map qao).length)),(17,.d (.int .i64 i))],[],[]⟩) (fun i=>i<=a.length/\∀ j:Nat,j<i->∀ u v,a[j]?=some u->b[j]?=some v->p u v=true) (fun i=>a.length-i) 0 ⟨Nat.zero_le _,fun j hj=>by omega⟩ (ti _ 0) (fun i hi=>?_);rcases Nat.lt_or_ge i a.length with hlt|hge
  .obtain⟨x,hx⟩:=qai hlt
   obtain⟨y,hy⟩:=qai (show i<b.length by omega);have hc:=hp x (List.mem_of_getElem? hx) y (List.mem_of_getElem? hy);cases hxy:p x y with
   |true =>
    rw [hxy] at hc;have ht:=qlS hi.2 hx hy hxy
    repeat' (first|refine zW ?_|refine zB ?_ ?_<;>intro h<;>try exact zk h|refine oI (v:=.d (.ep [qao x])) ?_ (he:=by first|(simp [gD,qam,hx,qao]<;>fail)|fail)|refine eI (v:=.d (.ep [qao x])) ?_ (he:=by first|(simp [gD,qam,hx,qao]<;>fail)|fail)|refine oI (v:=.d (.ep [qao y])) ?_ (he:=by first|(simp [gD,qam,hy,qao]<;>fail)|fail)|refine eI (v:=.d (.ep [qao y])) ?_ (he:=by first|(simp [gD,qam,hy,qao]<;>fail)|fail)|refine zC (hc) ?_|(exact⟨i+1,⟨hlt,ht⟩,by omega,(ti _ 0)⟩)|((exfalso;first|(simp_all<;>fail)|(simp_all;omega)))|fail)
   |false =>
    rw [hxy] at hc;rw [qol hx hy hxy]
    repeat' (first|refine zW ?_|refine zB ?_ ?_<;>intro h<;>try exact zk h|refine oI (v:=.d (.ep [qao x])) ?_ (he:=by first|(simp [gD,qam,hx,qao]<;>fail)|fail)|refine eI (v:=.d (.ep [qao x])) ?_ (he:=by first|(simp [gD,qam,hx,qao]<;>fail)|fail)|refine oI (v:=.d (.ep [qao y])) ?_ (he:=by first|(simp [gD,qam,hy,qao]<;>fail)|fail)|refine eI (v:=.d (.ep [qao y])) ?_ (he:=by first|(simp [gD,qam,hy,qao]<;>fail)|fail)|refine zC (hc) ?_|rfl|((exfalso;first|(simp_all<;>fail)|(simp_all;omega)))|fail)
  .rw [qo6 hlen hge hi.2]
   have hie:i=a.length:=by have:=hi.1;omega
   subst hie
   repeat' (first|refine zW ?_|refine zB ?_ ?_<;>intro h<;>try exact zk h|rfl|((exfalso;first|(simp_all<;>fail)|(simp_all;omega)))|fail)
 .rw [qk8 hlen]
  refine kF Tryz.func89 [] fun w=>?_
  repeat' (first|refine zW ?_|refine zB ?_ ?_<;>intro h<;>try exact zk h|rfl|((exfalso;first|(simp_all<;>fail)|(simp_all;omega)))|fail)
theorem qqG (x y:SRule) (hx:x.alts.length<=1099511627776) (hxs:∀ a ∈ x.alts,a.length<=1099511627776):qaa Tryz.prog 88 [qbV x,qbV y] (.d (.bool (smR x y))):=by
 have c:=qkL x.alts y.alts hx 86 (fun u v=>decide (u=v)) (fun u hu v _=>que u v (hxs u hu));rw [qvA] at c;unfold smR;generalize decide (x.alts=y.alts)=b at c |-;by_cases h1:x.name=y.name
 .rw [decide_eq_true h1]
  cases b with
  |true =>
   refine kF Tryz.func88 [2,3] fun w=>?_
   repeat' (first|refine zW ?_|refine zB ?_ ?_<;>intro h<;>try exact zk h|refine zX ?_|refine zC (c) ?_|rfl|((exfalso;first|(simp_all<;>fail)|(simp_all;omega)))|fail)
  |false =>
   refine kF Tryz.func88 [2,3] fun w=>?_
   repeat' (first|refine zW ?_|refine zB ?_ ?_<;>intro h<;>try exact zk h|refine zX ?_|refine zC (c) ?_|rfl|((exfalso;first|(simp_all<;>fail)|(simp_all;omega)))|fail)
 .rw [decide_eq_false h1]
  refine kF Tryz.func88 [2,3] fun w=>?_
  repeat' (first|refine zW ?_|refine zB ?_ ?_<;>intro h<;>try exact zk h|refine zX ?_|refine zC (c) ?_|rfl|((exfalso;first|(simp_all<;>fail)|(simp_all;omega)))|fail)
theorem qxR (a b:Src) (ha:qde a):qaa Tryz.prog 22 [qfO a,qfO b] (.d (.bool (smX a b))):=by
 have c1:=que a.tokens b.tokens (Nat.le_trans ha.tokens (by decide));have c3:=qjD a.rules b.rules (Nat.le_trans ha.rules (by decide)) 88 smR (fun x hx y _=>qqG x y (Nat.le_trans (ha.alts x hx) (by decide)) (fun u hu=>Nat.le_trans (ha.names x hx u hu) (by decide)));unfold smX;generalize decide (a.tokens=b.tokens)=b1 at c1 |-;generalize smL smR a.rules b.rules=b3 at c3 |-;refine kF Tryz.func22 [2,3] fun w=>?_
 repeat' (first|refine zW ?_|refine zB ?_ ?_<;>intro h<;>try exact zk h|refine zX ?_|refine zK (c1) ?_ ?_<;>intro h<;>try exact zk h|refine zC (c1) ?_|refine zK (c3) ?_ ?_<;>intro h<;>try exact zk h|refine zC (c3) ?_|(show _=_;first|rfl|(simp_all<;>fail))|((exfalso;first|(simp_all<;>fail)|(simp_all;omega)))|fail)
def W64 (n:Int):Prop:=-9223372036854775808<=n/\n<=9223372036854775807
def m30 (n:Int):Nat:=(n % 1073741824).toNat
theorem qxF (n:Int):m30 n<1073741824:=by unfold m30;omega
theorem qzi (n:Int) (hn:W64 n):qaa Tryz.prog 56 [.int .i64 n,.int .i64 1073741824] (.d (.int .i64 (m30 n:Nat))):=by
 have hw:=hn;unfold W64 at hw;have hm:(m30 n:Int)=n % 1073741824:=by unfold m30;omega
 have ht:n.tmod 1073741824=if 0<=n\/(1073741824:Int) ∣ n then n % 1073741824 else n % 1073741824-1073741824:=by
  rw [Int.tmod_eq_emod];by_cases h:0<=n\/(1073741824:Int) ∣ n
  .rw [if_pos h,if_pos h];simp
  .rw [if_neg h,if_neg h];rfl
 by_cases h:0<=n\/(1073741824:Int) ∣ n
 .rw [if_pos h] at ht
  rw [hm];refine kF Tryz.func56 [] fun w=>?_
  repeat' (first|refine oV (v:=.d (.int .i64 (n % 1073741824))) ?_ (he:=(congrArg (fun x=>AV.d (.int .i64 x)) ht))|refine eX (v:=.d (.int .i64 (n % 1073741824))) ?_ (he:=(congrArg (fun x=>AV.d (.int .i64 x)) ht))|refine zW ?_|refine zB ?_ ?_<;>intro h<;>try exact zk h|rfl|exact zk h|fail)
 .rw [if_neg h] at ht
  rw [hm];have hneg:n % 1073741824-1073741824<0:=by omega
  refine kF Tryz.func56 [] fun w=>?_
  repeat' (first|refine oV (v:=.d (.int .i64 (n % 1073741824))) ?_ (he:=(congrArg (fun x=>AV.d (.int .i64 x)) ((qeL (by omega) (by omega)).trans (by omega))))|refine eX (v:=.d (.int .i64 (n % 1073741824))) ?_ (he:=(congrArg (fun x=>AV.d (.int .i64 x)) ((qeL (by omega) (by omega)).trans (by omega))))|refine oV (v:=.d (.int .i64 (n % 1073741824-1073741824))) ?_ (he:=(congrArg (fun x=>AV.d (.int .i64 x)) ht))|refine eX (v:=.d (.int .i64 (n % 1073741824-1073741824))) ?_ (he:=(congrArg (fun x=>AV.d (.int .i64 x)) ht))|refine zW ?_|refine zB ?_ ?_<;>intro h<;>try exact zk h|rfl|exact zk h|fail)
def atF (l:List Int) (i:Nat):Int:=(l[i]?).getD 0
theorem qxV {l:List Int} (h:∀ n ∈ l,W64 n) (i:Nat):W64 (atF l i):=by
 unfold atF;cases e:l[i]? with
 |none=>exact⟨by decide,by decide⟩
 |some x=>exact h x (List.mem_of_getElem? e)
theorem atS (l:List Int) (i:Nat):qaa Tryz.prog 149 [qcV l,.int .i64 (i:Nat)] (.d (.int .i64 (atF l i))):=by
 rcases Nat.lt_or_ge i l.length with hlt|hge
 .obtain⟨x,hx⟩:=qai hlt
  rw [show atF l i=x from by simp [atF,hx]];refine kF Tryz.func149 [] fun w=>?_
  repeat' (first|refine zW ?_|refine zB ?_ ?_<;>intro h<;>try exact zk h|refine zI w (.d (.ep [.int .i64 x])) hx ?_|rfl|exact zk h|fail)
 .rw [show atF l i=0 from by simp [atF,List.getElem?_eq_none hge]]
  refine kF Tryz.func149 [] fun w=>?_
  repeat' (first|refine zW ?_|refine zB ?_ ?_<;>intro h<;>try exact zk h|rfl|exact zk h|fail)
def qgh (l:List Int) (i:Nat):Nat:=m30 (atF l i)
theorem qnn (l:List Int) (i:Nat):qgh l i<1073741824:=qxF _
theorem vN8 {x:Int} {n:Nat} (h:x=(n:Int)) (hn:n<=1099511627776):AV.d (.int .i64 (IntKind.i64.wrap x))=.d (.int .i64 (n:Int)):=by
 subst h;exact congrArg (fun n=>AV.d (.int .i64 n)) (qaT hn)
def qeo (a:List (List Nat)):Bool:=decide (6<a.length)
def qcc (x:Src) (i:Nat):Nat:=((x.rules.take i).map (·.alts.length)).sum
theorem qdx {x:Src} {i:Nat} {r:SRule} (h:x.rules[i]?=some r):qcc x (i+1)=qcc x i+r.alts.length:=by
 simp [qcc,List.take_add_one,h]
theorem qlv {x:Src} (hf:qde x):∀ {i:Nat},i<=x.rules.length->qcc x i<=i*1048576
 |0,_=>by simp [qcc]
 |i+1,hi=>by
  obtain⟨r,hr⟩:=qai (show i<x.rules.length by omega);have h1:=qlv hf (i:=i) (by omega);have h2:=hf.alts r (List.mem_of_getElem? hr);rw [qdx hr,Nat.succ_mul];omega
theorem qt1:∀ {l:List Nat} {a:Nat},a ∈ l->a<=l.sum
 |b :: l,a,h=>by
  rw [List.sum_cons];rcases List.mem_cons.1 h with rfl|h
  .omega
  .have:=qt1 h;omega
theorem qsu {x:Src} {r:SRule} (h:r ∈ x.rules):r.alts.length<=qcc x x.rules.length:=by
 unfold qcc;rw [List.take_length];obtain⟨i,hi,rfl⟩:=List.getElem_of_mem h;exact qt1 (List.mem_map.2 ⟨_,h,rfl⟩)
def qcN (x:Src):Bool:=x.rules.any (fun r=>r.alts.any qeo) || decide (8<x.tokens.length) || decide (8<x.rules.length) || decide (24<qcc x x.rules.length)
theorem qrR {x:Src} (h:(x.rules.take x.rules.length).any (fun r=>(r.alts.take 25).any qeo)=false):qcN x=(decide (8<x.tokens.length) || decide (8<x.rules.length) || decide (24<qcc x x.rules.length)):=by
 by_cases hs:24<qcc x x.rules.length
 .simp [qcN,hs]
 .have:x.rules.any (fun r=>r.alts.any qeo)=false:=by
   rw [List.any_eq_false];intro r hr;have h1:=qsu hr;rw [List.take_length,List.any_eq_false] at h;have h2:=h r hr;rw [List.take_of_length_le (by omega)] at h2;exact h2
  simp [qcN,this]
theorem qxl (x:Src) (hf:qde x):qaa Tryz.prog 128 [qfO x] (.d (.bool (qcN x))):=by
 have hrl:=hf.rules;refine kF Tryz.func128 [1] fun w=>?_
 repeat' (first|refine zW ?_|refine zB ?_ ?_<;>intro h<;>try exact zk h|fail)
 refine Run.loop (fun i:Nat=>⟨PT.ofList [(1,qbK x),(3,.d (.int .i64 (qcc x i:Nat))),(4,.d (.int .i64 i))],[],[]⟩) (fun i=>i<=x.rules.length/\i<=9/\(x.rules.take i).any (fun r=>(r.alts.take 25).any qeo)=false) (fun i=>x.rules.length-i) 0 ⟨Nat.zero_le _,Nat.zero_le _,rfl⟩ (qac (by repeat' (first|exact trivial|refine⟨rfl,?_⟩))) (fun i hi=>?_);obtain⟨hi1,hi2,hi3⟩:=hi;by_cases hlt:i<x.rules.length/\i<=8
 .obtain⟨hl1,hl2⟩:=hlt
  obtain⟨r,hr⟩:=qai hl1;have hra:=hf.alts r (List.mem_of_getElem? hr);have hsl:=qlv hf (i:=i) hi1;have hsum:AV.d (.int .i64 (IntKind.i64.wrap ((qcc x i:Nat)+((r.alts.map qao).length:Int))))=.d (.int .i64 (qcc x (i+1):Nat)):=vN8 (by rw [qdx hr];simp) (by rw [qdx hr];omega)
  repeat' (first|refine zV hsum ?_|refine zW ?_|refine zB ?_ ?_<;>intro h<;>try exact zk h|refine zIR w (.d (.ep [.str r.name,alts r.alts])) hr ?_|exact zk h|fail)
  refine Run.loop (fun k:Nat=>⟨PT.ofList [(1,qbK x),(3,.d (.int .i64 (qcc x (i+1):Nat))),(4,.d (.int .i64 i)),(5,.d (.int .i64 k))],[],[]⟩) (fun k=>k<=r.alts.length/\k<=25/\(r.alts.take k).any qeo=false) (fun k=>r.alts.length-k) 0 ⟨Nat.zero_le _,Nat.zero_le _,rfl⟩ (qac (by repeat' (first|exact trivial|refine⟨rfl,?_⟩))) (fun k hk=>?_);obtain⟨hk1,hk2,hk3⟩:=hk;by_cases hkl:k<r.alts.length/\k<=24
  .obtain⟨hm1,hm2⟩:=hkl
   obtain⟨a,ha⟩:=qai hm1;cases hla:qeo a with
   |true =>
    have hfx:qcN x=true:=by unfold qcN;rw [qb8 hr (p:=fun r=>r.alts.any qeo) (qb8 ha hla)];rfl
    have hla':6<a.length:=by simpa [qeo] using hla
    rw [hfx]
    repeat' (first|refine zW ?_|refine zB ?_ ?_<;>intro h<;>try exact zk h|refine zIR w (.d (.ep [.str r.name,alts r.alts])) hr ?_|refine zI w (.d (.ep [qao a])) ha ?_|rfl|exact zk h|fail)
   |false =>
    have hla':¬ 6<a.length:=by simpa [qeo] using hla
    repeat' (first|refine zW ?_|refine zB ?_ ?_<;>intro h<;>try exact zk h|refine zIR w (.d (.ep [.str r.name,alts r.alts])) hr ?_|refine zI w (.d (.ep [qao a])) ha ?_|(show _=_;(exfalso;(simp at h<;>omega)))|(exact⟨k+1,⟨by omega,by omega,qbn ha hk3 hla⟩,by omega,qac (by repeat' (first|exact trivial|refine⟨rfl,?_⟩|refine⟨(qaq (k:=k) (by kernel_rfl) (by omega)),?_⟩))⟩)|exact zk h|fail)
  .have hall:(r.alts.take 25).any qeo=false:=by
    rcases Nat.lt_or_ge k 25 with hc|hc
    .have:k=r.alts.length:=by omega
     subst this;rw [List.take_length] at hk3;rw [List.take_of_length_le (by omega)];exact hk3
    .have:k=25:=by omega
     subst this;exact hk3
   by_cases hka:k<r.alts.length
   .have hkb:¬ k<=24:=fun e=>hkl ⟨hka,e⟩
    repeat' (first|refine zW ?_|refine zB ?_ ?_<;>intro h<;>try exact zk h|refine zIR w (.d (.ep [.str r.name,alts r.alts])) hr ?_|(exact⟨i+1,⟨by omega,by omega,qbn hr hi3 hall⟩,by omega,qac (by repeat' (first|exact trivial|refine⟨rfl,?_⟩|refine⟨(qaq (k:=i) (by kernel_rfl) (by omega)),?_⟩))⟩)|exact zk h|fail)
   .repeat' (first|refine zW ?_|refine zB ?_ ?_<;>intro h<;>try exact zk h|refine zIR w (.d (.ep [.str r.name,alts r.alts])) hr ?_|(exact⟨i+1,⟨by omega,by omega,qbn hr hi3 hall⟩,by omega,qac (by repeat' (first|exact trivial|refine⟨rfl,?_⟩|refine⟨(qaq (k:=i) (by kernel_rfl) (by omega)),?_⟩))⟩)|exact zk h|fail)
 .by_cases h8:8<x.rules.length
  .have hi9:i=9:=by omega
   subst hi9;have hfx:qcN x=true:=by simp [qcN,h8]
   rw [hfx];by_cases ht:8<x.tokens.length
   .by_cases hn:9<x.rules.length
    .repeat' (first|refine zW ?_|refine zB ?_ ?_<;>intro h<;>try exact zk h|rfl|exact zk h|fail)
    .repeat' (first|refine zW ?_|refine zB ?_ ?_<;>intro h<;>try exact zk h|rfl|exact zk h|fail)
   .by_cases hn:9<x.rules.length
    .repeat' (first|refine zW ?_|refine zB ?_ ?_<;>intro h<;>try exact zk h|rfl|exact zk h|fail)
    .repeat' (first|refine zW ?_|refine zB ?_ ?_<;>intro h<;>try exact zk h|rfl|exact zk h|fail)
  .have hie:i=x.rules.length:=by omega
   subst hie;rw [qrR hi3,decide_eq_false h8];by_cases ht:8<x.tokens.length
   .rw [decide_eq_true ht]
    repeat' (first|refine zW ?_|refine zB ?_ ?_<;>intro h<;>try exact zk h|rfl|exact zk h|fail)
   .rw [decide_eq_false ht]
    by_cases hs:24<qcc x x.rules.length
    .rw [decide_eq_true hs]
     repeat' (first|refine zW ?_|refine zB ?_ ?_<;>intro h<;>try exact zk h|rfl|exact zk h|fail)
    .rw [decide_eq_false hs]
     repeat' (first|refine zW ?_|refine zB ?_ ?_<;>intro h<;>try exact zk h|rfl|exact zk h|fail)
def qe6 (s:List Nat):Bool:=!qap s && !qae s
def qsk (r:SRule):Bool:=!qae r.name || r.alts.any (fun a=>a.any qe6)
def qjH (x:Src):Bool:=x.tokens.any (fun s=>!qap s) || x.rules.any qsk || !qap x.sep || !qae x.start
theorem qpt (x:Src) (hf:qde x):qaa Tryz.prog 129 [qfO x] (.d (.bool (qjH x))):=by
 have hrl:=hf.rules;have htl:=hf.tokens;refine kF Tryz.func129 [1] fun w=>?_
 repeat' (first|refine zW ?_|refine zB ?_ ?_<;>intro h<;>try exact zk h|fail)
 refine Run.loop (fun i:Nat=>⟨PT.ofList [(1,qbK x),(3,.d (.int .i64 i))],[],[]⟩) (fun i=>i<=x.tokens.length/\(x.tokens.take i).any (fun s=>!qap s)=false) (fun i=>x.tokens.length-i) 0 ⟨Nat.zero_le _,rfl⟩ (qac (by repeat' (first|exact trivial|refine⟨rfl,?_⟩))) (fun i hi=>?_);rcases Nat.lt_or_ge i x.tokens.length with hlt|hge
 .obtain⟨s,hs⟩:=qai hlt
  have hsm:=qgo s (Nat.le_trans (hf.tokenS s (List.mem_of_getElem? hs)) (by decide));cases hb:qap s with
  |true =>
   rw [hb] at hsm
   repeat' (first|refine zW ?_|refine zB ?_ ?_<;>intro h<;>try exact zk h|refine zI w (.d (.ep [.str s])) hs ?_|refine zC (hsm) ?_|(exact⟨i+1,⟨hlt,qbn hs hi.2 (by simp [hb])⟩,by omega,qac (by repeat' (first|exact trivial|refine⟨rfl,?_⟩|refine⟨(qaq (k:=i) (by kernel_rfl) (by omega)),?_⟩))⟩)|exact zk h|fail)
  |false =>
   rw [hb] at hsm;have hm:qjH x=true:=by unfold qjH;rw [qb8 hs (p:=fun s=>!qap s) (by simp [hb])];rfl
   rw [hm]
   repeat' (first|refine zW ?_|refine zB ?_ ?_<;>intro h<;>try exact zk h|refine zI w (.d (.ep [.str s])) hs ?_|refine zC (hsm) ?_|rfl|exact zk h|fail)
 .have hie:i=x.tokens.length:=by omega
  have htk:=hi.2;rw [hie,List.take_length] at htk;subst hie
  repeat' (first|refine zW ?_|refine zB ?_ ?_<;>intro h<;>try exact zk h|fail)
  refine Run.loop (fun i:Nat=>⟨PT.ofList [(1,qbK x),(4,.d (.int .i64 i))],[],[]⟩) (fun i=>i<=x.rules.length/\(x.rules.take i).any qsk=false) (fun i=>x.rules.length-i) 0 ⟨Nat.zero_le _,rfl⟩ (qac (by repeat' (first|exact trivial|refine⟨rfl,?_⟩))) (fun i hi=>?_);rcases Nat.lt_or_ge i x.rules.length with hlt|hge
  .obtain⟨r,hr⟩:=qai hlt
   have hmem:=List.mem_of_getElem? hr;have hra:=hf.alts r hmem;have hcm:=qd9 r.name (Nat.le_trans (hf.ruleS r hmem) (by decide));cases hb:qae r.name with
   |false =>
    rw [hb] at hcm;have hm:qjH x=true:=by unfold qjH;rw [qb8 hr (p:=qsk) (by simp [qsk,hb])];simp
    rw [hm]
    repeat' (first|refine zW ?_|refine zB ?_ ?_<;>intro h<;>try exact zk h|refine zIR w (.d (.ep [.str r.name,alts r.alts])) hr ?_|refine zC (hcm) ?_|rfl|exact zk h|fail)
   |true =>
    rw [hb] at hcm
    repeat' (first|refine zW ?_|refine zB ?_ ?_<;>intro h<;>try exact zk h|refine zIR w (.d (.ep [.str r.name,alts r.alts])) hr ?_|refine zC (hcm) ?_|fail)
    refine Run.loop (fun k:Nat=>⟨PT.ofList [(1,qbK x),(4,.d (.int .i64 i)),(5,.d (.int .i64 k))],[],[]⟩) (fun k=>k<=r.alts.length/\(r.alts.take k).any (fun a=>a.any qe6)=false) (fun k=>r.alts.length-k) 0 ⟨Nat.zero_le _,rfl⟩ (qac (by repeat' (first|exact trivial|refine⟨rfl,?_⟩))) (fun k hk=>?_);rcases Nat.lt_or_ge k r.alts.length with hkl|hkg
    .obtain⟨a,ha⟩:=qai hkl
     have hmema:=List.mem_of_getElem? ha;have hal:=hf.names r hmem a hmema
     repeat' (first|refine zW ?_|refine zB ?_ ?_<;>intro h<;>try exact zk h|refine zIR w (.d (.ep [.str r.name,alts r.alts])) hr ?_|exact zk h|fail)
     refine Run.loop (fun j:Nat=>⟨PT.ofList [(1,qbK x),(4,.d (.int .i64 i)),(5,.d (.int .i64 k)),(6,.d (.int .i64 j))],[],[]⟩) (fun j=>j<=a.length/\(a.take j).any qe6=false) (fun j=>a.length-j) 0 ⟨Nat.zero_le _,rfl⟩ (qac (by repeat' (first|exact trivial|refine⟨rfl,?_⟩))) (fun j hj=>?_);rcases Nat.lt_or_ge j a.length with hjl|hjg
     .obtain⟨s,hs⟩:=qai hjl
      have hsl:=Nat.le_trans (hf.nameS r hmem a hmema s (List.mem_of_getElem? hs)) (show 1048576<=1099511627776 by decide);have hsm:=qgo s hsl;have hsc:=qd9 s hsl;cases hc1:qap s with
      |true =>
       rw [hc1] at hsm
       repeat' (first|refine zW ?_|refine zB ?_ ?_<;>intro h<;>try exact zk h|refine zIR w (.d (.ep [.str r.name,alts r.alts])) hr ?_|refine zI w (.d (.ep [qao a])) ha ?_|refine zI w (.d (.ep [.str s])) hs ?_|refine zC (hsm) ?_|refine zC (hsc) ?_|(exact⟨j+1,⟨hjl,qbn hs hj.2 (by simp [qe6,hc1])⟩,by omega,qac (by repeat' (first|exact trivial|refine⟨rfl,?_⟩|refine⟨(qaq (k:=j) (by kernel_rfl) (by omega)),?_⟩))⟩)|exact zk h|fail)
      |false =>
       rw [hc1] at hsm;cases hc2:qae s with
       |true =>
        rw [hc2] at hsc
        repeat' (first|refine zW ?_|refine zB ?_ ?_<;>intro h<;>try exact zk h|refine zIR w (.d (.ep [.str r.name,alts r.alts])) hr ?_|refine zI w (.d (.ep [qao a])) ha ?_|refine zI w (.d (.ep [.str s])) hs ?_|refine zC (hsm) ?_|refine zC (hsc) ?_|(exact⟨j+1,⟨hjl,qbn hs hj.2 (by simp [qe6,hc2])⟩,by omega,qac (by repeat' (first|exact trivial|refine⟨rfl,?_⟩|refine⟨(qaq (k:=j) (by kernel_rfl) (by omega)),?_⟩))⟩)|exact zk h|fail)
       |false =>
        rw [hc2] at hsc;have hm:qjH x=true:=by unfold qjH;rw [qb8 hr (p:=qsk) (by simp only [qsk];rw [qb8 ha (p:=fun a=>a.any qe6) (qb8 hs (by simp [qe6,hc1,hc2]))];simp)];simp
        rw [hm]
        repeat' (first|refine zW ?_|refine zB ?_ ?_<;>intro h<;>try exact zk h|refine zIR w (.d (.ep [.str r.name,alts r.alts])) hr ?_|refine zI w (.d (.ep [qao a])) ha ?_|refine zI w (.d (.ep [.str s])) hs ?_|refine zC (hsm) ?_|refine zC (hsc) ?_|rfl|exact zk h|fail)
     .have hje:j=a.length:=by omega
      subst hje;have haa:=qdc hj.2
      repeat' (first|refine zW ?_|refine zB ?_ ?_<;>intro h<;>try exact zk h|refine zIR w (.d (.ep [.str r.name,alts r.alts])) hr ?_|refine zI w (.d (.ep [qao a])) ha ?_|(exact⟨k+1,⟨hkl,qbn ha hk.2 haa⟩,by omega,qac (by repeat' (first|exact trivial|refine⟨rfl,?_⟩|refine⟨(qaq (k:=k) (by kernel_rfl) (by omega)),?_⟩))⟩)|exact zk h|fail)
    .have hke:k=r.alts.length:=by omega
     subst hke;have hkk:=qdc hk.2
     repeat' (first|refine zW ?_|refine zB ?_ ?_<;>intro h<;>try exact zk h|refine zIR w (.d (.ep [.str r.name,alts r.alts])) hr ?_|(exact⟨i+1,⟨hlt,qbn hr hi.2 (by simp only [qsk,hb,hkk];rfl)⟩,by omega,qac (by repeat' (first|exact trivial|refine⟨rfl,?_⟩|refine⟨(qaq (k:=i) (by kernel_rfl) (by omega)),?_⟩))⟩)|exact zk h|fail)
  .have hie:i=x.rules.length:=by omega
   subst hie;have hm:qjH x=(!qap x.sep || !qae x.start):=by unfold qjH;rw [htk,qdc hi.2];simp
   rw [hm];have hsm:=qgo x.sep (Nat.le_trans hf.sep (by decide));have hsc:=qd9 x.start (Nat.le_trans hf.start (by decide));cases hc1:qap x.sep with
   |false =>
    rw [hc1] at hsm
    repeat' (first|refine zW ?_|refine zB ?_ ?_<;>intro h<;>try exact zk h|refine zC (hsm) ?_|refine zC (hsc) ?_|rfl|exact zk h|fail)
   |true =>
    rw [hc1] at hsm;cases hc2:qae x.start with
    |false =>
     rw [hc2] at hsc
     repeat' (first|refine zW ?_|refine zB ?_ ?_<;>intro h<;>try exact zk h|refine zC (hsm) ?_|refine zC (hsc) ?_|rfl|exact zk h|fail)
    |true =>
     rw [hc2] at hsc
     repeat' (first|refine zW ?_|refine zB ?_ ?_<;>intro h<;>try exact zk h|refine zC (hsm) ?_|refine zC (hsc) ?_|rfl|exact zk h|fail)
def qc8 (l:List (List Nat)) (s:List Nat):Bool:=l.any fun y=>decide (y=s)
def qpz (s:List Nat) (r:SRule):Bool:=r.alts.any (fun a=>qc8 a s)
def qfZ (x:Src) (s:List Nat):Bool:=x.rules.any (qpz s)
theorem qwG (x:Src) (t:List Nat) (hf:qde x):qaa Tryz.prog 132 [qfO x,.str t] (.d (.bool (qfZ x t))):=by
 have hrl:=hf.rules;refine kF Tryz.func132 [2] fun w=>?_
 repeat' (first|refine zW ?_|refine zB ?_ ?_<;>intro h<;>try exact zk h|fail)
 refine Run.loop (fun i:Nat=>⟨PT.ofList [(1,.d (.str t)),(2,qbK x),(5,.d (.int .i64 i))],[],[]⟩) (fun i=>i<=x.rules.length/\(x.rules.take i).any (qpz t)=false) (fun i=>x.rules.length-i) 0 ⟨Nat.zero_le _,rfl⟩ (qac (by repeat' (first|exact trivial|refine⟨rfl,?_⟩))) (fun i hi=>?_);rcases Nat.lt_or_ge i x.rules.length with hlt|hge
 .obtain⟨r,hr⟩:=qai hlt
  have hmem:=List.mem_of_getElem? hr;have hra:=hf.alts r hmem
  repeat' (first|refine zW ?_|refine zB ?_ ?_<;>intro h<;>try exact zk h|exact zk h|fail)
  refine Run.loop (fun k:Nat=>⟨PT.ofList [(1,.d (.str t)),(2,qbK x),(5,.d (.int .i64 i)),(6,.d (.int .i64 k))],[],[]⟩) (fun k=>k<=r.alts.length/\(r.alts.take k).any (fun a=>qc8 a t)=false) (fun k=>r.alts.length-k) 0 ⟨Nat.zero_le _,rfl⟩ (qac (by repeat' (first|exact trivial|refine⟨rfl,?_⟩))) (fun k hk=>?_);rcases Nat.lt_or_ge k r.alts.length with hkl|hkg
  .obtain⟨a,ha⟩:=qai hkl
   have hh:=qiI a t (Nat.le_trans (hf.names r hmem a (List.mem_of_getElem? ha)) (by decide));cases hb:qc8 a t with
   |true =>
    rw [show(a.any fun y=>decide (y=t))=true from hb] at hh;have hu:qfZ x t=true:=qb8 hr (p:=qpz t) (qb8 ha (p:=fun a=>qc8 a t) hb);rw [hu]
    repeat' (first|refine zW ?_|refine zB ?_ ?_<;>intro h<;>try exact zk h|refine zIR w (.d (.ep [.str r.name,alts r.alts])) hr ?_|refine zI w (.d (.ep [qao a])) ha ?_|refine zC (hh) ?_|rfl|exact zk h|fail)
   |false =>
    rw [show(a.any fun y=>decide (y=t))=false from hb] at hh
    repeat' (first|refine zW ?_|refine zB ?_ ?_<;>intro h<;>try exact zk h|refine zIR w (.d (.ep [.str r.name,alts r.alts])) hr ?_|refine zI w (.d (.ep [qao a])) ha ?_|refine zC (hh) ?_|(exact⟨k+1,⟨hkl,qbn ha hk.2 hb⟩,by omega,qac (by repeat' (first|exact trivial|refine⟨rfl,?_⟩|refine⟨(qaq (k:=k) (by kernel_rfl) (by omega)),?_⟩))⟩)|exact zk h|fail)
  .have hke:k=r.alts.length:=by omega
   subst hke;have hkk:=qdc hk.2
   repeat' (first|refine zW ?_|refine zB ?_ ?_<;>intro h<;>try exact zk h|refine zIR w (.d (.ep [.str r.name,alts r.alts])) hr ?_|(exact⟨i+1,⟨hlt,qbn hr hi.2 hkk⟩,by omega,qac (by repeat' (first|exact trivial|refine⟨rfl,?_⟩|refine⟨(qaq (k:=i) (by kernel_rfl) (by omega)),?_⟩))⟩)|exact zk h|fail)
 .have hie:i=x.rules.length:=by omega
  subst hie;rw [show qfZ x t=false from qdc hi.2]
  repeat' (first|refine zW ?_|refine zB ?_ ?_<;>intro h<;>try exact zk h|rfl|exact zk h|fail)
abbrev qab (x:Src):List (List Nat):=x.rules.map (·.name)
def quu (x:Src) (s:List Nat):Bool:=!qc8 (qab x) s && !qc8 x.tokens s
def qu0 (x:Src) (r:SRule):Bool:=r.alts.any (fun a=>a.any (quu x))
def qmd (x:Src):Bool:=x.rules.any (qu0 x) || !qc8 (qab x) x.start
theorem qr7 (x:Src) (hf:qde x):qaa Tryz.prog 133 [qfO x] (.d (.bool (qmd x))):=by
 have hrl:=hf.rules;have htl:=hf.tokens;have hrn:=qln x hf;have hnl:(qab x).length<=1099511627776:=by simp;omega
 obtain⟨ns,hns⟩:∃ ns,ns=qab x:=⟨_,rfl⟩
 rw [show x.rules.map (·.name)=ns from hns.symm] at hrn;rw [<- hns] at hnl;have hunk:∀ s,quu x s=(!qc8 ns s && !qc8 x.tokens s):=fun s=>by rw [hns];rfl
 refine kF Tryz.func133 [1] fun w=>?_
 repeat' (first|refine zW ?_|refine zB ?_ ?_<;>intro h<;>try exact zk h|refine zK (hrn) ?_ ?_<;>intro h<;>try exact zk h|refine zC (hrn) ?_|fail)
 refine Run.loop (fun i:Nat=>⟨PT.ofList [(1,qbK x),(3,.d (qao ns)),(4,.d (.int .i64 i))],[],[]⟩) (fun i=>i<=x.rules.length/\(x.rules.take i).any (qu0 x)=false) (fun i=>x.rules.length-i) 0 ⟨Nat.zero_le _,rfl⟩ (qac (by repeat' (first|exact trivial|refine⟨rfl,?_⟩))) (fun i hi=>?_);rcases Nat.lt_or_ge i x.rules.length with hlt|hge
 .obtain⟨r,hr⟩:=qai hlt
  have hmem:=List.mem_of_getElem? hr;have hra:=hf.alts r hmem
  repeat' (first|refine zW ?_|refine zB ?_ ?_<;>intro h<;>try exact zk h|exact zk h|fail)
  refine Run.loop (fun k:Nat=>⟨PT.ofList [(1,qbK x),(3,.d (qao ns)),(4,.d (.int .i64 i)),(5,.d (.int .i64 k))],[],[]⟩) (fun k=>k<=r.alts.length/\(r.alts.take k).any (fun a=>a.any (quu x))=false) (fun k=>r.alts.length-k) 0 ⟨Nat.zero_le _,rfl⟩ (qac (by repeat' (first|exact trivial|refine⟨rfl,?_⟩))) (fun k hk=>?_);rcases Nat.lt_or_ge k r.alts.length with hkl|hkg
  .obtain⟨a,ha⟩:=qai hkl
   have hmema:=List.mem_of_getElem? ha;have hal:=hf.names r hmem a hmema
   repeat' (first|refine zW ?_|refine zB ?_ ?_<;>intro h<;>try exact zk h|refine zIR w (.d (.ep [.str r.name,alts r.alts])) hr ?_|exact zk h|fail)
   refine Run.loop (fun j:Nat=>⟨PT.ofList [(1,qbK x),(3,.d (qao ns)),(4,.d (.int .i64 i)),(5,.d (.int .i64 k)),(6,.d (.int .i64 j))],[],[]⟩) (fun j=>j<=a.length/\(a.take j).any (quu x)=false) (fun j=>a.length-j) 0 ⟨Nat.zero_le _,rfl⟩ (qac (by repeat' (first|exact trivial|refine⟨rfl,?_⟩))) (fun j hj=>?_);rcases Nat.lt_or_ge j a.length with hjl|hjg
   .obtain⟨s,hs⟩:=qai hjl
    have h1:=qiI ns s hnl;have h2:=qiI x.tokens s (Nat.le_trans htl (by decide));have hu:=hunk s;cases hc1:qc8 ns s with
    |true =>
     rw [show(ns.any fun y=>decide (y=s))=true from hc1] at h1;rw [hc1] at hu
     repeat' (first|refine zW ?_|refine zB ?_ ?_<;>intro h<;>try exact zk h|refine zIR w (.d (.ep [.str r.name,alts r.alts])) hr ?_|refine zI w (.d (.ep [qao a])) ha ?_|refine zI w (.d (.ep [.str s])) hs ?_|refine zC (h1) ?_|refine zC (h2) ?_|(exact⟨j+1,⟨hjl,qbn hs hj.2 (by rw [hu];rfl)⟩,by omega,qac (by repeat' (first|exact trivial|refine⟨rfl,?_⟩|refine⟨(qaq (k:=j) (by kernel_rfl) (by omega)),?_⟩))⟩)|exact zk h|fail)
    |false =>
     rw [show(ns.any fun y=>decide (y=s))=false from hc1] at h1;rw [hc1] at hu;cases hc2:qc8 x.tokens s with
     |true =>
      rw [show(x.tokens.any fun y=>decide (y=s))=true from hc2] at h2;rw [hc2] at hu
      repeat' (first|refine zW ?_|refine zB ?_ ?_<;>intro h<;>try exact zk h|refine zIR w (.d (.ep [.str r.name,alts r.alts])) hr ?_|refine zI w (.d (.ep [qao a])) ha ?_|refine zI w (.d (.ep [.str s])) hs ?_|refine zC (h1) ?_|refine zC (h2) ?_|(exact⟨j+1,⟨hjl,qbn hs hj.2 (by rw [hu];rfl)⟩,by omega,qac (by repeat' (first|exact trivial|refine⟨rfl,?_⟩|refine⟨(qaq (k:=j) (by kernel_rfl) (by omega)),?_⟩))⟩)|exact zk h|fail)
     |false =>
      rw [show(x.tokens.any fun y=>decide (y=s))=false from hc2] at h2;rw [hc2] at hu;have hm:qmd x=true:=by unfold qmd;rw [qb8 hr (p:=qu0 x) (by unfold qu0;exact qb8 ha (p:=fun a=>a.any (quu x)) (qb8 hs (by rw [hu];rfl)))];rfl
      rw [hm]
      repeat' (first|refine zW ?_|refine zB ?_ ?_<;>intro h<;>try exact zk h|refine zIR w (.d (.ep [.str r.name,alts r.alts])) hr ?_|refine zI w (.d (.ep [qao a])) ha ?_|refine zI w (.d (.ep [.str s])) hs ?_|refine zC (h1) ?_|refine zC (h2) ?_|rfl|exact zk h|fail)
   .have hje:j=a.length:=by omega
    subst hje;have haa:=qdc hj.2
    repeat' (first|refine zW ?_|refine zB ?_ ?_<;>intro h<;>try exact zk h|refine zIR w (.d (.ep [.str r.name,alts r.alts])) hr ?_|refine zI w (.d (.ep [qao a])) ha ?_|(exact⟨k+1,⟨hkl,qbn ha hk.2 haa⟩,by omega,qac (by repeat' (first|exact trivial|refine⟨rfl,?_⟩|refine⟨(qaq (k:=k) (by kernel_rfl) (by omega)),?_⟩))⟩)|exact zk h|fail)
  .have hke:k=r.alts.length:=by omega
   subst hke;have hkk:=qdc hk.2
   repeat' (first|refine zW ?_|refine zB ?_ ?_<;>intro h<;>try exact zk h|refine zIR w (.d (.ep [.str r.name,alts r.alts])) hr ?_|(exact⟨i+1,⟨hlt,qbn hr hi.2 hkk⟩,by omega,qac (by repeat' (first|exact trivial|refine⟨rfl,?_⟩|refine⟨(qaq (k:=i) (by kernel_rfl) (by omega)),?_⟩))⟩)|exact zk h|fail)
 .have hie:i=x.rules.length:=by omega
  subst hie;have h1:=qiI ns x.start hnl;have hm:qmd x=!qc8 ns x.start:=by unfold qmd;rw [qdc hi.2,hns];rfl
  rw [hm];cases hc1:qc8 ns x.start with
  |true =>
   rw [show(ns.any fun y=>decide (y=x.start))=true from hc1] at h1
   repeat' (first|refine zW ?_|refine zB ?_ ?_<;>intro h<;>try exact zk h|refine zC (h1) ?_|rfl|exact zk h|fail)
  |false =>
   rw [show(ns.any fun y=>decide (y=x.start))=false from hc1] at h1
   repeat' (first|refine zW ?_|refine zB ?_ ?_<;>intro h<;>try exact zk h|refine zC (h1) ?_|rfl|exact zk h|fail)
def qbP (x:Src):List (List Nat):=x.tokens++[x.sep]
def qsn (x:Src):Bool:=decide (¬ (qbP x).Nodup) || decide (¬ (qab x).Nodup)
def qa0 (x:Src):Int:=if x.k<1\/4<x.k then 2 else if qcw x=true then 5 else if qcN x=true then 6 else if qjH x=true then 12 else if qsn x=true then 8 else if qfZ x x.sep=true then 14 else if qmd x=true then 7 else 0
theorem qhu (x:Src):DV.sl 1 ([]++x.tokens.map DV.str++[DV.str x.sep])=qao (qbP x):=by simp [qbP]
theorem qk0 {x:Src} (h:x.k<1\/4<x.k):qa0 x=2:=if_pos h
theorem qqZ (x:Src) (hf:qde x):qaa Tryz.prog 36 [qfO x] (.d (.int .i64 (qa0 x))):=by
 have htl:=hf.tokens;have hrl:=hf.rules;have c1:=qvY x hf;have c2:=qxl x hf;have c3:=qpt x hf;have c4:=qrD (qbP x) (by simp [qbP];omega);have c5:=qln x hf;have c6:=qrD (qab x) (by simp;omega);have c7:=qwG x x.sep hf;have c8:=qr7 x hf;rw [<- qhu] at c4;by_cases hk:x.k<1\/4<x.k
 .rw [qk0 hk]
  by_cases hk1:x.k<1
  .refine kF Tryz.func36 [1,28] fun w=>?_
   repeat' (first|refine zW ?_|refine zB ?_ ?_<;>intro h<;>try exact zk h|refine zX ?_|rfl|exact zk h|fail)
  .have hk4:4<x.k:=by omega
   refine kF Tryz.func36 [1,28] fun w=>?_
   repeat' (first|refine zW ?_|refine zB ?_ ?_<;>intro h<;>try exact zk h|refine zX ?_|rfl|exact zk h|fail)
 .have hk1:¬ x.k<1:=fun h=>hk (.inl h)
  have hk4:¬ 4<x.k:=fun h=>hk (.inr h);have hc:qa0 x=if qcw x=true then 5 else if qcN x=true then 6 else if qjH x=true then 12 else if(decide (¬ (qbP x).Nodup) || decide (¬ (qab x).Nodup))=true then 8 else if qfZ x x.sep=true then 14 else if qmd x=true then 7 else 0:=if_neg hk;rw [hc];generalize qcw x=b1 at c1 |-;generalize qcN x=b2 at c2 |-;generalize qjH x=b3 at c3 |-;generalize decide (¬ (qbP x).Nodup)=b4 at c4 |-;generalize decide (¬ (qab x).Nodup)=b5 at c6 |-;generalize qfZ x x.sep=b6 at c7 |-;generalize qmd x=b7 at c8 |-;cases b1 with
  |true =>
   refine kF Tryz.func36 [1,28] fun w=>?_
   repeat' (first|refine zW ?_|refine zB ?_ ?_<;>intro h<;>try exact zk h|refine zX ?_|refine zC (c1) ?_|rfl|exact zk h|fail)
  |false =>
   cases b2 with
   |true =>
    refine kF Tryz.func36 [1,28] fun w=>?_
    repeat' (first|refine zW ?_|refine zB ?_ ?_<;>intro h<;>try exact zk h|refine zX ?_|refine zC (c1) ?_|refine zC (c2) ?_|rfl|exact zk h|fail)
   |false =>
    cases b3 with
    |true =>
     refine kF Tryz.func36 [1,28] fun w=>?_
     repeat' (first|refine zW ?_|refine zB ?_ ?_<;>intro h<;>try exact zk h|refine zX ?_|refine zC (c1) ?_|refine zC (c2) ?_|refine zC (c3) ?_|rfl|exact zk h|fail)
    |false =>
     refine kF Tryz.func36 [1,28] fun w=>?_
     repeat' (first|refine zW ?_|refine zB ?_ ?_<;>intro h<;>try exact zk h|refine zX ?_|refine zC (c1) ?_|refine zC (c2) ?_|refine zC (c3) ?_|refine zLb (c4) ?_ ?_<;>intro h<;>try exact zk h|refine zL (c4) ?_|refine zK (c5) ?_ ?_<;>intro h<;>try exact zk h|refine zC (c5) ?_|refine zK (c6) ?_ ?_<;>intro h<;>try exact zk h|refine zC (c6) ?_|refine zK (c7) ?_ ?_<;>intro h<;>try exact zk h|refine zC (c7) ?_|refine zK (c8) ?_ ?_<;>intro h<;>try exact zk h|refine zC (c8) ?_|refine zAp ?_|(show _=_;first|rfl|(simp_all<;>fail))|exact zk h|((exfalso;simp_all<;>fail))|fail)
theorem qgP (l:List (List Nat)) (hl:l.length<=1099511627776) (F:FuncId) (caps:List DV) (p:(List Nat)->Bool) (hp:∀ x ∈ l,qaa Tryz.prog F ((.str x) :: caps) (.d (.bool (p x)))) :
  qaa Tryz.prog 237 [(.sl 1 (l.map .str)),.fn (.func F) [] caps] (.d (.int .i64 (qn6 l p))):=by
 refine kF Tryz.func237 [] fun w=>?_
 repeat' (first|refine zW ?_|refine zB ?_ ?_<;>intro h<;>try exact zk h|fail)
 refine Run.loop (fun i:Nat=>⟨PT.ofList [(0,.d (.sl 1 (l.map .str))),(1,.d (.fn (.func F) [] caps)),(7,.d (.int .i64 l.length)),(8,.d (.int .i64 i))],[],[]⟩) (fun i=>i<=l.length/\∀ j,j<i->∀ y,l[j]?=some y->p y=false) (fun i=>l.length-i) 0 ⟨Nat.zero_le _,fun j hj=>by omega⟩ (qac (by repeat' (first|exact trivial|refine⟨rfl,?_⟩|refine⟨Eq.trans (b:=some (.d (.int .i64 (l.map _).length))) rfl (by rw [List.length_map]),?_⟩|fail))) (fun i hi=>?_);obtain⟨hi1,hi2⟩:=hi;rcases Nat.lt_or_ge i l.length with hlt|hge
 .obtain⟨x,hx⟩:=qai hlt
  have hc:=hp x (List.mem_of_getElem? hx)
  repeat' (first|refine zW ?_|refine zB ?_ ?_<;>intro h<;>try exact zk h|refine zI w (.d (.ep [.str x])) hx ?_|refine zK (hc) ?_ ?_<;>intro h<;>try exact zk h|refine zC (hc) ?_|(show _=_;rw [qi2 hx (by simp_all) hi2])|(exact⟨i+1,⟨by omega,qa1 hi2 (fun q hq=>by rw [hx] at hq;cases hq;simp_all)⟩,by omega,qac (by repeat' (first|exact trivial|refine⟨rfl,?_⟩|refine⟨(qaq (k:=i) (by kernel_rfl) (by omega)),?_⟩))⟩)|fail)
 .have hge:i=l.length:=by omega
  repeat' (first|refine zW ?_|refine zB ?_ ?_<;>intro h<;>try exact zk h|(show _=_;rw [qe8 (fun j hj=>hi2 j (by omega))])|fail)
theorem qhW (l:List (List Nat)) (hl:l.length<=1099511627776) (F:FuncId) (caps:List DV) (p:(List Nat)->Bool) (hp:∀ x ∈ l,qaa Tryz.prog F ((.str x) :: caps) (.d (.bool (p x)))) :
  qaa Tryz.prog 202 [(.sl 1 (l.map .str)),.fn (.func F) [] caps] (.d (.bool (l.any p))):=by
 refine kF Tryz.func202 [] fun w=>?_;have e:=qgp l p
 repeat' (first|refine zW ?_|refine zB ?_ ?_<;>intro h<;>try exact zk h|refine zK (qgP _ hl _ _ _ hp) ?_ ?_<;>intro h<;>try exact zk h|refine zC (qgP _ hl _ _ _ hp) ?_|(show _=_;first|(rw [<- e]<;>simp_all<;>fail)|fail)|fail)
theorem qfQ (l:List SRule) (hl:l.length<=1099511627776) (F:FuncId) (caps:List DV) (p:SRule->Bool) (hp:∀ x ∈ l,qaa Tryz.prog F ((qbV x) :: caps) (.d (.bool (p x)))) :
  qaa Tryz.prog 201 [(.sl 2 (l.map qbV)),.fn (.func F) [] caps] (.d (.int .i64 (qn6 l p))):=by
 refine kF Tryz.func201 [] fun w=>?_
 repeat' (first|refine zW ?_|refine zB ?_ ?_<;>intro h<;>try exact zk h|fail)
 refine Run.loop (fun i:Nat=>⟨PT.ofList [(0,.d (.sl 2 (l.map qbV))),(1,.d (.fn (.func F) [] caps)),(7,.d (.int .i64 l.length)),(8,.d (.int .i64 i))],[],[]⟩) (fun i=>i<=l.length/\∀ j,j<i->∀ y,l[j]?=some y->p y=false) (fun i=>l.length-i) 0 ⟨Nat.zero_le _,fun j hj=>by omega⟩ (qac (by repeat' (first|exact trivial|refine⟨rfl,?_⟩|refine⟨Eq.trans (b:=some (.d (.int .i64 (l.map _).length))) rfl (by rw [List.length_map]),?_⟩|fail))) (fun i hi=>?_);obtain⟨hi1,hi2⟩:=hi;rcases Nat.lt_or_ge i l.length with hlt|hge
 .obtain⟨x,hx⟩:=qai hlt
  have hc:=hp x (List.mem_of_getElem? hx)
  repeat' (first|refine zW ?_|refine zB ?_ ?_<;>intro h<;>try exact zk h|refine zIR w (.d (.ep [.str x.name,alts x.alts])) hx ?_|refine zK (hc) ?_ ?_<;>intro h<;>try exact zk h|refine zC (hc) ?_|(show _=_;rw [qi2 hx (by simp_all) hi2])|(exact⟨i+1,⟨by omega,qa1 hi2 (fun q hq=>by rw [hx] at hq;cases hq;simp_all)⟩,by omega,qac (by repeat' (first|exact trivial|refine⟨rfl,?_⟩|refine⟨(qaq (k:=i) (by kernel_rfl) (by omega)),?_⟩))⟩)|fail)
 .have hge:i=l.length:=by omega
  repeat' (first|refine zW ?_|refine zB ?_ ?_<;>intro h<;>try exact zk h|(show _=_;rw [qe8 (fun j hj=>hi2 j (by omega))])|fail)
theorem qg5 (l:List SRule) (hl:l.length<=1099511627776) (F:FuncId) (caps:List DV) (p:SRule->Bool) (hp:∀ x ∈ l,qaa Tryz.prog F ((qbV x) :: caps) (.d (.bool (p x)))) :
  qaa Tryz.prog 117 [(.sl 2 (l.map qbV)),.fn (.func F) [] caps] (.d (.bool (l.any p))):=by
 refine kF Tryz.func117 [] fun w=>?_;have e:=qgp l p
 repeat' (first|refine zW ?_|refine zB ?_ ?_<;>intro h<;>try exact zk h|refine zK (qfQ _ hl _ _ _ hp) ?_ ?_<;>intro h<;>try exact zk h|refine zC (qfQ _ hl _ _ _ hp) ?_|(show _=_;first|(rw [<- e]<;>simp_all<;>fail)|fail)|fail)
def qre (r0:SRule):List DV->List Ob
 |[]=>[]
 |_ :: l=>[.box [.d (.str r0.name),.d (alts r0.alts)],.room (l.length+1) 1]
theorem qy2 (x:Src) (hf:qde x):qaa Tryz.prog 115 [qfO x] (.d (qao (x.rules.map (·.name)))):=by
 have w:Fz [1,16]:=trivial;have hrl:=hf.rules;obtain⟨r0,hr0⟩:∃ r0:SRule,∀ r,x.rules[0]?=some r->r=r0:=⟨(x.rules[0]?).getD ⟨[],[]⟩,fun r h=>by rw [h];rfl⟩
 refine qf5 qak (fnB Tryz.func115 [1,16]) ?_
 repeat' (first|refine zW ?_|refine zB ?_ ?_<;>intro h<;>try exact zk h|refine zX ?_|(refine Yt ?_;refine r2 ?_;first|done|(skip))|fail)
 refine Run.loopT (fun y:Nat × List DV=>⟨PT.ofList [(3,qxM 1 1 y.2),(7,.d (.sl 2 (x.rules.map qbV))),(8,.d (.int .i64 (x.rules.map qbV).length)),(9,.d (.int .i64 y.1))],qre r0 y.2,[]⟩) (fun y=>y.1<=x.rules.length/\y.2=(x.rules.take y.1).map (fun r=>.str r.name)) (fun y=>x.rules.length-y.1) (0,[]) ⟨Nat.zero_le _,rfl⟩ (ti _ 0) (fun y hy=>?_);obtain⟨i,acc⟩:=y;obtain⟨hi1,hi2⟩:=hy;simp only at hi1 hi2 |-;have hal:acc.length<=i:=by rw [hi2];simp;omega
 rcases Nat.lt_or_ge i x.rules.length with hlt|hge
 .obtain⟨r,hr⟩:=qai hlt
  have hnext:acc++[DV.str r.name]=(x.rules.take (i+1)).map (fun r=>.str r.name):=by rw [List.take_add_one,hr,hi2];simp
  rcases acc with _|⟨a,l⟩
  .have hi0:i=0:=by
    have:=congrArg List.length hi2;simp at this;omega
   have hrr:=hr0 r (by rw [<- hi0];exact hr);subst hrr
   repeat' (first|refine zW ?_|refine zB ?_ ?_<;>intro h<;>try exact zk h|refine zX ?_|refine zIR w (.d (.ep [.str r.name,alts r.alts])) hr ?_|refine zAp ?_|(refine Yt ?_;refine r2 ?_;first|done|(skip))|(exact⟨(i+1,[DV.str r.name]),⟨hlt,hnext⟩,by simp only;omega,(ti _ 2 (Eq.trans (b:=[.box [.d (.str r.name),.d (alts r.alts)],.room 1 1]) rfl (by first|rfl|(simp [qxM,qyd,qre]<;>fail))))⟩)|fail)
  .have hal':l.length+1<=i:=hal
   repeat' (first|refine zW ?_|refine zB ?_ ?_<;>intro h<;>try exact zk h|refine zX ?_|refine zIR w (.d (.ep [.str r.name,alts r.alts])) hr ?_|refine zAp ?_|(refine Yt ?_;refine r2 ?_;first|done|(skip))|(exact⟨(i+1,a :: (l++[DV.str r.name])),⟨hlt,hnext⟩,by simp only;omega,(ti _ 2 (Eq.trans (b:=[.box [.d (.str r0.name),.d (alts r0.alts)],.room (l.length+1+1) 1]) rfl (by first|rfl|(simp [qxM,qyd,qre]<;>fail))))⟩)|fail)
 .have hge:i=x.rules.length:=by omega
  have he:(x.rules.map (·.name)).map DV.str=acc:=by rw [hi2,hge,List.take_length,List.map_map];rfl
  rw [show qao (x.rules.map (·.name))=.sl 1 ((x.rules.map (·.name)).map DV.str) from rfl,he];rcases acc with _|⟨a,l⟩
  .repeat' (first|refine zW ?_|refine zB ?_ ?_<;>intro h<;>try exact zk h|refine zX ?_|(refine Yt ?_;refine r2 ?_;first|done|(exact .d .nil))|fail)
  .repeat' (first|refine zW ?_|refine zB ?_ ?_<;>intro h<;>try exact zk h|refine zX ?_|(refine Yt ?_;refine r2 ?_;first|done|(exact .refl))|fail)
theorem qua (l:List (List Nat)) (hl:l.length<=1099511627776):qaa Tryz.prog 124 [qao l] (.d (.bool (decide (¬ l.Nodup)))):=by
 refine kF Tryz.func124 [] fun w=>?_
 repeat' (first|refine zW ?_|refine zB ?_ ?_<;>intro h<;>try exact zk h|fail)
 refine Run.loop (fun i:Nat=>⟨PT.ofList [(0,.d (qao l)),(5,.d (qao l)),(6,.d (.int .i64 (l.map DV.str).length)),(7,.d (.int .i64 i))],[],[]⟩) (fun i=>i<=l.length/\(l.take i).Nodup) (fun i=>l.length-i) 0 ⟨Nat.zero_le _,by simp⟩ (qac (by repeat' (first|exact trivial|refine⟨rfl,?_⟩))) (fun i hi=>?_);rcases Nat.lt_or_ge i l.length with hlt|hge
 .obtain⟨x,hx⟩:=qai hlt
  have hh:=qgy (l.take i) x (by simp;omega);have hc:AV.d (DV.sl 1 (qdQ none (some (i:Int)) (l.map DV.str)))=.d (qao (l.take i)):=by simp [qdQ,List.map_take]
  by_cases hm:x ∈ l.take i
  .rw [decide_eq_true hm] at hh
   rw [decide_eq_true (qfn hx hm)]
   repeat' (first|refine zW ?_|refine zB ?_ ?_<;>intro h<;>try exact zk h|refine zC (hh) ?_|refine zI w (.d (.ep [.str x])) hx ?_|refine oV (v:=.d (qao (l.take i))) ?_ (hf:=by first|(simp [qbR,qjZ]<;>fail)|(simp [qbR,qjZ];omega)) (he:=hc)|rfl|exact zk h|fail)
  .rw [decide_eq_false hm] at hh
   have hn:=qho hx hi.2 hm
   repeat' (first|refine zW ?_|refine zB ?_ ?_<;>intro h<;>try exact zk h|refine zC (hh) ?_|refine zI w (.d (.ep [.str x])) hx ?_|refine oV (v:=.d (qao (l.take i))) ?_ (hf:=by first|(simp [qbR,qjZ]<;>fail)|(simp [qbR,qjZ];omega)) (he:=hc)|(show _=_;(exfalso;(simp at h<;>omega)))|(exact⟨i+1,⟨hlt,hn⟩,by omega,qac (by repeat' (first|exact trivial|refine⟨rfl,?_⟩|refine⟨(qaq (k:=i) (by kernel_rfl) (by omega)),?_⟩))⟩)|fail)
 .have hie:i=l.length:=by omega
  subst hie;have hn:=hi.2;rw [List.take_length] at hn;rw [decide_eq_false (by simpa using hn)]
  repeat' (first|refine zW ?_|refine zB ?_ ?_<;>intro h<;>try exact zk h|rfl|exact zk h|fail)
theorem qrg {x:Src} (h:(x.rules.take x.rules.length).any (fun r=>r.alts.any qeo)=false):qcN x=(decide (8<x.tokens.length) || decide (8<x.rules.length) || decide (24<qcc x x.rules.length)):=by
 unfold qcN;rw [qdc h];simp
theorem qze (x:Src) (hf:qde x):qaa Tryz.prog 119 [qfO x] (.d (.bool (qcN x))):=by
 have hrl:=hf.rules;refine kF Tryz.func119 [1] fun w=>?_
 repeat' (first|refine zW ?_|refine zB ?_ ?_<;>intro h<;>try exact zk h|fail)
 refine Run.loopT (fun i:Nat=>⟨PT.ofList [(1,qbK x),(3,.d (.int .i64 (qcc x i:Nat))),(9,.d (.sl 2 (x.rules.map qbV))),(10,.d (.int .i64 (x.rules.map qbV).length)),(11,.d (.int .i64 i))],[],[]⟩) (fun i=>i<=x.rules.length/\(x.rules.take i).any (fun r=>r.alts.any qeo)=false) (fun i=>x.rules.length-i) 0 ⟨Nat.zero_le _,rfl⟩ (ti _ 0) (fun i hi=>?_);obtain⟨hi1,hi3⟩:=hi;rcases Nat.lt_or_ge i x.rules.length with hlt|hge
 .obtain⟨r,hr⟩:=qai hlt
  have hra:=hf.alts r (List.mem_of_getElem? hr);have hsl:=qlv hf (i:=i) hi1;have hsum:AV.d (.int .i64 (IntKind.i64.wrap ((qcc x i:Nat)+((r.alts.map qao).length:Int))))=.d (.int .i64 (qcc x (i+1):Nat)):=vN8 (by rw [qdx hr];simp) (by rw [qdx hr];omega)
  repeat' (first|refine zV hsum ?_|refine zW ?_|refine zB ?_ ?_<;>intro h<;>try exact zk h|refine zIR w (.d (.ep [.str r.name,alts r.alts])) hr ?_|exact zk h|fail)
  refine Run.loopT (fun k:Nat=>⟨PT.ofList [(1,qbK x),(3,.d (.int .i64 (qcc x (i+1):Nat))),(9,.d (.sl 2 (x.rules.map qbV))),(10,.d (.int .i64 (x.rules.map qbV).length)),(11,.d (.int .i64 i)),(21,.d (alts r.alts)),(22,.d (.int .i64 (r.alts.map qao).length)),(23,.d (.int .i64 k))],[],[]⟩) (fun k=>k<=r.alts.length/\(r.alts.take k).any qeo=false) (fun k=>r.alts.length-k) 0 ⟨Nat.zero_le _,rfl⟩ (ti _ 0) (fun k hk=>?_);obtain⟨hk1,hk3⟩:=hk;rcases Nat.lt_or_ge k r.alts.length with hkl|hkg
  .obtain⟨a,ha⟩:=qai hkl
   cases hla:qeo a with
   |true =>
    have hfx:qcN x=true:=by unfold qcN;rw [qb8 hr (p:=fun r=>r.alts.any qeo) (qb8 ha hla)];rfl
    have hla':6<a.length:=by simpa [qeo] using hla
    rw [hfx]
    repeat' (first|refine zW ?_|refine zB ?_ ?_<;>intro h<;>try exact zk h|refine zI w (.d (.ep [qao a])) ha ?_|rfl|exact zk h|fail)
   |false =>
    have hla':¬ 6<a.length:=by simpa [qeo] using hla
    repeat' (first|refine zW ?_|refine zB ?_ ?_<;>intro h<;>try exact zk h|refine zI w (.d (.ep [qao a])) ha ?_|(show _=_;(exfalso;(simp at h<;>omega)))|(exact⟨k+1,⟨by omega,qbn ha hk3 hla⟩,by omega,(ti _ 0)⟩)|exact zk h|fail)
  .have hke:k=r.alts.length:=by omega
   subst hke;have hall:=qdc hk3
   repeat' (first|refine zW ?_|refine zB ?_ ?_<;>intro h<;>try exact zk h|(exact⟨i+1,⟨by omega,qbn hr hi3 hall⟩,by omega,(ti _ 0)⟩)|exact zk h|fail)
 .have hie:i=x.rules.length:=by omega
  subst hie;rw [qrg hi3];by_cases ht:8<x.tokens.length
  .rw [decide_eq_true ht]
   repeat' (first|refine zW ?_|refine zB ?_ ?_<;>intro h<;>try exact zk h|rfl|exact zk h|fail)
  .rw [decide_eq_false ht]
   by_cases h8:8<x.rules.length
   .rw [decide_eq_true h8]
    repeat' (first|refine zW ?_|refine zB ?_ ?_<;>intro h<;>try exact zk h|rfl|exact zk h|fail)
   .rw [decide_eq_false h8]
    by_cases hs:24<qcc x x.rules.length
    .rw [decide_eq_true hs]
     repeat' (first|refine zW ?_|refine zB ?_ ?_<;>intro h<;>try exact zk h|rfl|exact zk h|fail)
    .rw [decide_eq_false hs]
     repeat' (first|refine zW ?_|refine zB ?_ ?_<;>intro h<;>try exact zk h|rfl|exact zk h|fail)
theorem vT8 {p:Prop} [Decidable p] (h:p):AV.d (.bool (decide p))=.d (.bool true):=by rw [decide_eq_true h]
theorem vF8 {p:Prop} [Decidable p] (h:¬ p):AV.d (.bool (decide p))=.d (.bool false):=by rw [decide_eq_false h]
section
variable {E:PT Ty} {H:Hd} {frz:List Nat} {rd:Operand->AV} {objs:List Ob} {o:Oper} {args:Array Operand} {tys:Array TypeId} {a b:Operand} {ts tx e:TypeId} {yts z:Ty} {szx k:Nat} {ys:List DV}
theorem qAl (hlen:ys.length<=16777216) (hop:o.op=.call ⟨.builtin .append,args,tys⟩:=by rfl) (ha:args.toList=[a,b]:=by rfl) (ht:tys.toList=[ts,tx]:=by rfl)
  (hv:qk2 o.dst frz=true:=by rfl) (h1:E.get? ts=some yts:=by rfl) (h2:yts.desc=.slice e:=by rfl) (h3:E.get? e=some z:=by rfl) (h4:qeK E z tx (rd b) objs=some (szx,ys):=by rfl) (h5:(Nat.ble 1 z.size && Nat.ble 1 z.bytes)=true:=by rfl) (hk:z.size=k:=by rfl)
  (h6:szx=k\/ys=[]:=by first|rfl|(exact Or.inl rfl)|(exact Or.inr rfl))
  (h7:rd a=.d .nilsl:=by rfl) (h11:Nat.ble z.bytes 65536=true:=by rfl) :
  qax E H frz rd objs o=some (.vs objs.length k 0 ys.length,some (objs++[.vec e (qas z.desc) k ys.length ((qav ys).map .d)]),true):=by
 obtain⟨dst,op,ty,pos,after,guard⟩:=o;obtain⟨desc,size,bytes,zero⟩:=yts;simp only at hop h2 hv;subst hop h2 hk;have hb:∀ q:Nat,Nat.beq q q=true:=fun q=>Nat.beq_refl q;have hs:qlk szx z.size ys=z.size:=by
  rcases h6 with rfl|rfl
  .cases ys<;>rfl
  .rfl
 have hm:Nat.ble (ys.length*z.bytes) 1099511627776=true:=Nat.ble_eq_true_of_le (Nat.le_trans (Nat.mul_le_mul hlen (Nat.le_of_ble_eq_true h11)) (by decide));simp only [qax,ha,ht,hv,qdd,h1,qfY,h3,h4,h5,hs,hb,h7,hm,Bool.and_self,if_true,Option.map_some]
end
theorem qnZ {n:Nat} (hn:n<=1048576) {objs:List Ob}:qeK Et ty9 3 (.d (.int .i64 (n:Nat))) objs=some (1,List.replicate n (.str [])):=by
 have h1:Nat.ble n 1048576=true:=Nat.ble_eq_true_of_le hn;have h2:Nat.ble (n*ty9.bytes) 1099511627776=true:=Nat.ble_eq_true_of_le (Nat.le_trans (Nat.mul_le_mul hn (show ty9.bytes<=16 from Nat.le_refl _)) (by decide));have h3:(decide (0<=((n:Nat):Int)) && Nat.ble ((n:Nat):Int).toNat 1048576 && Nat.ble (((n:Nat):Int).toNat*ty9.bytes) 1099511627776 && (qas ty9.desc || Nat.beq ty9.size 1))=true:=by
  rw [Int.toNat_natCast,h1,h2];simp;exact .inr rfl
 show(match decide (0<=((n:Nat):Int)) && Nat.ble ((n:Nat):Int).toNat 1048576 && Nat.ble (((n:Nat):Int).toNat*ty9.bytes) 1099511627776 && (qas ty9.desc || Nat.beq ty9.size 1) with
  |true=>some (ty9.size,List.replicate ((n:Nat):Int).toNat (qlC ty9))
  |false=>none)=_
 rw [h3];rfl
theorem qql (l:List (List Nat)) (hl:l.length<=1048576):ACall Tryz.prog 72 [.d (qao l)] [] (.sr 0 1 ([]++l.map DV.str)) [.room (([]:List DV).length+(l.map DV.str).length) 1]:=by
 have w:Fz []:=trivial;refine qaf qak (fnB Tryz.func72 []) rfl rfl ?_
 repeat refine zG ?_
 refine zX ?_
 repeat refine zG ?_
 refine zX ?_;refine qAK qak (fun hnil=>?_) ?_
 .have hl0:l=[]:=by simpa using hnil
  subst hl0
  repeat refine zG ?_
  refine zX ?_
  repeat refine zG ?_
  refine Run.mkRoom 2 1 [(2,.sr 0 1 [])] rfl (qbW (by intro p hp;simp at hp;subst hp;exact .inl ⟨rfl,rfl⟩)) ?_;refine Yt ?_;exact⟨trivial,rfl,rfl⟩
 .repeat refine zG ?_
  iterate 2 refine zX ?_
  refine oV ?_ (hv:=qnV) (hf:=rfl) (he:=rfl);refine zX ?_
  repeat refine zG ?_
  refine Yt ?_;exact⟨trivial,rfl,rfl⟩
theorem qzk:ACall Tryz.prog 236 [.d .nilsl,.d (.int .i64 (0:Nat))] [] (.sr 0 1 []) [.room 0 1]:=by
 have w:Fz []:=trivial;refine qtI ?_;refine qaf qak (fnB Tryz.func236 []) rfl rfl ?_
 repeat refine zG ?_
 refine zX ?_
 repeat refine zG ?_
 refine zX ?_
 first|refine oV (v:=.d (.bool false)) ?_ (he:=(vF8 (by decide)))|refine eX (v:=.d (.bool false)) ?_ (he:=(vF8 (by decide)))
 repeat refine zG ?_
 iterate 5 refine zX ?_
 first|refine oV (v:=.d (.int .i64 0)) ?_ (he:=(rfl))|refine eX (v:=.d (.int .i64 0)) ?_ (he:=(rfl))
 first|refine oV (v:=.d (.int .i64 (0:Nat))) ?_ (he:=(rfl))|refine eX (v:=.d (.int .i64 (0:Nat))) ?_ (he:=(rfl))
 refine zX ?_
 repeat refine zG ?_
 refine zX ?_
 first|refine oV (v:=.d (.bool false)) ?_ (he:=(vF8 (by decide)))|refine eX (v:=.d (.bool false)) ?_ (he:=(vF8 (by decide)))
 repeat refine zG ?_
 iterate 2 refine zX ?_
 repeat refine zG ?_
 refine Yt ?_;exact⟨trivial,rfl,rfl⟩
theorem qz5 (n:Nat) (h0:0<n) (hn:n<=1048576):∃ m cs,ACall Tryz.prog 236 [.d .nilsl,.d (.int .i64 (n:Nat))] [] (.vs 0 1 0 0) [.vec 9 false 1 m cs]:=by
 have w:Fz [65558,200000]:=trivial;refine⟨(List.replicate n (DV.str [])).length,(qav (List.replicate n (.str []))).map .d,?_⟩;refine qaf qak (fnB Tryz.func236 [65558,200000]) rfl rfl ?_
 repeat refine zG ?_
 refine zX ?_
 repeat refine zG ?_
 refine zX ?_
 first|refine oV (v:=.d (.bool false)) ?_ (he:=(vF8 (by omega)))|refine eX (v:=.d (.bool false)) ?_ (he:=(vF8 (by omega)))
 repeat refine zG ?_
 iterate 5 refine zX ?_
 first|refine oV (v:=.d (.int .i64 0)) ?_ (he:=(rfl))|refine eX (v:=.d (.int .i64 0)) ?_ (he:=(rfl))
 first|refine oV (v:=.d (.int .i64 (n:Nat))) ?_ (he:=(vN8 (by omega) (by omega)))|refine eX (v:=.d (.int .i64 (n:Nat))) ?_ (he:=(vN8 (by omega) (by omega)))
 refine zX ?_
 repeat refine zG ?_
 refine zX ?_
 first|refine oV (v:=.d (.bool true)) ?_ (he:=(vT8 (by omega)))|refine eX (v:=.d (.bool true)) ?_ (he:=(vT8 (by omega)))
 repeat refine zG ?_
 iterate 5 refine zX ?_
 refine oV ?_ (hv:=qAl (ys:=List.replicate n (.str [])) (by rw [List.length_replicate]<;>omega) (h4:=by exact qnZ hn)) (hf:=rfl) (he:=rfl);iterate 2 refine zX ?_
 refine oV ?_ (hf:=by simp [qbR]);refine zX ?_
 repeat refine zG ?_
 iterate 2 refine zX ?_
 repeat refine zG ?_
 refine Yt ?_;exact⟨trivial,rfl,rfl⟩
theorem qyO (n:Nat) (hn:n<=1048576):ACall Tryz.prog 236 [.d .nilsl,.d (.int .i64 (n:Nat))] [] (.sr 0 1 []) [.room 0 1]:=by
 rcases Nat.eq_zero_or_pos n with h0|h0
 .subst h0;exact qzk
 .obtain⟨m,cs,h⟩:=qz5 n h0 hn
  exact qsU h
def qe0 (l:List (List (List Nat))) (i:Nat):Nat:=(l.take i).flatten.length
theorem qja {l:List (List (List Nat))} {i:Nat} {a:List (List Nat)} (h:l[i]?=some a):qe0 l (i+1)=qe0 l i+a.length:=by
 simp [qe0,List.take_add_one,h]
theorem qmZ (l:List (List (List Nat))) (i:Nat):qe0 l i<=l.flatten.length:=by
 unfold qe0
 conv=>rhs;rw [<- List.take_append_drop i l,List.flatten_append,List.length_append]
 omega
theorem qwv (l:List (List (List Nat))) (hl:l.length<=1099511627776) (ht:l.flatten.length<=1048576):qaa Tryz.prog 200 [alts l] (.d (qao l.flatten)):=by
 refine kF Tryz.func200 [] fun w=>?_
 repeat' (first|refine zW ?_|refine zB ?_ ?_<;>intro h<;>try exact zk h|fail)
 refine Run.loop (fun i:Nat=>⟨PT.ofList [(0,.d (alts l)),(3,.d (.int .i64 (qe0 l i:Nat))),(9,.d (alts l)),(10,.d (.int .i64 (l.map qao).length)),(11,.d (.int .i64 i))],[],[]⟩) (fun i=>i<=l.length) (fun i=>l.length-i) 0 (Nat.zero_le _) (qac (by repeat' (first|exact trivial|refine⟨rfl,?_⟩))) (fun i hi=>?_);rcases Nat.lt_or_ge i l.length with hlt|hge
 .obtain⟨a,ha⟩:=qai hlt
  have h1:=qmZ l (i+1);have h2:=qja ha
  repeat refine zG ?_
  first|refine oV (v:=.d (.bool true)) ?_ (he:=(vT8 (by simp<;>omega)))|refine eX (v:=.d (.bool true)) ?_ (he:=(vT8 (by simp<;>omega)))
  repeat refine zG ?_
  refine oV (v:=.d (.ep [qao a])) ?_ (hf:=by simp [inB]<;>omega) (he:=by simp [List.getD_eq_getElem?_getD,qam,ha]);iterate 2 refine zX ?_
  repeat refine zG ?_
  iterate 3 refine zX ?_
  first|refine oV (v:=.d (.int .i64 (qe0 l (i+1):Nat))) ?_ (he:=(vN8 (by rw [h2];simp) (by omega)))|refine eX (v:=.d (.int .i64 (qe0 l (i+1):Nat))) ?_ (he:=(vN8 (by rw [h2];simp) (by omega)))
  refine zX ?_
  repeat refine zG ?_
  refine zX ?_
  first|refine oV (v:=.d (.bool false)) ?_ (he:=(vF8 (by omega)))|refine eX (v:=.d (.bool false)) ?_ (he:=(vF8 (by omega)))
  repeat refine zG ?_
  first|refine oV (v:=.d (.int .i64 (i+1:Nat))) ?_ (he:=(vN8 (by omega) (by omega)))|refine eX (v:=.d (.int .i64 (i+1:Nat))) ?_ (he:=(vN8 (by omega) (by omega)))
  refine zX ?_
  repeat refine zG ?_
  exact⟨i+1,hlt,by omega,qac (by repeat' (first|exact trivial|refine⟨rfl,?_⟩))⟩
 .have hie:i=l.length:=by omega
  have hsum:qe0 l i=l.flatten.length:=by unfold qe0;rw [hie,List.take_length]
  rw [hsum];subst hie
  repeat refine zG ?_
  first|refine oV (v:=.d (.bool false)) ?_ (he:=(vF8 (by simp)))|refine eX (v:=.d (.bool false)) ?_ (he:=(vF8 (by simp)))
  repeat refine zG ?_
  refine zX ?_;refine oA (qyO _ ht) ?_;refine zX ?_
  repeat refine zG ?_
  iterate 3 refine zX ?_
  repeat refine zG ?_
  refine Run.loop (fun y:Nat × List DV=>⟨PT.ofList [(6,.sr 0 1 y.2),(25,.d (alts l)),(26,.d (.int .i64 (l.map qao).length)),(27,.d (.int .i64 y.1))],[.room y.2.length 1],[]⟩) (fun y=>y.1<=l.length/\y.2=(l.take y.1).flatten.map DV.str) (fun y=>l.length-y.1) (0,[]) ⟨Nat.zero_le _,rfl⟩ (qac (by repeat' (first|exact trivial|refine⟨rfl,?_⟩))) (fun y hy=>?_);obtain⟨i,acc⟩:=y;obtain⟨hi1,hi2⟩:=hy;simp only at hi1 hi2 |-;rcases Nat.lt_or_ge i l.length with hlt|hge
  .obtain⟨a,ha⟩:=qai hlt
   have h1:=qmZ l (i+1);have h2:=qja ha;have hal:acc.length=qe0 l i:=by rw [hi2,List.length_map];rfl
   have hnext:acc++a.map DV.str=(l.take (i+1)).flatten.map DV.str:=by rw [List.take_add_one,ha,hi2];simp
   repeat refine zG ?_
   first|refine oV (v:=.d (.bool true)) ?_ (he:=(vT8 (by simp<;>omega)))|refine eX (v:=.d (.bool true)) ?_ (he:=(vT8 (by simp<;>omega)))
   repeat refine zG ?_
   refine oV (v:=.d (.ep [qao a])) ?_ (hf:=by simp [inB]<;>omega) (he:=by simp [List.getD_eq_getElem?_getD,qam,ha]);iterate 2 refine zX ?_
   repeat refine zG ?_
   iterate 2 refine zX ?_
   refine oV ?_ (hv:=qnV (hlen:=by simp<;>omega)) (hf:=rfl) (he:=rfl);refine zX ?_
   repeat refine zG ?_
   first|refine oV (v:=.d (.int .i64 (i+1:Nat))) ?_ (he:=(vN8 (by omega) (by omega)))|refine eX (v:=.d (.int .i64 (i+1:Nat))) ?_ (he:=(vN8 (by omega) (by omega)))
   refine zX ?_
   repeat refine zG ?_
   exact⟨(i+1,acc++a.map DV.str),⟨hlt,hnext⟩,by simp only<;>omega,qb4 (by show [Ob.room (acc++a.map DV.str).length 1]=[Ob.room (acc.length+(a.map DV.str).length) 1]<;>rw [List.length_append]) rfl (by repeat' (first|exact trivial|refine⟨rfl,?_⟩))⟩
  .have hie:i=l.length:=by omega
   have he:l.flatten.map DV.str=acc:=by rw [hi2,hie,List.take_length]
   rw [show qao l.flatten=.sl 1 (l.flatten.map DV.str) from rfl,he];subst hie
   repeat refine zG ?_
   first|refine oV (v:=.d (.bool false)) ?_ (he:=(vF8 (by simp)))|refine eX (v:=.d (.bool false)) ?_ (he:=(vF8 (by simp)))
   repeat' (first|refine zW ?_|refine zB ?_ ?_<;>intro h<;>try exact zk h|rfl|fail)
def qbz (x:Src):List (List Nat):=x.rules.flatMap (fun r=>r.alts.flatten)
def qdM (x:Src) (i:Nat):List (List Nat):=(x.rules.take i).flatMap (fun r=>r.alts.flatten)
theorem qmi {x:Src} {i:Nat} {r:SRule} (h:x.rules[i]?=some r):qdM x (i+1)=qdM x i++r.alts.flatten:=by
 simp [qdM,List.take_add_one,h]
theorem qpl (x:Src) (i:Nat):(qdM x i).length<=(qbz x).length:=by
 unfold qdM qbz
 conv=>rhs;rw [<- List.take_append_drop i x.rules,List.flatMap_append,List.length_append]
 omega
theorem inner (x:Src) (hf:qde x) (ht:(qbz x).length<=1048576):qaa Tryz.prog 116 [qfO x] (.d (qao (qbz x))):=by
 have hrl:=hf.rules;refine kF Tryz.func116 [1] fun w=>?_
 repeat refine zG ?_
 iterate 2 refine zX ?_
 repeat refine zG ?_
 refine zX ?_;refine RunOps.nilRow 3 1 [(1,qbK x),(3,.d (.sl 1 []))] (by rfl) (by refine qbW ?_;intro p hp;rcases List.mem_cons.1 hp with rfl|hp;right;dsimp only;rfl;rcases List.mem_cons.1 hp with rfl|hp;exact .inl ⟨rfl,rfl⟩;cases hp) ?_
 repeat refine zG ?_
 iterate 4 refine zX ?_
 repeat refine zG ?_
 refine Run.loopT (fun i:Nat=>⟨PT.ofList [(3,.d (qao (qdM x i))),(7,.d (.sl 2 (x.rules.map qbV))),(8,.d (.int .i64 (x.rules.map qbV).length)),(9,.d (.int .i64 i))],[],[]⟩) (fun i=>i<=x.rules.length) (fun i=>x.rules.length-i) 0 (Nat.zero_le _) (ti _ 0) (fun i hi=>?_);rcases Nat.lt_or_ge i x.rules.length with hlt|hge
 .obtain⟨r,hr⟩:=qai hlt
  have hra:=hf.alts r (List.mem_of_getElem? hr);have h1:=qpl x (i+1);have h2:=qmi hr;have hfl:(qdM x i :: r.alts).flatten=qdM x (i+1):=by rw [h2];rfl
  have hc:=qwv (qdM x i :: r.alts) (by simp;omega) (by rw [hfl];omega);rw [hfl] at hc
  repeat' (first|refine zW ?_|refine zB ?_ ?_<;>intro h<;>try exact zk h|refine zIR w (.d (.ep [.str r.name,alts r.alts])) hr ?_|refine zM (hc) ?_|refine zAp ?_|(exact⟨i+1,hlt,by omega,(ti _ 0)⟩)|exact zk h|fail)
 .have hie:i=x.rules.length:=by omega
  have he:qdM x i=qbz x:=by rw [hie];simp [qdM,qbz]
  rw [he];subst hie
  repeat' (first|refine zW ?_|refine zB ?_ ?_<;>intro h<;>try exact zk h|rfl|exact zk h|fail)
theorem qA4 (r:SRule):qaa Tryz.prog 118 [qbV r] (.d (.bool r.alts.isEmpty)):=by
 refine kF Tryz.func118 [1] fun w=>?_;cases ha:r.alts with
 |nil =>
  rw [show qbV r=.agg [.str r.name,alts []] from by rw [qbV,ha]]
  repeat' (first|refine zW ?_|refine zB ?_ ?_<;>intro h<;>try exact zk h|rfl|exact zk h|fail)
 |cons a l =>
  rw [show qbV r=.agg [.str r.name,alts (a :: l)] from by rw [qbV,ha]]
  repeat' (first|refine zW ?_|refine zB ?_ ?_<;>intro h<;>try exact zk h|rfl|exact zk h|fail)
def qfh (s:List Nat):Bool:=qap s || qae s
theorem qAu (s:List Nat) (hl:s.length<=1099511627776):qaa Tryz.prog 123 [.str s] (.d (.bool (qfh s))):=by
 have c1:=small s hl;have c2:=qfV s hl;unfold qfh;generalize qap s=b1 at c1 |-;generalize qae s=b2 at c2 |-;cases b1 with
 |true =>
  refine kF Tryz.func123 [] fun w=>?_
  repeat' (first|refine zW ?_|refine zB ?_ ?_<;>intro h<;>try exact zk h|refine zC (c1) ?_|refine zC (c2) ?_|rfl|exact zk h|fail)
 |false =>
  refine kF Tryz.func123 [] fun w=>?_
  repeat' (first|refine zW ?_|refine zB ?_ ?_<;>intro h<;>try exact zk h|refine zC (c1) ?_|refine zC (c2) ?_|rfl|exact zk h|fail)
theorem qAI (s:List Nat) (F:FuncId) (caps:List DV) (b:Bool) (hp:qaa Tryz.prog F (.str s :: caps) (.d (.bool b))):qaa Tryz.prog 203 [.str s,.ep [.fn (.func F) [] caps]] (.d (.bool (!b))):=by
 cases b with
 |true =>
  refine kF Tryz.func203 [] fun w=>?_
  repeat' (first|refine zW ?_|refine zB ?_ ?_<;>intro h<;>try exact zk h|refine zC (hp) ?_|rfl|exact zk h|fail)
 |false =>
  refine kF Tryz.func203 [] fun w=>?_
  repeat' (first|refine zW ?_|refine zB ?_ ?_<;>intro h<;>try exact zk h|refine zC (hp) ?_|rfl|exact zk h|fail)
theorem qzZ (l:List (List Nat)) (hl:l.length<=1099511627776) (F:FuncId) (caps:List DV) (p:List Nat->Bool) (hp:∀ s ∈ l,qaa Tryz.prog F (.str s :: caps) (.d (.bool (p s)))) :
  qaa Tryz.prog 120 [qao l,.fn (.func F) [] caps] (.d (.bool (l.all p))):=by
 have hc:=qhW l hl 203 [.ep [.fn (.func F) [] caps]] (fun s=>!p s) (fun s hs=>qAI s F caps (p s) (hp s hs));have e:l.all p=!(l.any fun s=>!p s):=by rw [List.all_eq_not_any_not]
 rw [e];generalize (l.any fun s=>!p s)=b at hc |-;cases b with
 |true =>
  refine kF Tryz.func120 [3] fun w=>?_
  repeat' (first|refine zW ?_|refine zB ?_ ?_<;>intro h<;>try exact zk h|refine zC (hc) ?_|rfl|exact zk h|fail)
 |false =>
  refine kF Tryz.func120 [3] fun w=>?_
  repeat' (first|refine zW ?_|refine zB ?_ ?_<;>intro h<;>try exact zk h|refine zC (hc) ?_|rfl|exact zk h|fail)
theorem qnp (l:List (List Nat)) (hl:l.length<=1099511627776) (F:FuncId) (caps:List AV) (objs:List Ob) (p:List Nat->Bool) (hp:∀ x ∈ l,ACall Tryz.prog F (.d (.str x) :: caps) objs (.d (.bool (p x))) objs) :
  ACall Tryz.prog 237 [.d (qao l),.fn (.func F) [] caps] objs (.d (.int .i64 (qn6 l p))) objs:=by
 have w:Fz []:=trivial;refine qaf qak (fnB Tryz.func237 []) rfl rfl ?_
 repeat' (first|refine zW ?_|refine zB ?_ ?_<;>intro h<;>try exact zk h|fail)
 refine Run.loop (fun i:Nat=>⟨PT.ofList [(0,.d (qao l)),(1,.fn (.func F) [] caps),(7,.d (.int .i64 l.length)),(8,.d (.int .i64 i))],objs,[]⟩) (fun i=>i<=l.length/\∀ j,j<i->∀ y,l[j]?=some y->p y=false) (fun i=>l.length-i) 0 ⟨Nat.zero_le _,fun j hj=>by omega⟩ (qac (by repeat' (first|exact trivial|refine⟨rfl,?_⟩|refine⟨Eq.trans (b:=some (.d (.int .i64 (l.map _).length))) rfl (by rw [List.length_map]),?_⟩|fail))) (fun i hi=>?_);obtain⟨hi1,hi2⟩:=hi;rcases Nat.lt_or_ge i l.length with hlt|hge
 .obtain⟨x,hx⟩:=qai hlt
  have hc:=hp x (List.mem_of_getElem? hx);cases hpx:p x with
  |true =>
   rw [hpx] at hc
   repeat' (first|refine zW ?_|refine zB ?_ ?_<;>intro h<;>try exact zk h|refine zI w (.d (.ep [.str x])) hx ?_|refine RunOps.call (by rfl) (by rfl) hc (by rfl) (by rfl) ?_|fail)
   refine Yt ?_;refine⟨trivial,rfl,?_⟩;rw [qi2 hx hpx hi2];rfl
  |false =>
   rw [hpx] at hc
   repeat' (first|refine zW ?_|refine zB ?_ ?_<;>intro h<;>try exact zk h|refine zI w (.d (.ep [.str x])) hx ?_|refine RunOps.call (by rfl) (by rfl) hc (by rfl) (by rfl) ?_|(exact⟨i+1,⟨by omega,qa1 hi2 (fun q hq=>by rw [hx] at hq;cases hq;exact hpx)⟩,by omega,qac (by repeat' (first|exact trivial|refine⟨rfl,?_⟩|refine⟨(qaq (k:=i) (by kernel_rfl) (by omega)),?_⟩))⟩)|fail)
 .have hge:i=l.length:=by omega
  repeat' (first|refine zW ?_|refine zB ?_ ?_<;>intro h<;>try exact zk h|fail)
  refine Yt ?_;refine⟨trivial,rfl,?_⟩;rw [qe8 (fun j hj=>hi2 j (by omega))];rfl
theorem qjK (l:List (List Nat)) (hl:l.length<=1099511627776) (F:FuncId) (caps:List AV) (objs:List Ob) (p:List Nat->Bool) (hp:∀ x ∈ l,ACall Tryz.prog F (.d (.str x) :: caps) objs (.d (.bool (p x))) objs) :
  ACall Tryz.prog 202 [.d (qao l),.fn (.func F) [] caps] objs (.d (.bool (l.any p))) objs:=by
 have w:Fz []:=trivial;refine qaf qak (fnB Tryz.func202 []) rfl rfl ?_
 repeat refine zA ?_
 refine RunOps.call (by rfl) (by rfl) (qnp l hl F caps objs p hp) (by rfl) (by rfl) ?_
 repeat refine zA ?_
 refine Yt ?_;refine⟨trivial,rfl,Eq.trans (b:=some (.d (.bool (decide (qn6 l p >= 0))))) (by kernel_rfl) ?_⟩;rw [show decide (qn6 l p >= 0)=l.any p from qgp l p]
def qn1 (x:Src) (rn:List (List Nat)) (s:List Nat):Bool:=decide (s ∈ x.tokens) || decide (s ∈ rn)
theorem qA6 (x:Src) (rn:List (List Nat)) (O:Ob) (B:List Ob) (s:List Nat) (hf:qde x) (hrn:rn.length<=1099511627776) :
  ACall Tryz.prog 126 [.d (.str s),qbK x,.bp 1 0] (O :: .box [.d (qao rn)] :: B) (.d (.bool (qn1 x rn s))) (O :: .box [.d (qao rn)] :: B):=by
 have w:Fz []:=trivial;have c1:=qgy x.tokens s (Nat.le_trans hf.tokens (by decide));have c2:=qgy rn s hrn;unfold qn1;generalize decide (s ∈ x.tokens)=b1 at c1 |-;generalize decide (s ∈ rn)=b2 at c2 |-;cases b1 with
 |true =>
  refine qaf qak (fnB Tryz.func126 []) rfl rfl ?_
  repeat' (first|refine zW ?_|refine zB ?_ ?_<;>intro h<;>try exact zk h|refine zC (c1) ?_|refine zC (c2) ?_|fail)
  refine Yt ?_;exact⟨trivial,rfl,rfl⟩
 |false =>
  refine qaf qak (fnB Tryz.func126 []) rfl rfl ?_
  repeat' (first|refine zW ?_|refine zB ?_ ?_<;>intro h<;>try exact zk h|refine zC (c1) ?_|refine zC (c2) ?_|fail)
  refine Yt ?_;exact⟨trivial,rfl,rfl⟩
theorem qzV (F:FuncId) (caps:List AV) (O P:Ob) (s:List Nat) (b:Bool) (hp:ACall Tryz.prog F (.d (.str s) :: caps) [O,P,.box [.fn (.func F) [] caps]] (.d (.bool b)) [O,P,.box [.fn (.func F) [] caps]]) :
  ACall Tryz.prog 203 [.d (.str s),.bp 2 0] [O,P,.box [.fn (.func F) [] caps]] (.d (.bool (!b))) [O,P,.box [.fn (.func F) [] caps]]:=by
 have w:Fz []:=trivial;cases b with
 |true =>
  refine qaf qak (fnB Tryz.func203 []) rfl rfl ?_
  repeat' (first|refine zW ?_|refine zB ?_ ?_<;>intro h<;>try exact zk h|refine RunOps.call (by rfl) (by rfl) hp (by rfl) (by rfl) ?_|fail)
  refine Yt ?_;exact⟨trivial,rfl,rfl⟩
 |false =>
  refine qaf qak (fnB Tryz.func203 []) rfl rfl ?_
  repeat' (first|refine zW ?_|refine zB ?_ ?_<;>intro h<;>try exact zk h|refine RunOps.call (by rfl) (by rfl) hp (by rfl) (by rfl) ?_|fail)
  refine Yt ?_;exact⟨trivial,rfl,rfl⟩
theorem qAX (l:List (List Nat)) (hl:l.length<=1099511627776) (F:FuncId) (caps:List AV) (O P:Ob) (p:List Nat->Bool) (hp:∀ x ∈ l,ACall Tryz.prog F (.d (.str x) :: caps) [O,P,.box [.fn (.func F) [] caps]] (.d (.bool (p x))) [O,P,.box [.fn (.func F) [] caps]]) :
  ACall Tryz.prog 120 [.d (qao l),.fn (.func F) [] caps] [O,P] (.d (.bool (l.all p))) [O,P,.box [.fn (.func F) [] caps]]:=by
 have w:Fz []:=trivial;have hc:=qjK l hl 203 [.bp 2 0] [O,P,.box [.fn (.func F) [] caps]] (fun s=>!p s) (fun s hs=>qzV F caps O P s (p s) (hp s hs));have e:l.all p=!(l.any fun s=>!p s):=by rw [List.all_eq_not_any_not]
 rw [e];generalize (l.any fun s=>!p s)=b at hc |-;cases b with
 |true =>
  refine qaf qak (fnB Tryz.func120 []) rfl rfl ?_
  repeat' (first|refine zW ?_|refine zB ?_ ?_<;>intro h<;>try exact zk h|refine RunOps.call (by rfl) (by rfl) hc (by rfl) (by rfl) ?_|fail)
  refine Yt ?_;exact⟨trivial,rfl,rfl⟩
 |false =>
  refine qaf qak (fnB Tryz.func120 []) rfl rfl ?_
  repeat' (first|refine zW ?_|refine zB ?_ ?_<;>intro h<;>try exact zk h|refine RunOps.call (by rfl) (by rfl) hc (by rfl) (by rfl) ?_|fail)
  refine Yt ?_;exact⟨trivial,rfl,rfl⟩
theorem qoc (l:List (List Nat)) (s:List Nat):qc8 l s=decide (s ∈ l):=by
 rw [Bool.eq_iff_iff];simp only [qc8,List.any_eq_true,decide_eq_true_eq];constructor
 .rintro⟨y,hy,rfl⟩;exact hy
 .exact fun h=>⟨s,h,rfl⟩
theorem qef {x:Src} {s:List Nat}:s ∈ qbz x ↔ ∃ r ∈ x.rules,∃ a ∈ r.alts,s ∈ a:=by
 simp [qbz,List.mem_flatMap,List.mem_flatten]
theorem quv (x:Src):qjH x=!((qbP x).all qap && qae x.start && (qab x).all qae && (qbz x).all qfh):=by
 rw [Bool.eq_iff_iff,Bool.not_eq_true',<- Bool.not_eq_true];simp only [qjH,qsk,qe6,qfh,qbP,qab,Bool.or_eq_true,Bool.and_eq_true,List.any_eq_true,List.all_eq_true,Bool.not_eq_true',List.mem_append,List.mem_singleton,List.mem_map,qef];constructor
 .rintro(((⟨s,hs,h⟩|⟨r,hr,h|⟨a,ha,s,hs,h1,h2⟩⟩)|h)|h) ⟨⟨⟨g1,g2⟩,g3⟩,g4⟩
  .rw [g1 s (.inl hs)] at h;cases h
  .rw [g3 _ ⟨r,hr,rfl⟩] at h;cases h
  .rcases g4 s ⟨r,hr,a,ha,hs⟩ with g|g
   .rw [g] at h1;cases h1
   .rw [g] at h2;cases h2
  .rw [g1 _ (.inr rfl)] at h;cases h
  .rw [g2] at h;cases h
 .intro h
  refine Classical.byContradiction fun hn=>h ⟨⟨⟨?_,?_⟩,?_⟩,?_⟩
  .intro s hs
   cases hb:qap s with
   |true=>rfl
   |false =>
    rcases hs with hs|rfl
    .exact absurd (.inl (.inl (.inl ⟨s,hs,hb⟩))) hn
    .exact absurd (.inl (.inr hb)) hn
  .cases hb:qae x.start with
   |true=>rfl
   |false=>exact absurd (.inr hb) hn
  .rintro s ⟨r,hr,rfl⟩
   cases hb:qae r.name with
   |true=>rfl
   |false=>exact absurd (.inl (.inl (.inr ⟨r,hr,.inl hb⟩))) hn
  .rintro s ⟨r,hr,a,ha,hs⟩
   cases hb:qap s with
   |true=>exact .inl rfl
   |false=>cases hb2:qae s with
    |true=>exact .inr rfl
    |false=>exact absurd (.inl (.inl (.inr ⟨r,hr,.inr ⟨a,ha,s,hs,hb,hb2⟩⟩))) hn
theorem qvJ (x:Src) (s:List Nat):qfZ x s=decide (s ∈ qbz x):=by
 rw [Bool.eq_iff_iff];simp only [qfZ,qpz,List.any_eq_true,qoc,decide_eq_true_eq,qef]
theorem quh (x:Src):qmd x=(!decide (x.start ∈ qab x) || !(qbz x).all (qn1 x (qab x))):=by
 rw [Bool.eq_iff_iff];simp only [qmd,qu0,quu,qn1,qoc,Bool.or_eq_true,Bool.and_eq_true,List.any_eq_true,Bool.not_eq_true',decide_eq_false_iff_not,<- Bool.not_eq_true,List.all_eq_true,qef,decide_eq_true_eq];constructor
 .rintro(⟨r,hr,a,ha,s,hs,h1,h2⟩|h)
  .exact .inr fun g=>(g s ⟨r,hr,a,ha,hs⟩).elim h2 h1
  .exact .inl h
 .rintro(h|h)
  .exact .inr h
  .refine .inl (Classical.byContradiction fun hn=>h ?_)
   rintro s ⟨r,hr,a,ha,hs⟩;refine Classical.byContradiction fun hk=>hn ⟨r,hr,a,ha,s,hs,fun e=>hk (.inr e),fun e=>hk (.inl e)⟩
set_option maxHeartbeats 4000000 in
theorem qoL (x:Src) (hf:qde x) (ht:(qbz x).length<=1048576):qaa Tryz.prog 35 [qfO x] (.d (.int .i64 (qa0 x))):=by
 have htl:=hf.tokens;have hrl:=hf.rules;have c0:=qql x.tokens htl;have c1:qaa Tryz.prog 115 [qfO x] (.d (qao (qab x))):=qy2 x hf;have c2:=inner x hf ht;have c3:=qg5 x.rules (by omega) 118 [] (fun r=>r.alts.isEmpty) (fun r _=>qA4 r);have c4:=qze x hf;have c5:=qzZ (qbP x) (by simp [qbP];omega) 121 [] qap (fun s hs=>small s (by
  simp only [qbP,List.mem_append,List.mem_singleton] at hs;rcases hs with hs|rfl
  .exact Nat.le_trans (hf.tokenS s hs) (by decide)
  .exact Nat.le_trans hf.sep (by decide)))
 have c6:=qfV x.start (Nat.le_trans hf.start (by decide));have c7:=qzZ (qab x) (by simp;omega) 122 [] qae (fun s hs=>qfV s (by
  obtain⟨r,hr,rfl⟩:=List.mem_map.1 hs;exact Nat.le_trans (hf.ruleS r hr) (by decide)))
 have c8:=qzZ (qbz x) (by omega) 123 [] qfh (fun s hs=>qAu s (by
  obtain⟨r,hr,a,ha,hs⟩:=qef.1 hs;exact Nat.le_trans (hf.nameS r hr a ha s hs) (by decide)))
 have c9:=qua (qbP x) (by simp [qbP];omega);have c10:=qua (qab x) (by simp;omega);have c11:=qgy (qbz x) x.sep (by omega);have c12:=qgy (qab x) x.start (by simp;omega);have c13:=fun(O:Ob)=>qAX (qbz x) (by omega) 126 [qbK x,.bp 1 0] O (.box [.d (qao (qab x))]) (qn1 x (qab x)) (fun s _=>qA6 x (qab x) O [_] s hf (by simp;omega));rw [<- qhu] at c5 c9;have hrn:(qab x).length=x.rules.length:=by simp
 have hshort:qcw x=(decide (x.tokens.length=0) || decide ((qab x).length=0) || x.rules.any (fun r=>r.alts.isEmpty)):=by
  unfold qcw;rw [hrn];cases x.tokens<;>cases x.rules<;>simp
 have hchk:qa0 x=if x.k<1\/4<x.k then 2 else if qcw x=true then 5 else if qcN x=true then 6 else if qjH x=true then 12 else if qsn x=true then 8 else if qfZ x x.sep=true then 14 else if qmd x=true then 7 else 0:=rfl;rw [hshort,quv,qvJ,quh,qsn] at hchk;rw [hchk];generalize x.rules.any (fun r=>r.alts.isEmpty)=b1 at c3 |-;generalize qcN x=b2 at c4 |-;generalize (qbP x).all qap=b3 at c5 |-;generalize qae x.start=b4 at c6 |-;generalize (qab x).all qae=b5 at c7 |-;generalize (qbz x).all qfh=b6 at c8 |-;generalize decide (¬ (qbP x).Nodup)=b7 at c9 |-;generalize decide (¬ (qab x).Nodup)=b8 at c10 |-;generalize decide (x.sep ∈ qbz x)=b9 at c11 |-;generalize decide (x.start ∈ qab x)=b10 at c12 |-;generalize (qbz x).all (qn1 x (qab x))=b11 at c13 |-;clear hchk hshort;generalize hrn2:qab x=rn at *;generalize hin2:qbz x=inn at *;by_cases hk1:x.k<1
 .rw [if_pos (.inl hk1)]
  refine kF Tryz.func35 [1,11] fun w=>?_
  repeat' (first|refine zW ?_|refine zB ?_ ?_<;>intro h<;>try exact zk h|refine zX ?_|refine eA c0 ?_|refine zC (c1) ?_|refine zC (c2) ?_|refine zAp ?_|rfl|exact zk h|fail)
 .by_cases hk4:4<x.k
  .rw [if_pos (.inr hk4)]
   refine kF Tryz.func35 [1,11] fun w=>?_
   repeat' (first|refine zW ?_|refine zB ?_ ?_<;>intro h<;>try exact zk h|refine zX ?_|refine eA c0 ?_|refine zC (c1) ?_|refine zC (c2) ?_|refine zAp ?_|rfl|exact zk h|fail)
  .rw [if_neg (by omega)]
   by_cases ht0:x.tokens.length=0
   .have hT:AV.d (.bool ((((x.tokens.map DV.str).length:Nat):Int) == 0))=.d (.bool true):=by rw [List.length_map,ht0];rfl
    rw [show(decide (x.tokens.length=0) || decide (rn.length=0) || b1)=true from by simp [ht0],if_pos rfl];refine kF Tryz.func35 [1,11] fun w=>?_
    repeat' (first|refine zV hT ?_|refine zW ?_|refine zB ?_ ?_<;>intro h<;>try exact zk h|refine zX ?_|refine eA c0 ?_|refine zC (c1) ?_|refine zC (c2) ?_|refine zAp ?_|rfl|exact zk h|fail)
   .have hT:AV.d (.bool ((((x.tokens.map DV.str).length:Nat):Int) == 0))=.d (.bool false):=by
     rw [List.length_map];exact congrArg (fun b=>AV.d (.bool b)) (by simpa using ht0)
    by_cases hr0:rn.length=0
    .have hR:AV.d (.bool ((((rn.map DV.str).length:Nat):Int) == 0))=.d (.bool true):=by rw [List.length_map,hr0];rfl
     rw [show(decide (x.tokens.length=0) || decide (rn.length=0) || b1)=true from by simp [hr0],if_pos rfl];refine kF Tryz.func35 [1,11] fun w=>?_
     repeat' (first|refine zV hR ?_|refine zV hT ?_|refine zW ?_|refine zB ?_ ?_<;>intro h<;>try exact zk h|refine zX ?_|refine eA c0 ?_|refine zC (c1) ?_|refine zC (c2) ?_|refine zAp ?_|rfl|exact zk h|fail)
    .have hR:AV.d (.bool ((((rn.map DV.str).length:Nat):Int) == 0))=.d (.bool false):=by
      rw [List.length_map];exact congrArg (fun b=>AV.d (.bool b)) (by simpa using hr0)
     rw [show(decide (x.tokens.length=0) || decide (rn.length=0) || b1)=b1 from by simp [ht0,hr0]];cases b1 with
     |true =>
      refine kF Tryz.func35 [1,11] fun w=>?_
      repeat' (first|refine zV hR ?_|refine zV hT ?_|refine zW ?_|refine zB ?_ ?_<;>intro h<;>try exact zk h|refine zX ?_|refine eA c0 ?_|refine zC (c1) ?_|refine zC (c2) ?_|refine zC (c3) ?_|refine zAp ?_|rfl|exact zk h|fail)
     |false =>
      cases b2 with
      |true =>
       refine kF Tryz.func35 [1,11] fun w=>?_
       repeat' (first|refine zV hR ?_|refine zV hT ?_|refine zW ?_|refine zB ?_ ?_<;>intro h<;>try exact zk h|refine zX ?_|refine eA c0 ?_|refine zC (c1) ?_|refine zC (c2) ?_|refine zC (c3) ?_|refine zC (c4) ?_|refine zAp ?_|rfl|exact zk h|fail)
      |false =>
       refine kF Tryz.func35 [1,11] fun w=>?_
       repeat' (first|refine zV hR ?_|refine zV hT ?_|refine zW ?_|refine zB ?_ ?_<;>intro h<;>try exact zk h|refine zX ?_|refine eA c0 ?_|refine zC (c1) ?_|refine zC (c2) ?_|refine zC (c3) ?_|refine zC (c4) ?_|refine zLb (c5) ?_ ?_<;>intro h<;>try exact zk h|refine zL (c5) ?_|refine zK (c6) ?_ ?_<;>intro h<;>try exact zk h|refine zC (c6) ?_|refine zK (c7) ?_ ?_<;>intro h<;>try exact zk h|refine zC (c7) ?_|refine zK (c8) ?_ ?_<;>intro h<;>try exact zk h|refine zC (c8) ?_|refine zLb (c9) ?_ ?_<;>intro h<;>try exact zk h|refine zL (c9) ?_|refine zK (c10) ?_ ?_<;>intro h<;>try exact zk h|refine zC (c10) ?_|refine zK (c11) ?_ ?_<;>intro h<;>try exact zk h|refine zC (c11) ?_|refine zK (c12) ?_ ?_<;>intro h<;>try exact zk h|refine zC (c12) ?_|refine oA (c13 _) ?_|refine zAp ?_|(show _=_;first|rfl|(simp_all<;>fail))|exact zk h|((exfalso;simp_all<;>fail))|fail)
end Go.Av
end

/-
  Parts of the way to the law, joined. Conditions stand at each.
-/
import Derived.Test.YtbbdpddeabojgaaLs2
import Derived.Test.YtbbdpddeabojgaaRows
import Derived.Shelf.SlSortCmp.NoneTotal
import Derived.Test.YtbbdpddeabojgaaProg
import Derived.OpenShut
set_option linter.all false
namespace Go.Av
open Go Go.Proofs
def ty2:Ty:=⟨.int .i64,1,8,[(.int .i64 0)]⟩
def ty3:Ty:=⟨.int .i64,1,8,[(.int .i64 0)]⟩
def ty4:Ty:=⟨.bool,1,1,[(.bool false)]⟩
def ty5:Ty:=⟨.int .u8,1,1,[(.int .u8 0)]⟩
def ty9:Ty:=⟨.string,1,16,[(.str [])]⟩
def ty22:Ty:=⟨.slice 24,1,24,[.nilsl]⟩
def ty23:Ty:=⟨.slice 3,1,24,[.nilsl]⟩
def ty24:Ty:=⟨.slice 52,1,24,[.nilsl]⟩
def ty27:Ty:=⟨.slice 87,1,24,[.nilsl]⟩
def ty29:Ty:=⟨.struct #[⟨ "Nodes",27,0,false, "", "",0⟩],1,24,[.nilsl]⟩
def ty30:Ty:=⟨.int .i64,1,8,[(.int .i64 0)]⟩
def ty39:Ty:=⟨.struct #[⟨ "K",3,0,false, "", "",0⟩,⟨ "Terms",3,1,false, "", "",8⟩,⟨ "Prods",3,2,false, "", "",16⟩,⟨ "L",23,3,false, "", "",24⟩,⟨ "End",4,4,false, "", "",48⟩],5,56,[(.int .i64 0),(.int .i64 0),(.int .i64 0),.nilsl,(.bool false)]⟩
def ty50:Ty:=⟨.array 4 3,4,32,[(.int .i64 0),(.int .i64 0),(.int .i64 0),(.int .i64 0)]⟩
def ty52:Ty:=⟨.struct #[⟨ "N",3,0,false, "", "",0⟩,⟨ "S",50,1,false, "", "",8⟩],5,40,[(.int .i64 0),(.int .i64 0),(.int .i64 0),(.int .i64 0),(.int .i64 0)]⟩
def ty77:Ty:=⟨.pointer 82,1,8,[.nilptr]⟩
def ty80:Ty:=⟨.map 140 3,1,8,[.nilmap]⟩
def ty82:Ty:=⟨.struct #[⟨ "Trie",29,0,true, "", "",0⟩,⟨ "next",80,1,false, "", "stenotype/trie",24⟩],2,32,[.nilsl,.nilmap]⟩
def ty85:Ty:=⟨.array 9 3,9,72,[(.int .i64 0),(.int .i64 0),(.int .i64 0),(.int .i64 0),(.int .i64 0),(.int .i64 0),(.int .i64 0),(.int .i64 0),(.int .i64 0)]⟩
def ty87:Ty:=⟨.struct #[⟨ "Next",85,0,false, "", "",0⟩,⟨ "Prod",3,9,false, "", "",72⟩],10,80,[(.int .i64 0),(.int .i64 0),(.int .i64 0),(.int .i64 0),(.int .i64 0),(.int .i64 0),(.int .i64 0),(.int .i64 0),(.int .i64 0),(.int .i64 0)]⟩
def ty90:Ty:=⟨.slice 94,1,24,[.nilsl]⟩
def ty94:Ty:=⟨.struct #[⟨ "look",52,0,false, "", "stenotype/stenotyperef18",0⟩,⟨ "prod",3,5,false, "", "stenotype/stenotyperef18",40⟩],6,48,[(.int .i64 0),(.int .i64 0),(.int .i64 0),(.int .i64 0),(.int .i64 0),(.int .i64 0)]⟩
def ty96:Ty:=⟨.func #[3] #[4] false,1,8,[.nilfunc]⟩
def ty97:Ty:=⟨.func #[133] #[] false,1,8,[.nilfunc]⟩
def ty98:Ty:=⟨.func #[133] #[] false,1,8,[.nilfunc]⟩
def ty101:Ty:=⟨.struct #[⟨ "look",52,0,false, "", "stenotype/trie",0⟩,⟨ "prod",3,5,false, "", "stenotype/trie",40⟩],6,48,[(.int .i64 0),(.int .i64 0),(.int .i64 0),(.int .i64 0),(.int .i64 0),(.int .i64 0)]⟩
def ty103:Ty:=⟨.func #[87,87] #[4] false,1,8,[.nilfunc]⟩
def ty109:Ty:=⟨.func #[136] #[] false,1,8,[.nilfunc]⟩
def ty110:Ty:=⟨.func #[136] #[] false,1,8,[.nilfunc]⟩
def ty120:Ty:=⟨.func #[52,52] #[3] false,1,8,[.nilfunc]⟩
def ty121:Ty:=⟨.func #[4,4] #[4] false,1,8,[.nilfunc]⟩
def ty125:Ty:=⟨.func #[77,3,3] #[3] false,1,8,[.nilfunc]⟩
def ty129:Ty:=⟨.array 24 24,24,576,[.nilsl,.nilsl,.nilsl,.nilsl,.nilsl,.nilsl,.nilsl,.nilsl,.nilsl,.nilsl,.nilsl,.nilsl,.nilsl,.nilsl,.nilsl,.nilsl,.nilsl,.nilsl,.nilsl,.nilsl,.nilsl,.nilsl,.nilsl,.nilsl]⟩
def ty133:Ty:=⟨.func #[101] #[4] false,1,8,[.nilfunc]⟩
def ty134:Ty:=⟨.map 52 3,1,8,[.nilmap]⟩
def ty136:Ty:=⟨.func #[52] #[4] false,1,8,[.nilfunc]⟩
def ty140:Ty:=⟨.struct #[⟨ "node",3,0,false, "", "stenotype/trie",0⟩,⟨ "by",3,1,false, "", "stenotype/trie",8⟩],2,16,[(.int .i64 0),(.int .i64 0)]⟩
def ty144:Ty:=⟨.int .u64,1,8,[(.int .u64 0)]⟩
def ty149:Ty:=⟨.int .i64,1,8,[(.int .i64 0)]⟩
def ty156:Ty:=⟨.int .u32,1,4,[(.int .u32 0)]⟩
def ty158:Ty:=⟨.int .u64,1,8,[(.int .u64 0)]⟩
def ty159:Ty:=⟨.int .u64,1,8,[(.int .u64 0)]⟩
def ty163:Ty:=⟨.pointer 3,1,8,[.nilptr]⟩
def ty165:Ty:=⟨.pointer 159,1,8,[.nilptr]⟩
noncomputable def Et:PT Ty:=(.node (.node (.node (.node (.node (.node .nil none (.node (.node .nil (some ty159) .nil) none .nil)) none .nil) none (.node (.node .nil (some ty39) (.node .nil (some ty103) .nil)) (some ty23) (.node (.node .nil (some ty87) .nil) none .nil))) (some ty3) (.node (.node (.node .nil none (.node (.node .nil (some ty163) .nil) none .nil)) none .nil) none (.node .nil (some ty27) .nil))) none (.node (.node (.node (.node (.node (.node .nil (some ty129) .nil) none .nil) none (.node .nil (some ty97) .nil)) none .nil) (some ty9) (.node .nil none (.node .nil none (.node .nil (some ty121) .nil)))) (some ty5) (.node (.node (.node (.node (.node .nil (some ty133) .nil) none .nil) none (.node (.node .nil (some ty165) .nil) (some ty101) .nil)) none (.node (.node (.node .nil (some ty149) .nil) (some ty85) .nil) none .nil)) none (.node (.node (.node .nil (some ty77) .nil) none (.node .nil (some ty109) .nil)) (some ty29) (.node .nil none (.node .nil (some ty125) .nil)))))) none (.node (.node (.node (.node (.node .nil none (.node .nil (some ty96) .nil)) none (.node (.node (.node .nil (some ty144) .nil) (some ty80) .nil) none .nil)) none (.node (.node (.node (.node .nil (some ty136) .nil) none .nil) none .nil) (some ty24) (.node .nil none (.node .nil (some ty120) .nil)))) (some ty4) (.node (.node .nil none (.node .nil (some ty52) .nil)) none (.node (.node (.node (.node .nil (some ty140) .nil) none .nil) none .nil) none (.node (.node (.node .nil (some ty156) .nil) none .nil) none .nil)))) (some ty2) (.node (.node (.node (.node .nil none (.node .nil (some ty98) .nil)) none (.node (.node .nil (some ty82) .nil) (some ty50) .nil)) none (.node .nil none (.node (.node .nil (some ty90) .nil) none .nil))) none (.node (.node (.node (.node (.node .nil (some ty134) .nil) none .nil) none .nil) (some ty22) .nil) none (.node (.node .nil none (.node .nil (some ty110) .nil)) (some ty30) (.node (.node (.node .nil (some ty158) .nil) (some ty94) .nil) none .nil))))))
noncomputable def Ft:PT FnI:=(.node (.node (.node (.node (.node (.node (.node (.node .nil (some (mkFn Try.f127 [])) .nil) (some (mkFn Try.f63 [])) .nil) (some (mkFn Try.f31 [26,39,55,62,67])) (.node .nil (some (mkFn Try.f95 [30])) .nil)) (some (mkFn Try.f15 [2,3])) (.node (.node .nil (some (mkFn Try.f79 [4,5])) .nil) (some (mkFn Try.f47 [])) (.node .nil (some (mkFn Try.f111 [2])) .nil))) (some (mkFn Try.f7 [])) (.node (.node (.node .nil (some (mkFn Try.f71 [])) .nil) (some (mkFn Try.f39 [])) (.node .nil (some (mkFn Try.f103 [2,3])) .nil)) (some (mkFn Try.f23 [131114,6,7,48])) (.node (.node .nil (some (mkFn Try.f87 [])) .nil) (some (mkFn Try.f55 [65538,200000])) (.node .nil (some (mkFn Try.f119 [])) .nil)))) (some (mkFn Try.f3 [62])) (.node (.node (.node (.node (.node .nil (some (mkFn Try.f131 [])) .nil) (some (mkFn Try.f67 [])) .nil) (some (mkFn Try.f35 [])) (.node .nil (some (mkFn Try.f99 [])) .nil)) (some (mkFn Try.f19 [])) (.node (.node .nil (some (mkFn Try.f83 [58])) .nil) (some (mkFn Try.f51 [5,7,9,11,13,14,15])) (.node .nil (some (mkFn Try.f115 [2,3])) .nil))) (some (mkFn Try.f11 [15,26])) (.node (.node (.node .nil (some (mkFn Try.f75 [])) .nil) (some (mkFn Try.f43 [46])) (.node .nil (some (mkFn Try.f107 [])) .nil)) (some (mkFn Try.f27 [2,3])) (.node (.node .nil (some (mkFn Try.f91 [2,3,10])) .nil) (some (mkFn Try.f59 [6,7,54,67,71])) (.node .nil (some (mkFn Try.f123 [])) .nil))))) none (.node (.node (.node (.node (.node (.node .nil (some (mkFn Try.f129 [])) .nil) (some (mkFn Try.f65 [5,6,7,8,9])) .nil) (some (mkFn Try.f33 [4,6,9,11,21,23,25,30,32,34,41,43,45,47,49,51,53,55,57])) (.node .nil (some (mkFn Try.f97 [])) .nil)) (some (mkFn Try.f17 [1])) (.node (.node .nil (some (mkFn Try.f81 [])) .nil) (some (mkFn Try.f49 [])) (.node .nil (some (mkFn Try.f113 [2,3])) .nil))) (some (mkFn Try.f9 [74,84,179,200])) (.node (.node (.node .nil (some (mkFn Try.f73 [65557,65558])) .nil) (some (mkFn Try.f41 [])) (.node .nil (some (mkFn Try.f105 [])) .nil)) (some (mkFn Try.f25 [5,29,34])) (.node (.node .nil (some (mkFn Try.f89 [2])) .nil) (some (mkFn Try.f57 [])) (.node .nil (some (mkFn Try.f121 [])) .nil)))) (some (mkFn Try.f5 [67,167])) (.node (.node (.node (.node .nil (some (mkFn Try.f69 [])) .nil) (some (mkFn Try.f37 [15,25])) (.node .nil (some (mkFn Try.f101 [])) .nil)) (some (mkFn Try.f21 [7])) (.node (.node .nil (some (mkFn Try.f85 [])) .nil) (some (mkFn Try.f53 [])) (.node .nil (some (mkFn Try.f117 [])) .nil))) (some (mkFn Try.f13 [])) (.node (.node (.node .nil (some (mkFn Try.f77 [21])) .nil) (some (mkFn Try.f45 [12])) (.node .nil (some (mkFn Try.f109 [])) .nil)) (some (mkFn Try.f29 [35,41,47,53,59,68,70,72,74,79,111,113,114,116,117,118,123,124,125,130,132,133,135,136,137])) (.node (.node .nil (some (mkFn Try.f93 [2])) .nil) (some (mkFn Try.f61 [1])) (.node .nil (some (mkFn Try.f125 [])) .nil)))))) none (.node (.node (.node (.node (.node (.node (.node .nil (some (mkFn Try.f128 [])) .nil) (some (mkFn Try.f64 [])) .nil) (some (mkFn Try.f32 [])) (.node .nil (some (mkFn Try.f96 [4,6,48,51])) .nil)) (some (mkFn Try.f16 [1])) (.node (.node .nil (some (mkFn Try.f80 [])) .nil) (some (mkFn Try.f48 [])) (.node .nil (some (mkFn Try.f112 [1])) .nil))) (some (mkFn Try.f8 [131189,131187,62,69,76,84,109])) (.node (.node (.node .nil (some (mkFn Try.f72 [])) .nil) (some (mkFn Try.f40 [11,23])) (.node .nil (some (mkFn Try.f104 [4,5])) .nil)) (some (mkFn Try.f24 [7,76,83])) (.node (.node .nil (some (mkFn Try.f88 [])) .nil) (some (mkFn Try.f56 [6])) (.node .nil (some (mkFn Try.f120 [])) .nil)))) (some (mkFn Try.f4 [3,4,5])) (.node (.node (.node (.node .nil (some (mkFn Try.f68 [2,3])) .nil) (some (mkFn Try.f36 [])) (.node .nil (some (mkFn Try.f100 [])) .nil)) (some (mkFn Try.f20 [1])) (.node (.node .nil (some (mkFn Try.f84 [2,3])) .nil) (some (mkFn Try.f52 [3])) (.node .nil (some (mkFn Try.f116 [])) .nil))) (some (mkFn Try.f12 [])) (.node (.node (.node .nil (some (mkFn Try.f76 [])) .nil) (some (mkFn Try.f44 [])) (.node .nil (some (mkFn Try.f108 [2,3])) .nil)) (some (mkFn Try.f28 [2,3])) (.node (.node .nil (some (mkFn Try.f92 [37])) .nil) (some (mkFn Try.f60 [])) (.node .nil (some (mkFn Try.f124 [])) .nil))))) none (.node (.node (.node (.node (.node (.node .nil (some (mkFn Try.f130 [])) .nil) (some (mkFn Try.f66 [])) .nil) (some (mkFn Try.f34 [])) (.node .nil (some (mkFn Try.f98 [])) .nil)) (some (mkFn Try.f18 [])) (.node (.node .nil (some (mkFn Try.f82 [])) .nil) (some (mkFn Try.f50 [])) (.node .nil (some (mkFn Try.f114 [4,5])) .nil))) (some (mkFn Try.f10 [])) (.node (.node (.node .nil (some (mkFn Try.f74 [3,4,5])) .nil) (some (mkFn Try.f42 [19,21,23,25,27,32,53,55,57,67,69,80,85,87,89,95,97,99,101,103,105,107,109,114,116,120,122,124,126,139,141,143,160,162,164,183])) (.node .nil (some (mkFn Try.f106 [])) .nil)) (some (mkFn Try.f26 [5,41,77])) (.node (.node .nil (some (mkFn Try.f90 [1])) .nil) (some (mkFn Try.f58 [14])) (.node .nil (some (mkFn Try.f122 [])) .nil)))) (some (mkFn Try.f6 [83,94])) (.node (.node (.node (.node .nil (some (mkFn Try.f70 [])) .nil) (some (mkFn Try.f38 [72])) (.node .nil (some (mkFn Try.f102 [131100,4,5,11])) .nil)) (some (mkFn Try.f22 [7,61,68,72])) (.node (.node .nil (some (mkFn Try.f86 [])) .nil) (some (mkFn Try.f54 [])) (.node .nil (some (mkFn Try.f118 [])) .nil))) (some (mkFn Try.f14 [])) (.node (.node (.node .nil (some (mkFn Try.f78 [34,44])) .nil) (some (mkFn Try.f46 [12])) (.node .nil (some (mkFn Try.f110 [])) .nil)) (some (mkFn Try.f30 [])) (.node (.node .nil (some (mkFn Try.f94 [2,3])) .nil) (some (mkFn Try.f62 [])) (.node .nil (some (mkFn Try.f126 [])) .nil)))))))
theorem Yo:EnvOK Try.prog Et:=envOK_of ⟨trivial,⟨trivial,⟨⟨by kernel_rfl,by kernel_rfl⟩,⟨trivial,⟨trivial,⟨trivial,trivial,⟨trivial,⟨⟨by kernel_rfl,by kernel_rfl⟩,trivial,trivial⟩,trivial⟩⟩,trivial⟩,⟨⟨by kernel_rfl,by kernel_rfl⟩,⟨⟨by kernel_rfl,by kernel_rfl⟩,trivial,⟨⟨by kernel_rfl,by kernel_rfl⟩,trivial,trivial⟩⟩,⟨trivial,⟨⟨by kernel_rfl,by kernel_rfl⟩,trivial,trivial⟩,trivial⟩⟩⟩,⟨trivial,⟨trivial,⟨trivial,trivial,⟨trivial,⟨⟨by kernel_rfl,by kernel_rfl⟩,trivial,trivial⟩,trivial⟩⟩,trivial⟩,⟨⟨by kernel_rfl,by kernel_rfl⟩,trivial,trivial⟩⟩⟩,⟨⟨by kernel_rfl,by kernel_rfl⟩,⟨⟨by kernel_rfl,by kernel_rfl⟩,⟨trivial,⟨trivial,⟨trivial,⟨⟨by kernel_rfl,by kernel_rfl⟩,trivial,trivial⟩,trivial⟩,⟨⟨by kernel_rfl,by kernel_rfl⟩,trivial,trivial⟩⟩,trivial⟩,⟨trivial,trivial,⟨trivial,trivial,⟨⟨by kernel_rfl,by kernel_rfl⟩,trivial,trivial⟩⟩⟩⟩,⟨trivial,⟨trivial,⟨trivial,⟨trivial,⟨⟨by kernel_rfl,by kernel_rfl⟩,trivial,trivial⟩,trivial⟩,⟨⟨by kernel_rfl,by kernel_rfl⟩,⟨⟨by kernel_rfl,by kernel_rfl⟩,trivial,trivial⟩,trivial⟩⟩,⟨trivial,⟨⟨by kernel_rfl,by kernel_rfl⟩,⟨⟨by kernel_rfl,by kernel_rfl⟩,trivial,trivial⟩,trivial⟩,trivial⟩⟩,⟨⟨by kernel_rfl,by kernel_rfl⟩,⟨trivial,⟨⟨by kernel_rfl,by kernel_rfl⟩,trivial,trivial⟩,⟨⟨by kernel_rfl,by kernel_rfl⟩,trivial,trivial⟩⟩,⟨trivial,trivial,⟨⟨by kernel_rfl,by kernel_rfl⟩,trivial,trivial⟩⟩⟩⟩⟩⟩,⟨⟨by kernel_rfl,by kernel_rfl⟩,⟨⟨by kernel_rfl,by kernel_rfl⟩,⟨trivial,⟨trivial,⟨trivial,trivial,⟨⟨by kernel_rfl,by kernel_rfl⟩,trivial,trivial⟩⟩,⟨trivial,⟨⟨by kernel_rfl,by kernel_rfl⟩,⟨⟨by kernel_rfl,by kernel_rfl⟩,trivial,trivial⟩,trivial⟩,trivial⟩⟩,⟨⟨by kernel_rfl,by kernel_rfl⟩,⟨trivial,⟨trivial,⟨⟨by kernel_rfl,by kernel_rfl⟩,trivial,trivial⟩,trivial⟩,trivial⟩,⟨trivial,trivial,⟨⟨by kernel_rfl,by kernel_rfl⟩,trivial,trivial⟩⟩⟩⟩,⟨trivial,⟨trivial,trivial,⟨⟨by kernel_rfl,by kernel_rfl⟩,trivial,trivial⟩⟩,⟨trivial,⟨trivial,⟨trivial,⟨⟨by kernel_rfl,by kernel_rfl⟩,trivial,trivial⟩,trivial⟩,trivial⟩,⟨trivial,⟨trivial,⟨⟨by kernel_rfl,by kernel_rfl⟩,trivial,trivial⟩,trivial⟩,trivial⟩⟩⟩⟩,⟨trivial,⟨trivial,⟨trivial,⟨trivial,trivial,⟨⟨by kernel_rfl,by kernel_rfl⟩,trivial,trivial⟩⟩,⟨⟨by kernel_rfl,by kernel_rfl⟩,⟨⟨by kernel_rfl,by kernel_rfl⟩,trivial,trivial⟩,trivial⟩⟩,⟨trivial,trivial,⟨trivial,⟨⟨by kernel_rfl,by kernel_rfl⟩,trivial,trivial⟩,trivial⟩⟩⟩,⟨trivial,⟨⟨by kernel_rfl,by kernel_rfl⟩,⟨trivial,⟨trivial,⟨⟨by kernel_rfl,by kernel_rfl⟩,trivial,trivial⟩,trivial⟩,trivial⟩,trivial⟩,⟨⟨by kernel_rfl,by kernel_rfl⟩,⟨trivial,trivial,⟨⟨by kernel_rfl,by kernel_rfl⟩,trivial,trivial⟩⟩,⟨trivial,⟨⟨by kernel_rfl,by kernel_rfl⟩,⟨⟨by kernel_rfl,by kernel_rfl⟩,trivial,trivial⟩,trivial⟩,trivial⟩⟩⟩⟩⟩⟩
theorem Ft_ok:FnsOK Try.prog Ft.get?:=fnsOK_of ⟨trivial,⟨trivial,⟨(fnAt Try.func3 (by kernel_rfl) (by kernel_rfl)),⟨(fnAt Try.func7 (by kernel_rfl) (by kernel_rfl)),⟨(fnAt Try.func15 (by kernel_rfl) (by kernel_rfl)),⟨(fnAt Try.func31 (by kernel_rfl) (by kernel_rfl)),⟨(fnAt Try.func63 (by kernel_rfl) (by kernel_rfl)),⟨(fnAt Try.func127 (by kernel_rfl) (by kernel_rfl)),trivial,trivial⟩,trivial⟩,⟨(fnAt Try.func95 (by kernel_rfl) (by kernel_rfl)),trivial,trivial⟩⟩,⟨(fnAt Try.func47 (by kernel_rfl) (by kernel_rfl)),⟨(fnAt Try.func79 (by kernel_rfl) (by kernel_rfl)),trivial,trivial⟩,⟨(fnAt Try.func111 (by kernel_rfl) (by kernel_rfl)),trivial,trivial⟩⟩⟩,⟨(fnAt Try.func23 (by kernel_rfl) (by kernel_rfl)),⟨(fnAt Try.func39 (by kernel_rfl) (by kernel_rfl)),⟨(fnAt Try.func71 (by kernel_rfl) (by kernel_rfl)),trivial,trivial⟩,⟨(fnAt Try.func103 (by kernel_rfl) (by kernel_rfl)),trivial,trivial⟩⟩,⟨(fnAt Try.func55 (by kernel_rfl) (by kernel_rfl)),⟨(fnAt Try.func87 (by kernel_rfl) (by kernel_rfl)),trivial,trivial⟩,⟨(fnAt Try.func119 (by kernel_rfl) (by kernel_rfl)),trivial,trivial⟩⟩⟩⟩,⟨(fnAt Try.func11 (by kernel_rfl) (by kernel_rfl)),⟨(fnAt Try.func19 (by kernel_rfl) (by kernel_rfl)),⟨(fnAt Try.func35 (by kernel_rfl) (by kernel_rfl)),⟨(fnAt Try.func67 (by kernel_rfl) (by kernel_rfl)),⟨(fnAt Try.func131 (by kernel_rfl) (by kernel_rfl)),trivial,trivial⟩,trivial⟩,⟨(fnAt Try.func99 (by kernel_rfl) (by kernel_rfl)),trivial,trivial⟩⟩,⟨(fnAt Try.func51 (by kernel_rfl) (by kernel_rfl)),⟨(fnAt Try.func83 (by kernel_rfl) (by kernel_rfl)),trivial,trivial⟩,⟨(fnAt Try.func115 (by kernel_rfl) (by kernel_rfl)),trivial,trivial⟩⟩⟩,⟨(fnAt Try.func27 (by kernel_rfl) (by kernel_rfl)),⟨(fnAt Try.func43 (by kernel_rfl) (by kernel_rfl)),⟨(fnAt Try.func75 (by kernel_rfl) (by kernel_rfl)),trivial,trivial⟩,⟨(fnAt Try.func107 (by kernel_rfl) (by kernel_rfl)),trivial,trivial⟩⟩,⟨(fnAt Try.func59 (by kernel_rfl) (by kernel_rfl)),⟨(fnAt Try.func91 (by kernel_rfl) (by kernel_rfl)),trivial,trivial⟩,⟨(fnAt Try.func123 (by kernel_rfl) (by kernel_rfl)),trivial,trivial⟩⟩⟩⟩⟩,⟨(fnAt Try.func5 (by kernel_rfl) (by kernel_rfl)),⟨(fnAt Try.func9 (by kernel_rfl) (by kernel_rfl)),⟨(fnAt Try.func17 (by kernel_rfl) (by kernel_rfl)),⟨(fnAt Try.func33 (by kernel_rfl) (by kernel_rfl)),⟨(fnAt Try.func65 (by kernel_rfl) (by kernel_rfl)),⟨(fnAt Try.func129 (by kernel_rfl) (by kernel_rfl)),trivial,trivial⟩,trivial⟩,⟨(fnAt Try.func97 (by kernel_rfl) (by kernel_rfl)),trivial,trivial⟩⟩,⟨(fnAt Try.func49 (by kernel_rfl) (by kernel_rfl)),⟨(fnAt Try.func81 (by kernel_rfl) (by kernel_rfl)),trivial,trivial⟩,⟨(fnAt Try.func113 (by kernel_rfl) (by kernel_rfl)),trivial,trivial⟩⟩⟩,⟨(fnAt Try.func25 (by kernel_rfl) (by kernel_rfl)),⟨(fnAt Try.func41 (by kernel_rfl) (by kernel_rfl)),⟨(fnAt Try.func73 (by kernel_rfl) (by kernel_rfl)),trivial,trivial⟩,⟨(fnAt Try.func105 (by kernel_rfl) (by kernel_rfl)),trivial,trivial⟩⟩,⟨(fnAt Try.func57 (by kernel_rfl) (by kernel_rfl)),⟨(fnAt Try.func89 (by kernel_rfl) (by kernel_rfl)),trivial,trivial⟩,⟨(fnAt Try.func121 (by kernel_rfl) (by kernel_rfl)),trivial,trivial⟩⟩⟩⟩,⟨(fnAt Try.func13 (by kernel_rfl) (by kernel_rfl)),⟨(fnAt Try.func21 (by kernel_rfl) (by kernel_rfl)),⟨(fnAt Try.func37 (by kernel_rfl) (by kernel_rfl)),⟨(fnAt Try.func69 (by kernel_rfl) (by kernel_rfl)),trivial,trivial⟩,⟨(fnAt Try.func101 (by kernel_rfl) (by kernel_rfl)),trivial,trivial⟩⟩,⟨(fnAt Try.func53 (by kernel_rfl) (by kernel_rfl)),⟨(fnAt Try.func85 (by kernel_rfl) (by kernel_rfl)),trivial,trivial⟩,⟨(fnAt Try.func117 (by kernel_rfl) (by kernel_rfl)),trivial,trivial⟩⟩⟩,⟨(fnAt Try.func29 (by kernel_rfl) (by kernel_rfl)),⟨(fnAt Try.func45 (by kernel_rfl) (by kernel_rfl)),⟨(fnAt Try.func77 (by kernel_rfl) (by kernel_rfl)),trivial,trivial⟩,⟨(fnAt Try.func109 (by kernel_rfl) (by kernel_rfl)),trivial,trivial⟩⟩,⟨(fnAt Try.func61 (by kernel_rfl) (by kernel_rfl)),⟨(fnAt Try.func93 (by kernel_rfl) (by kernel_rfl)),trivial,trivial⟩,⟨(fnAt Try.func125 (by kernel_rfl) (by kernel_rfl)),trivial,trivial⟩⟩⟩⟩⟩⟩,⟨trivial,⟨(fnAt Try.func4 (by kernel_rfl) (by kernel_rfl)),⟨(fnAt Try.func8 (by kernel_rfl) (by kernel_rfl)),⟨(fnAt Try.func16 (by kernel_rfl) (by kernel_rfl)),⟨(fnAt Try.func32 (by kernel_rfl) (by kernel_rfl)),⟨(fnAt Try.func64 (by kernel_rfl) (by kernel_rfl)),⟨(fnAt Try.func128 (by kernel_rfl) (by kernel_rfl)),trivial,trivial⟩,trivial⟩,⟨(fnAt Try.func96 (by kernel_rfl) (by kernel_rfl)),trivial,trivial⟩⟩,⟨(fnAt Try.func48 (by kernel_rfl) (by kernel_rfl)),⟨(fnAt Try.func80 (by kernel_rfl) (by kernel_rfl)),trivial,trivial⟩,⟨(fnAt Try.func112 (by kernel_rfl) (by kernel_rfl)),trivial,trivial⟩⟩⟩,⟨(fnAt Try.func24 (by kernel_rfl) (by kernel_rfl)),⟨(fnAt Try.func40 (by kernel_rfl) (by kernel_rfl)),⟨(fnAt Try.func72 (by kernel_rfl) (by kernel_rfl)),trivial,trivial⟩,⟨(fnAt Try.func104 (by kernel_rfl) (by kernel_rfl)),trivial,trivial⟩⟩,⟨(fnAt Try.func56 (by kernel_rfl) (by kernel_rfl)),⟨(fnAt Try.func88 (by kernel_rfl) (by kernel_rfl)),trivial,trivial⟩,⟨(fnAt Try.func120 (by kernel_rfl) (by kernel_rfl)),trivial,trivial⟩⟩⟩⟩,⟨(fnAt Try.func12 (by kernel_rfl) (by kernel_rfl)),⟨(fnAt Try.func20 (by kernel_rfl) (by kernel_rfl)),⟨(fnAt Try.func36 (by kernel_rfl) (by kernel_rfl)),⟨(fnAt Try.func68 (by kernel_rfl) (by kernel_rfl)),trivial,trivial⟩,⟨(fnAt Try.func100 (by kernel_rfl) (by kernel_rfl)),trivial,trivial⟩⟩,⟨(fnAt Try.func52 (by kernel_rfl) (by kernel_rfl)),⟨(fnAt Try.func84 (by kernel_rfl) (by kernel_rfl)),trivial,trivial⟩,⟨(fnAt Try.func116 (by kernel_rfl) (by kernel_rfl)),trivial,trivial⟩⟩⟩,⟨(fnAt Try.func28 (by kernel_rfl) (by kernel_rfl)),⟨(fnAt Try.func44 (by kernel_rfl) (by kernel_rfl)),⟨(fnAt Try.func76 (by kernel_rfl) (by kernel_rfl)),trivial,trivial⟩,⟨(fnAt Try.func108 (by kernel_rfl) (by kernel_rfl)),trivial,trivial⟩⟩,⟨(fnAt Try.func60 (by kernel_rfl) (by kernel_rfl)),⟨(fnAt Try.func92 (by kernel_rfl) (by kernel_rfl)),trivial,trivial⟩,⟨(fnAt Try.func124 (by kernel_rfl) (by kernel_rfl)),trivial,trivial⟩⟩⟩⟩⟩,⟨(fnAt Try.func6 (by kernel_rfl) (by kernel_rfl)),⟨(fnAt Try.func10 (by kernel_rfl) (by kernel_rfl)),⟨(fnAt Try.func18 (by kernel_rfl) (by kernel_rfl)),⟨(fnAt Try.func34 (by kernel_rfl) (by kernel_rfl)),⟨(fnAt Try.func66 (by kernel_rfl) (by kernel_rfl)),⟨(fnAt Try.func130 (by kernel_rfl) (by kernel_rfl)),trivial,trivial⟩,trivial⟩,⟨(fnAt Try.func98 (by kernel_rfl) (by kernel_rfl)),trivial,trivial⟩⟩,⟨(fnAt Try.func50 (by kernel_rfl) (by kernel_rfl)),⟨(fnAt Try.func82 (by kernel_rfl) (by kernel_rfl)),trivial,trivial⟩,⟨(fnAt Try.func114 (by kernel_rfl) (by kernel_rfl)),trivial,trivial⟩⟩⟩,⟨(fnAt Try.func26 (by kernel_rfl) (by kernel_rfl)),⟨(fnAt Try.func42 (by kernel_rfl) (by kernel_rfl)),⟨(fnAt Try.func74 (by kernel_rfl) (by kernel_rfl)),trivial,trivial⟩,⟨(fnAt Try.func106 (by kernel_rfl) (by kernel_rfl)),trivial,trivial⟩⟩,⟨(fnAt Try.func58 (by kernel_rfl) (by kernel_rfl)),⟨(fnAt Try.func90 (by kernel_rfl) (by kernel_rfl)),trivial,trivial⟩,⟨(fnAt Try.func122 (by kernel_rfl) (by kernel_rfl)),trivial,trivial⟩⟩⟩⟩,⟨(fnAt Try.func14 (by kernel_rfl) (by kernel_rfl)),⟨(fnAt Try.func22 (by kernel_rfl) (by kernel_rfl)),⟨(fnAt Try.func38 (by kernel_rfl) (by kernel_rfl)),⟨(fnAt Try.func70 (by kernel_rfl) (by kernel_rfl)),trivial,trivial⟩,⟨(fnAt Try.func102 (by kernel_rfl) (by kernel_rfl)),trivial,trivial⟩⟩,⟨(fnAt Try.func54 (by kernel_rfl) (by kernel_rfl)),⟨(fnAt Try.func86 (by kernel_rfl) (by kernel_rfl)),trivial,trivial⟩,⟨(fnAt Try.func118 (by kernel_rfl) (by kernel_rfl)),trivial,trivial⟩⟩⟩,⟨(fnAt Try.func30 (by kernel_rfl) (by kernel_rfl)),⟨(fnAt Try.func46 (by kernel_rfl) (by kernel_rfl)),⟨(fnAt Try.func78 (by kernel_rfl) (by kernel_rfl)),trivial,trivial⟩,⟨(fnAt Try.func110 (by kernel_rfl) (by kernel_rfl)),trivial,trivial⟩⟩,⟨(fnAt Try.func62 (by kernel_rfl) (by kernel_rfl)),⟨(fnAt Try.func94 (by kernel_rfl) (by kernel_rfl)),trivial,trivial⟩,⟨(fnAt Try.func126 (by kernel_rfl) (by kernel_rfl)),trivial,trivial⟩⟩⟩⟩⟩⟩⟩
end Go.Av
noncomputable section
namespace Go.Av
open Go Go.Proofs
def Fz (_:List Nat):Prop:=True
section
variable {frz:List Nat} {nt m:Nat} {ro':Option Nat} {K:Ex->S->Prop} {ops:Array Oper} {l:List Oper} {o:Oper} {tm tm' tm1 tm0:PT AV} {objs objs':List Ob} {dl:List Dl} {b:Bool} {ob:Option (List Ob)} {fl:Bool} {s s0:S} {i:Nat} {acc:List Eff} {G:S->Prop} {P A B X Y Q:Prop} {g:FuncId} {ds:List DV} {r:AV}
theorem oXw (_:Fz frz) {v v':AV} (k:RunOps Try.prog nt m ro' ops l ⟨tm',objs',dl⟩ K) (hg:guardA ops (rd tm) o=some true:=by rfl) (hv:evAny Et H0 frz (rd tm) objs o=some (v',ob,fl):=by rfl) (hf:fl=true:=by rfl)
  (he:v'=v:=by first|(conv=>lhs;dsimp only)|rfl) (ho:ob.getD objs=objs':=by first|(conv=>lhs;dsimp only [Option.getD])|rfl) (hp:isPan v=false:=by rfl) (ht:setD nt tm o.dst v=some tm':=by rfl) :
  RunOps Try.prog nt m ro' ops (o :: l) ⟨tm,objs,dl⟩ K:=RunOps.x Yo hg hv hf he ho hp ht k
theorem oXn (_:Fz frz) {v v':AV} (k:RunOps Try.prog nt m ro' ops l ⟨tm',objs',dl⟩ K) (_:boolOp o.op=false:=by rfl) (hg:guardA ops (rd tm) o=some true:=by rfl) (hv:evAny Et H0 frz (rd tm) objs o=some (v',ob,fl):=by rfl) (hf:fl=true:=by rfl)
  (he:v'=v:=by first|(conv=>lhs;dsimp only)|rfl) (ho:ob.getD objs=objs':=by first|(conv=>lhs;dsimp only [Option.getD])|rfl) (hp:isPan v=false:=by rfl) (ht:setD nt tm o.dst v=some tm':=by rfl) :
  RunOps Try.prog nt m ro' ops (o :: l) ⟨tm,objs,dl⟩ K:=RunOps.x Yo hg hv hf he ho hp ht k
theorem eXn {v v':AV} (k:EvD Try.prog Et frz nt ops s0 (i+1) (acc++[effOf (rd tm) objs o ob]) l ⟨tm',objs',dl⟩ G) (_:boolOp o.op=false:=by rfl) (hg:guardA ops (rd tm) o=some true:=by rfl) (hv:evAny Et H0 frz (rd tm) objs o=some (v',ob,fl):=by rfl) (hf:fl=true:=by rfl)
  (he:v'=v:=by first|(conv=>lhs;dsimp only)|rfl) (ho:ob.getD objs=objs':=by first|(conv=>lhs;dsimp only [Option.getD])|rfl) (hp:isPan v=false:=by rfl) (ht:setD nt tm o.dst v=some tm':=by rfl) :
  EvD Try.prog Et frz nt ops s0 i acc (o :: l) ⟨tm,objs,dl⟩ G:=EvD.x hg hv hf he ho hp ht k
theorem oBw (_:Fz frz) (k1:b=true->RunOps Try.prog nt m ro' ops l ⟨tm1,objs',dl⟩ K) (k0:b=false->RunOps Try.prog nt m ro' ops l ⟨tm0,objs',dl⟩ K) (hb:boolOp o.op=true:=by rfl) (hg:guardA ops (rd tm) o=some true:=by rfl)
  (hv:evAny Et H0 frz (rd tm) objs o=some (.d (.bool b),ob,fl):=by rfl) (hf:fl=true:=by rfl) (ho:ob.getD objs=objs':=by first|(conv=>lhs;dsimp only [Option.getD])|rfl) (ht1:setD nt tm o.dst (.d (.bool true))=some tm1:=by rfl) (ht0:setD nt tm o.dst (.d (.bool false))=some tm0:=by rfl) :
  RunOps Try.prog nt m ro' ops (o :: l) ⟨tm,objs,dl⟩ K:=RunOps.xb Yo hb hg hv hf ho ht1 ht0 k1 k0
theorem dW (_:Fz frz) {id:Nat} (h:EvD Try.prog Et frz nt ops s 0 [] ops.toList s (fun s'=>K .normal s')):Run Try.prog nt m ro' (.region id ops true) s K:=Yd Yo (by kernel_rfl) h
theorem gD {α:Type} (l:List α) (i:Nat) (d:α):l.getD i d=l[i]?.getD d:=List.getD_eq_getElem?_getD
theorem ti {k:Nat} (l:List (Nat × AV)) (n:Nat) (ho:objs.take n=objs':=by rfl) (hn:Nat.ble k n=true:=by rfl) (h:allTidy tm l:=by repeat' (first|exact trivial|refine⟨(Or.inl rfl),?_⟩|refine⟨(Or.inr rfl),?_⟩|refine⟨(Or.inl (inc_get (by kernel_rfl) (by omega))),?_⟩|fail))
  (hl:allQ (refA 8 n) l:=by repeat' (first|exact trivial|refine⟨rfl,?_⟩|fail)) (hr:objs'.all (refOb n)=true:=by rfl) (hd:dl.all (refDl n)=true:=by rfl):Tidy k ⟨tm,objs,dl⟩ ⟨PT.ofList l,objs',dl⟩:=tidy_of l n ho hn h hl hr hd
theorem oV (k:RunOps Try.prog nt m ro' ops l ⟨tm',objs',dl⟩ K) {v v':AV} (_:Fz frz:=by assumption) (hg:guardA ops (rd tm) o=some true:=by rfl) (hv:evAny Et H0 frz (rd tm) objs o=some (v',ob,fl):=by rfl) (hf:fl=true:=by rfl)
  (he:v'=v:=by first|(conv=>lhs;dsimp only)|rfl) (ho:ob.getD objs=objs':=by first|(conv=>lhs;dsimp only [Option.getD])|rfl) (hp:isPan v=false:=by rfl) (ht:setD nt tm o.dst v=some tm':=by rfl) :
  RunOps Try.prog nt m ro' ops (o :: l) ⟨tm,objs,dl⟩ K:=RunOps.x Yo hg hv hf he ho hp ht k
theorem kF {n:Nat} {f:Func} {ds:List DV} {r:AV} (h1:Try.prog.funcs[n]?=some f) (l:List Nat) (h:Fz l->Run Try.prog (mkFn f l).nt 0 none (mkFn f l).body ⟨initTm 0 (ds.map .d) .nil,[],[]⟩ (EndK Et (mkFn f l).results r)) (h2:f.body.isSome=true:=by kernel_rfl)
  (h3:(f.name == "runtime.NumGoroutine")=false:=by kernel_rfl) (h4:xk l=none:=by rfl) (hlen:(ds.map AV.d).length=(mkFn f l).np:=by rfl) (hle:Nat.ble (mkFn f l).np (mkFn f l).nt=true:=by rfl):KnownCall Try.prog n ds r:=knownE Yo (fnAt h1 h2 h3 h4) (h trivial) hlen hle
theorem zX (q:Q) (h:Q->P:=by intro q;first|exact oXw (by assumption) q|exact eX q):P:=h q
theorem zW (q:Q) (h:Q->P:=by intro q;first|exact Yg q|exact Yq q|exact oXn (by assumption) q|exact oS q|exact Yn q|exact Yk q|exact cT q|exact cF q|exact Yb q|exact Ye q|exact dW (by assumption) q|exact eXn q|exact eS q|exact eN q|(refine Yt ?_;first|exact rB q|exact rI q|exact rA q|exact rII q|exact rSI q|exact rT q|exact rS q)):P:=h q
theorem zS (q:Q) (h:Q->P:=by intro q;first|exact Yq q|exact Yg q|exact Yn q|exact Yk q|exact cT q|exact cF q|exact Yb q|exact Ye q):P:=h q
theorem zA (q:Q) (h:Q->P:=by intro q;first|exact oXw (by assumption) q|exact oS q|exact Yn q|exact Yg q|exact Yq q|exact Yk q|exact Yb q|exact Ye q|exact dW (by assumption) q|exact eX q|exact eS q|exact eN q):P:=h q
theorem zB (x:A->X) (y:B->Y) (h:(A->X)->(B->Y)->P:=by intro x y;first|exact oBw (by assumption) x y|exact eB x y):P:=h x y
def Vx (_:AV):Prop:=True
theorem oVw (_:Fz frz) {v v':AV} (he:v'=v) (k:RunOps Try.prog nt m ro' ops l ⟨tm',objs',dl⟩ K) (hg:guardA ops (rd tm) o=some true:=by rfl) (hv:evAny Et H0 frz (rd tm) objs o=some (v',ob,fl):=by rfl) (hf:fl=true:=by rfl) (ho:ob.getD objs=objs':=by first|(conv=>lhs;dsimp only [Option.getD])|rfl) (hp:isPan v=false:=by rfl) (ht:setD nt tm o.dst v=some tm':=by rfl) :
  RunOps Try.prog nt m ro' ops (o :: l) ⟨tm,objs,dl⟩ K:=RunOps.x Yo hg hv hf he ho hp ht k
theorem eVw {v v':AV} (he:v'=v) (k:EvD Try.prog Et frz nt ops s0 (i+1) (acc++[effOf (rd tm) objs o ob]) l ⟨tm',objs',dl⟩ G) (hg:guardA ops (rd tm) o=some true:=by rfl) (hv:evAny Et H0 frz (rd tm) objs o=some (v',ob,fl):=by rfl) (hf:fl=true:=by rfl) (ho:ob.getD objs=objs':=by first|(conv=>lhs;dsimp only [Option.getD])|rfl) (hp:isPan v=false:=by rfl) (ht:setD nt tm o.dst v=some tm':=by rfl) :
  EvD Try.prog Et frz nt ops s0 i acc (o :: l) ⟨tm,objs,dl⟩ G:=EvD.x hg hv hf he ho hp ht k
theorem oIv (_:Fz frz) {v v':AV} (_:Vx v) (k:RunOps Try.prog nt m ro' ops l ⟨tm',objs',dl⟩ K) (hg:guardA ops (rd tm) o=some true:=by rfl) (hv:evAny Et H0 frz (rd tm) objs o=some (v',ob,fl):=by rfl) (he:v'=v) (hf:fl=true:=by first|(simp [inB]<;>fail)|(simp [inB];omega)) (ho:ob.getD objs=objs':=by first|(conv=>lhs;dsimp only [Option.getD])|rfl) (hp:isPan v=false:=by rfl) (ht:setD nt tm o.dst v=some tm':=by rfl) :
  RunOps Try.prog nt m ro' ops (o :: l) ⟨tm,objs,dl⟩ K:=RunOps.x Yo hg hv hf he ho hp ht k
theorem eIv {v v':AV} (_:Vx v) (k:EvD Try.prog Et frz nt ops s0 (i+1) (acc++[effOf (rd tm) objs o ob]) l ⟨tm',objs',dl⟩ G) (hg:guardA ops (rd tm) o=some true:=by rfl) (hv:evAny Et H0 frz (rd tm) objs o=some (v',ob,fl):=by rfl) (he:v'=v) (hf:fl=true:=by first|(simp [inB]<;>fail)|(simp [inB];omega)) (ho:ob.getD objs=objs':=by first|(conv=>lhs;dsimp only [Option.getD])|rfl) (hp:isPan v=false:=by rfl) (ht:setD nt tm o.dst v=some tm':=by rfl) :
  EvD Try.prog Et frz nt ops s0 i acc (o :: l) ⟨tm,objs,dl⟩ G:=EvD.x hg hv hf he ho hp ht k
theorem zAp (q:Q) (h:Q->P:=by intro q;first|exact oXw (by assumption) q (hv:=app1) (hf:=rfl) (he:=rfl)|exact eX q (hv:=app1) (hf:=rfl) (he:=rfl)|exact oXw (by assumption) q (hv:=app0) (hf:=rfl) (he:=rfl)|exact eX q (hv:=app0) (hf:=rfl) (he:=rfl)):P:=h q
theorem zV {v v':AV} (he:v'=v) (q:Q) (h:v'=v->Q->P:=by intro e q;first|exact oVw (by assumption) e q|exact eVw e q):P:=h he q
theorem zI {F:Prop} (w:Fz frz) (v:AV) (f:F) (q:Q) (h:Fz frz->Vx v->F->Q->P:=by intro w x f q;first|exact oIv w x q (he:=by first|(simp [gD,cellsD,f]<;>fail)|fail)|exact eIv x q (he:=by first|(simp [gD,cellsD,f]<;>fail)|fail)):P:=h w trivial f q
theorem zk (a:A) (h:A->P:=by intro h;exfalso;simp at h;first|done|omega):P:=h a
theorem zC (c:KnownCall Try.prog g ds r) (q:Q) (h:KnownCall Try.prog g ds r->Q->P:=by intro c q;first|exact oC c q|exact eC c q):P:=h c q
theorem zK (c:KnownCall Try.prog g ds (.d (.bool b))) (x:A->X) (y:B->Y) (h:KnownCall Try.prog g ds (.d (.bool b))->(A->X)->(B->Y)->P:=by intro c x y;first|exact oK c x y|exact eK c x y):P:=h c x y
theorem zL (c:KnownCall Try.prog g ds r) (q:Q) (h:KnownCall Try.prog g ds r->Q->P:=by intro c q;first|exact oL c q|exact eL c q):P:=h c q
theorem zM (c:KnownCall Try.prog g ds r) (q:Q) (h:KnownCall Try.prog g ds r->Q->P:=by intro c q;first|exact oL c q|exact eL c q|exact oM c q|exact eM c q):P:=h c q
theorem fnB {n:Nat} {f:Func} (h1:Try.prog.funcs[n]?=some f) (l:List Nat) (h2:f.body.isSome=true:=by kernel_rfl) (h3:(f.name == "runtime.NumGoroutine")=false:=by kernel_rfl) (h4:xk l=none:=by rfl):FnAt Try.prog n (mkFn f l):=fnAt h1 h2 h3 h4
end
set_option maxRecDepth 10000
theorem get_ok {α:Type} {l:List α} {i:Nat} (h:i<l.length):∃ x,l[i]?=some x:=⟨l[i],by simp [h]⟩
abbrev nI (n:Nat):DV:=.int .i64 (n:Nat)
@[simp] theorem cellsD_nI (n:Nat):cellsD (nI n)=[nI n]:=rfl
abbrev nats (l:List Nat):DV:=.sl 1 (l.map nI)
abbrev lkC (l:List Nat):List DV:=[nI l.length,nI (l.getD 0 0),nI (l.getD 1 0),nI (l.getD 2 0),nI (l.getD 3 0)]
abbrev lk (l:List Nat):DV:=.agg (lkC l)
abbrev lks (L:List (List Nat)):DV:=.sl 5 (L.map lk)
structure Rt (l:List Nat):Prop where
 len:l.length<=4
 lt:∀ x ∈ l,x<8
theorem ofK (l:List Nat) (h:l.length<=4):KnownCall Try.prog 105 [nats l] (.d (lk l)):=by
 match l,h with
 |[],_ =>
  refine kF Try.func105 [] fun w=>?_
  repeat' (first|refine zW ?_|refine zB ?_ ?_<;>intro h<;>try exact zk h|refine zX ?_|rfl|fail)
 |[a],_ =>
  refine kF Try.func105 [] fun w=>?_
  repeat' (first|refine zW ?_|refine zB ?_ ?_<;>intro h<;>try exact zk h|refine zX ?_|rfl|fail)
 |[a,b],_ =>
  refine kF Try.func105 [] fun w=>?_
  repeat' (first|refine zW ?_|refine zB ?_ ?_<;>intro h<;>try exact zk h|refine zX ?_|rfl|fail)
 |[a,b,c],_ =>
  refine kF Try.func105 [] fun w=>?_
  repeat' (first|refine zW ?_|refine zB ?_ ?_<;>intro h<;>try exact zk h|refine zX ?_|rfl|fail)
 |[a,b,c,d],_ =>
  refine kF Try.func105 [] fun w=>?_
  repeat' (first|refine zW ?_|refine zB ?_ ?_<;>intro h<;>try exact zk h|refine zX ?_|rfl|fail)
theorem ofK5 (a b c d e:Nat) (r:List Nat):KnownCall Try.prog 105 [nats (a :: b :: c :: d :: e :: r)] (.d (lk [a,b,c,d])):=by
 refine kF Try.func105 [] fun w=>?_
 repeat' (first|refine zW ?_|refine zB ?_ ?_<;>intro h<;>try exact zk h|refine zX ?_|rfl|fail)
theorem of4 (l:List Nat):KnownCall Try.prog 105 [nats l] (.d (lk (l.take 4))):=by
 match l with
 |[]=>exact ofK [] (by simp)
 |[a]=>exact ofK [a] (by simp)
 |[a,b]=>exact ofK [a,b] (by simp)
 |[a,b,c]=>exact ofK [a,b,c] (by simp)
 |[a,b,c,d]=>exact ofK [a,b,c,d] (by simp)
 |a :: b :: c :: d :: e :: r=>exact ofK5 a b c d e r
section
variable {frz:List Nat} {nt m:Nat} {ro':Option Nat} {K:Ex->S->Prop} {ops:Array Oper} {l:List Oper} {o:Oper} {tm tm':PT AV} {objs objs':List Ob} {dl:List Dl} {ob:Option (List Ob)} {fl:Bool} {s0:S} {i:Nat} {acc:List Eff} {G:S->Prop} {P Q:Prop}
theorem flag4 {i:Nat} (h:i<4):(inB (i:Int) 4 && Nat.ble ((i:Int).toNat*1) 4)=true:=by
 simp [inB,Nat.ble_eq];omega
theorem oCw (_:Fz frz) {v v':AV} (he:v'=v) (k:RunOps Try.prog nt m ro' ops l ⟨tm',objs',dl⟩ K) (hg:guardA ops (rd tm) o=some true:=by rfl) (hv:evAny Et H0 frz (rd tm) objs o=some (v',ob,fl):=by rfl) (hf:fl=true:=by first|(simp [cutC,inB,maxC]<;>fail)|(simp [cutC,inB,maxC];omega)|exact flag4 (by omega)|fail) (ho:ob.getD objs=objs':=by first|(conv=>lhs;dsimp only [Option.getD])|rfl) (hp:isPan v=false:=by rfl) (ht:setD nt tm o.dst v=some tm':=by rfl) :
  RunOps Try.prog nt m ro' ops (o :: l) ⟨tm,objs,dl⟩ K:=RunOps.x Yo hg hv hf he ho hp ht k
theorem eCw {v v':AV} (he:v'=v) (k:EvD Try.prog Et frz nt ops s0 (i+1) (acc++[effOf (rd tm) objs o ob]) l ⟨tm',objs',dl⟩ G) (hg:guardA ops (rd tm) o=some true:=by rfl) (hv:evAny Et H0 frz (rd tm) objs o=some (v',ob,fl):=by rfl) (hf:fl=true:=by first|(simp [cutC,inB,maxC]<;>fail)|(simp [cutC,inB,maxC];omega)|exact flag4 (by omega)|fail) (ho:ob.getD objs=objs':=by first|(conv=>lhs;dsimp only [Option.getD])|rfl) (hp:isPan v=false:=by rfl) (ht:setD nt tm o.dst v=some tm':=by rfl) :
  EvD Try.prog Et frz nt ops s0 i acc (o :: l) ⟨tm,objs,dl⟩ G:=EvD.x hg hv hf he ho hp ht k
theorem zCut {v v':AV} (he:v'=v) (q:Q) (h:v'=v->Q->P:=by intro e q;first|exact oCw (by assumption) e q|exact eCw e q):P:=h he q
end
theorem cut4 (l:List Nat) (hl:l.length<=4) (n:Nat) (hn:n<=l.length):AV.d (.sl 1 (cutL none (some (n:Int)) [nI (l.getD 0 0),nI (l.getD 1 0),nI (l.getD 2 0),nI (l.getD 3 0)]))=.d (nats (l.take n)):=by
 congr 2
 simp only [cutL,Option.getD,Int.toNat_natCast,Int.toNat_zero,List.drop_zero]
 match l,hl,n,hn with
 |[],_,0,_=>rfl
 |[a],_,0,_=>rfl
 |[a],_,1,_=>rfl
 |[a,b],_,0,_=>rfl
 |[a,b],_,1,_=>rfl
 |[a,b],_,2,_=>rfl
 |[a,b,c],_,0,_=>rfl
 |[a,b,c],_,1,_=>rfl
 |[a,b,c],_,2,_=>rfl
 |[a,b,c],_,3,_=>rfl
 |[a,b,c,d],_,0,_=>rfl
 |[a,b,c,d],_,1,_=>rfl
 |[a,b,c,d],_,2,_=>rfl
 |[a,b,c,d],_,3,_=>rfl
 |[a,b,c,d],_,4,_=>rfl
theorem cut4' (l:List Nat) (hl:l.length<=4):AV.d (.sl 1 (cutL none (some (l.length:Int)) [nI (l.getD 0 0),nI (l.getD 1 0),nI (l.getD 2 0),nI (l.getD 3 0)]))=.d (nats l):=by
 have:=cut4 l hl l.length (Nat.le_refl _)
 rwa [List.take_length] at this
def chkL (l:List Nat) (terms:Int):Int:=if terms<1 then 2 else if 8<terms then 2 else if l.all (fun x=>decide ((x:Int)<terms)) then 0 else 14
theorem cutK (l:List Nat) (hl:l.length<=4) (k:Nat):KnownCall Try.prog 111 [lk l,nI k] (.d (lk (l.take k))):=by
 have hm:AV.d (.int .i64 (if(k:Int)<(l.length:Int) then(k:Int) else(l.length:Int)))=.d (nI (min k l.length)):=by
  congr 2;split<;>omega
 have h4:=cut4 l hl (min k l.length) (by omega);rw [show l.take (min k l.length)=l.take k by
  rcases Nat.le_total k l.length with h|h
  .rw [Nat.min_eq_left h]
  .rw [Nat.min_eq_right h,List.take_length,List.take_of_length_le h]] at h4
 have hk:=ofK (l.take k) (by rw [List.length_take];omega);refine kF Try.func111 [2] fun w=>?_
 repeat' (first|refine zV hm ?_|refine zW ?_|refine zB ?_ ?_<;>intro h<;>try exact zk h|refine zX ?_|refine zCut h4 ?_|refine zK (hk) ?_ ?_<;>intro h<;>try exact zk h|refine zC (hk) ?_|rfl|fail)
theorem checkK (l:List Nat) (hl:l.length<=4) (terms:Int):KnownCall Try.prog 89 [lk l,.int .i64 terms] (.d (.int .i64 (chkL l terms))):=by
 have h4:=cut4' l hl;refine kF Try.func89 [2] fun w=>?_
 repeat' (first|refine zW ?_|refine zB ?_ ?_<;>intro h<;>try exact zk h|refine zX ?_|refine zCut h4 ?_|refine zK (ofK l hl) ?_ ?_<;>intro h<;>try exact zk h|refine zC (ofK l hl) ?_|(show _=_;((simp only [chkL];repeat' split)<;>(first|rfl|(simp_all<;>fail)|(simp_all;omega))))|fail)
 have h1:¬ terms<1:=by rename_i a1 _ _ _;simpa using a1
 have h2:¬ 8<terms:=by rename_i a2 _ _;simpa using a2
 refine Run.loop (fun i:Nat=>⟨PT.ofList [(1,.d (.int .i64 terms)),(35,.d (nats l)),(36,.d (nI (l.map nI).length)),(37,.d (.int .i64 i))],[],[]⟩) (fun i=>i<=l.length/\∀ x ∈ l.take i,(x:Int)<terms) (fun i=>l.length-i) 0 ⟨Nat.zero_le _,by simp⟩ (weak_of (by repeat' (first|exact trivial|refine⟨rfl,?_⟩))) (fun i hi=>?_);rcases Nat.lt_or_ge i l.length with hlt|hge
 .obtain⟨x,hx⟩:=get_ok hlt
  have hgo:(x:Int)<terms->∀ y ∈ l.take (i+1),(y:Int)<terms:=fun h=>by
   rw [List.take_add_one,hx];intro y hy;rcases List.mem_append.1 hy with h1|h1
   .exact hi.2 y h1
   .simp at h1;subst h1;exact h
  have hbad:¬ (x:Int)<terms->chkL l terms=14:=fun h=>by
   unfold chkL;rw [if_neg h1,if_neg h2,if_neg];simp only [List.all_eq_true,decide_eq_true_eq];intro ha;exact h (ha x (List.mem_of_getElem? hx))
  repeat' (first|refine zW ?_|refine zB ?_ ?_<;>intro h<;>try exact zk h|refine zX ?_|refine zI w (.d (.ep [nI x])) hx ?_|(show _=_;rw [hbad (by simpa using h)])|(exact⟨i+1,⟨hlt,hgo (by simpa using h)⟩,by omega,weak_of (by repeat' (first|exact trivial|refine⟨rfl,?_⟩|refine⟨(inc_get (k:=i) (by kernel_rfl) (by omega)),?_⟩))⟩)|fail)
 .have hie:i=l.length:=by have:=hi.1;omega
  have hok:chkL l terms=0:=by
   unfold chkL;rw [if_neg h1,if_neg h2,if_pos];simp only [List.all_eq_true,decide_eq_true_eq];have:=hi.2;rwa [hie,List.take_length] at this
  subst hie
  repeat' (first|refine zW ?_|refine zB ?_ ?_<;>intro h<;>try exact zk h|refine zX ?_|(show _=_;rw [hok])|fail)
theorem chkL0 {l:List Nat} (h:Rt l):chkL l 8=0:=by
 unfold chkL;rw [if_neg (by omega),if_neg (by omega),if_pos];simp only [List.all_eq_true,decide_eq_true_eq];intro x hx;have:=h.lt x hx;omega
theorem rightK (x y:List Nat) (hx:Rt x) (hy:Rt y):KnownCall Try.prog 107 [.int .i64 8,.sl 5 [lk x,lk y]] (.d (.int .i64 0)):=by
 have h1:=checkK x hx.len 8;have h2:=checkK y hy.len 8;rw [chkL0 hx] at h1;rw [chkL0 hy] at h2;refine kF Try.func107 [] fun w=>?_
 repeat' (first|refine zW ?_|refine zB ?_ ?_<;>intro h<;>try exact zk h|refine zX ?_|fail)
 refine Run.loopT (fun i:Nat=>⟨PT.ofList [(0,.d (.int .i64 8)),(8,.d (.sl 5 [lk x,lk y])),(9,.d (.int .i64 2)),(10,.d (.int .i64 i))],[],[]⟩) (fun i=>i<=2) (fun i=>2-i) 0 (Nat.zero_le _) (ti _ 0) (fun i hi=>?_)
 match i,hi with
 |0,_ =>
  repeat' (first|refine zW ?_|refine zB ?_ ?_<;>intro h<;>try exact zk h|refine zX ?_|refine zC (h1) ?_|(exact⟨1,by omega,by omega,(ti _ 0)⟩)|fail)
 |1,_ =>
  repeat' (first|refine zW ?_|refine zB ?_ ?_<;>intro h<;>try exact zk h|refine zX ?_|refine zC (h2) ?_|(exact⟨2,by omega,by omega,(ti _ 0)⟩)|fail)
 |2,_ =>
  repeat' (first|refine zW ?_|refine zB ?_ ?_<;>intro h<;>try exact zk h|refine zX ?_|rfl|fail)
theorem listK (l:List Nat) (hl:l.length<=4):KnownCall Try.prog 112 [lk l] (.d (nats l)):=by
 have w:Fz [1]:=trivial;have h4:=cut4' l hl;refine knownE2 Yo (fnB Try.func112 [1]) ?_
 repeat' (first|refine zW ?_|refine zB ?_ ?_<;>intro h<;>try exact zk h|refine zX ?_|refine zCut h4 ?_|refine zAp ?_|(refine Yt ?_;refine r2 ?_;first|done|(exact .refl))|fail)
theorem listA (l:List Nat) (hl:l.length<=4):ACall Try.prog 112 [.d (lk l)] [] (.sr 0 1 ([]++l.map nI)) [.room (([]:List DV).length+(l.map nI).length) 1]:=by
 have w:Fz [1]:=trivial;have h4:=cut4' l hl;refine acall_of_run Yo (fnB Try.func112 [1]) rfl rfl ?_
 repeat' (first|refine zW ?_|refine zB ?_ ?_<;>intro h<;>try exact zk h|refine zX ?_|refine zCut h4 ?_|refine zAp ?_|fail)
 refine Yt ?_;exact⟨trivial,rfl,rfl⟩
theorem joinK (k:Nat) (hk1:1<=k) (hk:k<=4) (x y:List Nat) (hx:Rt x) (hy:Rt y):KnownCall Try.prog 102 [nI k,lk x,lk y] (.tup [.d (lk ((x++y).take k)),.d (.int .i64 0)]):=by
 have c0:=rightK x y hx hy;have c1:=fun O=>ACall.lift (ds:=[lk x]) (listA x hx.len) rfl O;have c2:=listK y hy.len;have c3:=of4 (x++y);rw [show nats (x++y)=.sl 1 ([]++x.map nI++y.map nI) by simp] at c3;have c4:=cutK ((x++y).take 4) (by rw [List.length_take];omega) k;rw [List.take_take,Nat.min_eq_left hk] at c4;have hl1:=hx.len;have hl2:=hy.len;refine kF Try.func102 [4,5,11] fun w=>?_
 repeat' (first|refine zW ?_|refine zB ?_ ?_<;>intro h<;>try exact zk h|refine zX ?_|refine zC (c0) ?_|refine eA (c1 _) ?_|refine zC (c2) ?_|refine zL (c3) ?_|refine zC (c4) ?_|refine zAp ?_|rfl|exact zk h|fail)
def cmpL:List Nat->List Nat->Int
 |[],[]=>0
 |[],_ :: _=>-1
 |_ :: _,[]=>1
 |a :: x,b :: y=>if a<b then -1 else if b<a then 1 else cmpL x y
theorem cmpL_self:∀ x,cmpL x x=0
 |[]=>rfl
 |a :: x=>by simp only [cmpL,Nat.lt_irrefl,if_false];exact cmpL_self x
theorem cmpL_at:∀ {i:Nat} {x y:List Nat} {a b:Nat},x.take i=y.take i->x[i]?=some a->y[i]?=some b->a≠b->cmpL x y=if a<b then -1 else 1
 |0,x :: xs,y :: ys,a,b,_,hx,hy,hne=>by
  simp at hx hy;subst hx hy;simp only [cmpL];by_cases h:x<y
  .rw [if_pos h,if_pos h]
  .rw [if_neg h,if_neg h,if_pos (by omega)]
 |i+1,x :: xs,y :: ys,a,b,ht,hx,hy,hne=>by
  simp at hx hy ht;obtain⟨rfl,ht⟩:=ht;simp only [cmpL,Nat.lt_irrefl,if_false];exact cmpL_at ht hx hy hne
 |0,[],_,_,_,_,hx,_,_=>by simp at hx
 |0,_ :: _,[],_,_,_,_,hy,_=>by simp at hy
 |i+1,[],_,_,_,_,hx,_,_=>by simp at hx
 |i+1,_ :: _,[],_,_,_,_,hy,_=>by simp at hy
theorem cmpL_end:∀ {i:Nat} {x y:List Nat},x.take i=y.take i->i=min x.length y.length->x≠y->cmpL x y=if x.length<y.length then -1 else 1
 |i,[],[],_,_,hne=>absurd rfl hne
 |i,[],y :: ys,_,_,_=>by simp [cmpL]
 |i,x :: xs,[],_,_,_=>by simp [cmpL]
 |i+1,x :: xs,y :: ys,ht,hi,hne=>by
  simp at ht hi hne;obtain⟨rfl,ht⟩:=ht;simp only [cmpL,Nat.lt_irrefl,if_false,List.length_cons,Nat.add_lt_add_iff_right];exact cmpL_end ht (by omega) (hne rfl)
 |0,x :: xs,y :: ys,_,hi,_=>by simp at hi
theorem lk_inj {x y:List Nat} (hx:x.length<=4) (hl:x.length=y.length) (h0:x.getD 0 0=y.getD 0 0) (h1:x.getD 1 0=y.getD 1 0) (h2:x.getD 2 0=y.getD 2 0) (h3:x.getD 3 0=y.getD 3 0):x=y:=by
 refine List.ext_getElem? fun i=>?_;rcases Nat.lt_or_ge i x.length with h|h
 .obtain⟨a,ha⟩:=get_ok h
  obtain⟨b,hb⟩:=get_ok (show i<y.length by omega);rw [ha,hb];have:x.getD i 0=y.getD i 0:=by
   match i,h with
   |0,_=>exact h0
   |1,_=>exact h1
   |2,_=>exact h2
   |3,_=>exact h3
   |i+4,h=>omega
  simpa [List.getD_eq_getElem?_getD,ha,hb] using this
 .rw [List.getElem?_eq_none h,List.getElem?_eq_none (by omega)]
theorem drop4 {x:List Nat} {i a:Nat} (hl:x.length<=4) (h:x[i]?=some a):∃ R,AV.d (.ep (List.drop ((i:Int).toNat*1) [nI (x.getD 0 0),nI (x.getD 1 0),nI (x.getD 2 0),nI (x.getD 3 0)]))=.d (.ep (nI a :: R)):=by
 have hi:=(List.getElem?_eq_some_iff.1 h).1;simp only [List.getD_eq_getElem?_getD,Int.toNat_natCast,Nat.mul_one]
 match i,hi,h with
 |0,_,h=>rw [h];exact⟨_,rfl⟩
 |1,_,h=>rw [h];exact⟨_,rfl⟩
 |2,_,h=>rw [h];exact⟨_,rfl⟩
 |3,_,h=>rw [h];exact⟨_,rfl⟩
 |i+4,hi,_=>omega
theorem compareK (x y:List Nat) (hx:Rt x) (hy:Rt y):KnownCall Try.prog 91 [lk x,lk y] (.tup [.d (.int .i64 (cmpL x y)),.d (.int .i64 0)]):=by
 have c0:=rightK x y hx hy;have hl1:=hx.len;have hl2:=hy.len;by_cases hxy:x=y
 .subst hxy
  rw [cmpL_self];refine kF Try.func91 [2,3,10] fun w=>?_
  repeat' (first|refine zW ?_|refine zB ?_ ?_<;>intro h<;>try exact zk h|refine zX ?_|refine zC (c0) ?_|rfl|fail)
 .have hm:AV.d (.int .i64 (if(y.length:Int)<(x.length:Int) then(y.length:Int) else(x.length:Int)))=.d (nI (min x.length y.length)):=by
   congr 2;split<;>omega
  refine kF Try.func91 [2,3,10] fun w=>?_
  repeat' (first|refine zV hm ?_|refine zW ?_|refine zB ?_ ?_<;>intro h<;>try exact zk h|refine zX ?_|refine zC (c0) ?_|((exfalso;simp only [Bool.and_eq_true,beq_iff_eq] at h;exact hxy (lk_inj hl1 (by omega) (by omega) (by omega) (by omega) (by omega))))|fail)
  refine Run.loop (fun i:Nat=>⟨PT.ofList [(2,.d (.ep (lkC x))),(3,.d (.ep (lkC y))),(24,.d (nI (min x.length y.length))),(25,.d (.int .i64 i))],[],[]⟩) (fun i=>i<=min x.length y.length/\x.take i=y.take i) (fun i=>min x.length y.length-i) 0 ⟨Nat.zero_le _,rfl⟩ (weak_of (by repeat' (first|exact trivial|refine⟨rfl,?_⟩))) (fun i hi=>?_);rcases Nat.lt_or_ge i (min x.length y.length) with hlt|hge
  .obtain⟨a,ha⟩:=get_ok (show i<x.length by omega)
   obtain⟨b,hb⟩:=get_ok (show i<y.length by omega);obtain⟨R1,r1⟩:=drop4 hl1 ha;obtain⟨R2,r2⟩:=drop4 hl2 hb;have hgo:a=b->x.take (i+1)=y.take (i+1):=fun h=>by rw [List.take_add_one,List.take_add_one,hi.2,ha,hb,h]
   have hne:=cmpL_at hi.2 ha hb
   repeat' (first|refine zW ?_|refine zB ?_ ?_<;>intro h<;>try exact zk h|refine zX ?_|refine zCut r1 ?_|refine zCut r2 ?_|(show _=_;(rw [hne (by intro e;subst e;simp_all)];split<;>simp_all<;>omega))|(exact⟨i+1,⟨hlt,hgo (by simp at h;omega)⟩,by omega,weak_of (by repeat' (first|exact trivial|refine⟨rfl,?_⟩|refine⟨(inc_get (k:=i) (by kernel_rfl) (by omega)),?_⟩))⟩)|fail)
  .have hie:i=min x.length y.length:=by have:=hi.1;omega
   have he:=cmpL_end hi.2 hie hxy;subst hie
   repeat' (first|refine zW ?_|refine zB ?_ ?_<;>intro h<;>try exact zk h|refine zX ?_|(show _=_;(rw [he];split<;>simp_all<;>omega))|fail)
abbrev iI (n:Int):DV:=.int .i64 n
structure Raw where
 (n a b c d:Int)
abbrev Raw.s (r:Raw):List Int:=[r.a,r.b,r.c,r.d]
abbrev rwC (r:Raw):List DV:=[iI r.n,iI r.a,iI r.b,iI r.c,iI r.d]
abbrev rw5 (r:Raw):DV:=.agg (rwC r)
abbrev rws (L:List Raw):DV:=.sl 5 (L.map rw5)
def chkR (r:Raw) (t:Int):Int :=
 if t<1 then 2 else if 8<t then 2 else if r.n<0 then 3 else if 4<r.n then 3 else if(r.s.drop r.n.toNat).all (fun v=>decide (v=0)) then
  if(r.s.take r.n.toNat).all (fun v=>decide (0<=v/\v<t)) then 0 else 14 else 3
theorem drop4R {r:Raw} {i:Nat} {v:Int} (h:r.s[i]?=some v):∃ R,AV.d (.ep (List.drop ((i:Int).toNat*1) [iI r.a,iI r.b,iI r.c,iI r.d]))=.d (.ep (iI v :: R)):=by
 have hi:=(List.getElem?_eq_some_iff.1 h).1;simp only [Int.toNat_natCast,Nat.mul_one]
 match i,hi,h with
 |0,_,h=>simp at h;subst h;exact⟨_,rfl⟩
 |1,_,h=>simp at h;subst h;exact⟨_,rfl⟩
 |2,_,h=>simp at h;subst h;exact⟨_,rfl⟩
 |3,_,h=>simp at h;subst h;exact⟨_,rfl⟩
 |i+4,hi,_=>simp at hi;omega
theorem chkRef (r:Raw) (t:Int):KnownCall Try.prog 93 [rw5 r,iI t] (.d (iI (chkR r t))):=by
 by_cases h1:t<1\/8<t
 .have he:chkR r t=2:=by
   unfold chkR;rcases h1 with h|h
   .rw [if_pos h]
   .rw [if_neg (by omega),if_pos h]
  rw [he];refine kF Try.func93 [2] fun w=>?_
  repeat' (first|refine zW ?_|refine zB ?_ ?_<;>intro h<;>try exact zk h|rfl|((exfalso;simp only [decide_eq_true_eq,decide_eq_false_iff_not,Bool.not_eq_true,bne_iff_ne,ne_eq] at *;omega))|fail)
 by_cases h2:r.n<0\/4<r.n
 .have he:chkR r t=3:=by
   unfold chkR;rw [if_neg (by omega),if_neg (by omega)];rcases h2 with h|h
   .rw [if_pos h]
   .rw [if_neg (by omega),if_pos h]
  rw [he];refine kF Try.func93 [2] fun w=>?_
  repeat' (first|refine zW ?_|refine zB ?_ ?_<;>intro h<;>try exact zk h|rfl|((exfalso;simp only [decide_eq_true_eq,decide_eq_false_iff_not,Bool.not_eq_true,bne_iff_ne,ne_eq] at *;omega))|fail)
 obtain⟨m,hm⟩:∃ m:Nat,r.n=m:=⟨r.n.toNat,by omega⟩
 have hm4:m<=4:=by omega
 have hu:chkR r t=if(r.s.drop m).all (fun v=>decide (v=0)) then if(r.s.take m).all (fun v=>decide (0<=v/\v<t)) then 0 else 14 else 3:=by
  unfold chkR;rw [if_neg (by omega),if_neg (by omega),if_neg (by omega),if_neg (by omega),hm];rfl
 have hsl:r.s.length=4:=rfl;have hrw:rwC r=[nI m,iI r.a,iI r.b,iI r.c,iI r.d]:=by simp only [rwC,hm]
 rw [show rw5 r=.agg [nI m,iI r.a,iI r.b,iI r.c,iI r.d] by rw [<- hrw]];refine kF Try.func93 [2] fun w=>?_
 repeat' (first|refine zW ?_|refine zB ?_ ?_<;>intro h<;>try exact zk h|((exfalso;simp only [decide_eq_true_eq,decide_eq_false_iff_not,Bool.not_eq_true,bne_iff_ne,ne_eq] at *;omega))|fail)
 refine Run.loop (fun j:Nat=>⟨PT.ofList [(1,.d (iI t)),(2,.d (.ep [nI m,iI r.a,iI r.b,iI r.c,iI r.d])),(5,.d (nI j))],[],[]⟩) (fun j=>m<=j/\j<=4/\∀ p,m<=p->p<j->r.s[p]?=some 0) (fun j=>4-j) m ⟨Nat.le_refl _,hm4,fun p h1 h2=>by omega⟩ (weak_of (by repeat' (first|exact trivial|refine⟨rfl,?_⟩))) (fun j hj=>?_);obtain⟨hj1,hj2,hj3⟩:=hj;rcases Nat.lt_or_ge j 4 with hlt|hge
 .obtain⟨v,hv⟩:=get_ok (show j<r.s.length by rw [hsl];exact hlt)
  obtain⟨R,hR⟩:=drop4R hv;have hbad:¬ v=0->chkR r t=3:=fun h=>by
   rw [hu,if_neg];intro ha;have:v ∈ r.s.drop m:=by
    refine List.mem_of_getElem? (i:=j-m) ?_;rw [List.getElem?_drop,show m+(j-m)=j by omega];exact hv
   exact h (by simpa using List.all_eq_true.1 ha v this)
  have hgo:v=0->∀ p,m<=p->p<j+1->r.s[p]?=some 0:=fun h p h1 h2=>by
   rcases Nat.lt_or_ge p j with h3|h3
   .exact hj3 p h1 h3
   .have:p=j:=by omega
    subst this;subst h;exact hv
  repeat' (first|refine zW ?_|refine zB ?_ ?_<;>intro h<;>try exact zk h|refine zCut hR ?_|(show _=_;rw [hbad (by simpa using h)])|(exact⟨j+1,⟨by omega,hlt,hgo (by simpa using h)⟩,by omega,weak_of (by repeat' (first|exact trivial|refine⟨rfl,?_⟩|refine⟨(inc_get (k:=j) (by kernel_rfl) (by omega)),?_⟩))⟩)|((exfalso;simp only [decide_eq_true_eq,decide_eq_false_iff_not,Bool.not_eq_true,bne_iff_ne,ne_eq] at *;omega))|fail)
 .have hj4:j=4:=by omega
  subst hj4;have hok:(r.s.drop m).all (fun v=>decide (v=0))=true:=List.all_eq_true.2 fun v hv=>by
   obtain⟨p,hp⟩:=List.getElem?_of_mem hv;rw [List.getElem?_drop] at hp;have h4:=(List.getElem?_eq_some_iff.1 hp).1;rw [hj3 (m+p) (by omega) (by rw [hsl] at h4;exact h4)] at hp;simp at hp;simp [<- hp]
  rw [if_pos hok] at hu
  repeat' (first|refine zW ?_|refine zB ?_ ?_<;>intro h<;>try exact zk h|((exfalso;simp only [decide_eq_true_eq,decide_eq_false_iff_not,Bool.not_eq_true,bne_iff_ne,ne_eq] at *;omega))|fail)
  refine Run.loop (fun j:Nat=>⟨PT.ofList [(1,.d (iI t)),(2,.d (.ep [nI m,iI r.a,iI r.b,iI r.c,iI r.d])),(6,.d (nI j))],[],[]⟩) (fun j=>j<=m/\∀ v ∈ r.s.take j,0<=v/\v<t) (fun j=>m-j) 0 ⟨Nat.zero_le _,by simp⟩ (weak_of (by repeat' (first|exact trivial|refine⟨rfl,?_⟩))) (fun j hj=>?_);obtain⟨hj1,hk3⟩:=hj;rcases Nat.lt_or_ge j m with hlt|hge
  .obtain⟨v,hv⟩:=get_ok (show j<r.s.length by rw [hsl];omega)
   obtain⟨R,hR⟩:=drop4R hv;have hbad:¬ (0<=v/\v<t)->chkR r t=14:=fun h=>by
    rw [hu,if_neg];intro ha;have:v ∈ r.s.take m:=by
     refine List.mem_of_getElem? (i:=j) ?_;rw [List.getElem?_take,if_pos hlt];exact hv
    exact h (by simpa using List.all_eq_true.1 ha v this)
   have hgo:0<=v/\v<t->∀ u ∈ r.s.take (j+1),0<=u/\u<t:=fun h u hu=>by
    rw [List.take_add_one,hv] at hu;rcases List.mem_append.1 hu with h1|h1
    .exact hk3 u h1
    .simp at h1;subst h1;exact h
   repeat' (first|refine zW ?_|refine zB ?_ ?_<;>intro h<;>try exact zk h|refine zCut hR ?_|(show _=_;rw [hbad (by simp only [decide_eq_true_eq,decide_eq_false_iff_not] at *;omega)])|(exact⟨j+1,⟨hlt,hgo (by simp only [decide_eq_true_eq,decide_eq_false_iff_not] at *;omega)⟩,by omega,weak_of (by repeat' (first|exact trivial|refine⟨rfl,?_⟩|refine⟨(inc_get (k:=j) (by kernel_rfl) (by omega)),?_⟩))⟩)|((exfalso;simp only [decide_eq_true_eq,decide_eq_false_iff_not,Bool.not_eq_true,bne_iff_ne,ne_eq] at *;omega))|fail)
  .have hje:j=m:=by omega
   subst hje;have hok2:chkR r t=0:=by
    rw [hu,if_pos];exact List.all_eq_true.2 fun v hv=>by simpa using hk3 v hv
   repeat' (first|refine zW ?_|refine zB ?_ ?_<;>intro h<;>try exact zk h|(show _=_;rw [hok2])|((exfalso;simp only [decide_eq_true_eq,decide_eq_false_iff_not,Bool.not_eq_true,bne_iff_ne,ne_eq] at *;omega))|fail)
abbrev rawOf (l:List Nat):Raw:=⟨(l.length:Nat),(l.getD 0 0:Nat),(l.getD 1 0:Nat),(l.getD 2 0:Nat),(l.getD 3 0:Nat)⟩
theorem chkR_lk {l:List Nat} (hl:l.length<=4) {t:Int} (h1:1<=t) (h8:t<=8) (h:∀ x ∈ l,(x:Int)<t):chkR (rawOf l) t=0:=by
 unfold chkR;rw [if_neg (by omega),if_neg (by omega),if_neg (by simp only [];omega),if_neg (by simp only [];omega)]
 match l,hl,h with
 |[],_,_=>simp
 |[a],_,h=>simp at h |-;omega
 |[a,b],_,h=>simp at h |-;omega
 |[a,b,c],_,h=>simp at h |-;omega
 |[a,b,c,d],_,h=>simp at h |-;omega
theorem chkR_raw {r:Raw} {t:Int} (h:chkR r t=0):1<=t/\t<=8/\∃ l:List Nat,Rt l/\r=rawOf l/\∀ x ∈ l,(x:Int)<t:=by
 unfold chkR at h;split at h
 .omega
 split at h
 .omega
 split at h
 .omega
 split at h
 .omega
 split at h
 .rename_i g1 g2 g3 g4 g5
  split at h
  .rename_i g6
   refine⟨by omega,by omega,?_⟩;obtain⟨n,a,b,c,d⟩:=r;simp only at g3 g4 g5 g6;obtain⟨m,hm⟩:∃ m:Nat,n=m:=⟨n.toNat,by omega⟩
   subst hm;have hm4:m<=4:=by omega
   have nat:∀ {v:Int},0<=v->v=(v.toNat:Int):=fun h=>by omega
   rcases(show m=0\/m=1\/m=2\/m=3\/m=4 by omega) with rfl|rfl|rfl|rfl|rfl
   .simp at g5
    exact⟨[],⟨by simp,by simp⟩,by simp [g5],by simp⟩
   .simp at g5 g6
    exact⟨[a.toNat],⟨by simp,by simp;omega⟩,by simp [g5];omega,by simp;omega⟩
   .simp at g5 g6
    exact⟨[a.toNat,b.toNat],⟨by simp,by simp;omega⟩,by simp [g5];omega,by simp;omega⟩
   .simp at g5 g6
    exact⟨[a.toNat,b.toNat,c.toNat],⟨by simp,by simp;omega⟩,by simp [g5];omega,by simp;omega⟩
   .simp at g6
    exact⟨[a.toNat,b.toNat,c.toNat,d.toNat],⟨by simp,by simp;omega⟩,by simp;omega,by simp;omega⟩
  .omega
 .omega
theorem chkRefL (l:List Nat) (hl:Rt l):KnownCall Try.prog 93 [lk l,.int .i64 8] (.d (.int .i64 0)):=by
 have:=chkRef (rawOf l) 8;rw [chkR_lk hl.len (by omega) (by omega) (fun x hx=>by have:=hl.lt x hx;omega)] at this;exact this
theorem bothRef (x y:List Nat) (hx:Rt x) (hy:Rt y):KnownCall Try.prog 113 [lk x,lk y] (.d (.int .i64 0)):=by
 have c1:=chkRefL x hx;have c2:=chkRefL y hy;refine kF Try.func113 [2,3] fun w=>?_
 repeat' (first|refine zW ?_|refine zB ?_ ?_<;>intro h<;>try exact zk h|refine zX ?_|refine zC (c1) ?_|refine zC (c2) ?_|rfl|fail)
abbrev bxL (l:List Nat):List AV:=[.d (nI l.length),.d (nI (l.getD 0 0)),.d (nI (l.getD 1 0)),.d (nI (l.getD 2 0)),.d (nI (l.getD 3 0))]
def bxS:List Nat->List AV
 |[]=>[.d (nI 0),.d (nI 0),.d (nI 0),.d (nI 0),.d (nI 0)]
 |[a]=>[.d (nI 1),.d (nI a),.d (nI 0),.d (nI 0),.d (nI 0)]
 |[a,b]=>[.d (nI 2),.d (nI a),.d (nI b),.d (nI 0),.d (nI 0)]
 |[a,b,c]=>[.d (nI 3),.d (nI a),.d (nI b),.d (nI c),.d (nI 0)]
 |a :: b :: c :: d :: _=>[.d (nI 4),.d (nI a),.d (nI b),.d (nI c),.d (nI d)]
theorem bxS_L {l:List Nat} (h:l.length<=4):bxS l=bxL l:=by
 match l,h with
 |[],_=>rfl
 |[a],_=>rfl
 |[a,b],_=>rfl
 |[a,b,c],_=>rfl
 |[a,b,c,d],_=>rfl
theorem take_all {l:List Nat} {i k:Nat} (h:¬ (i<l.length/\i<k)) (hk:i<=k):l.take i=l.take k:=by
 rcases Nat.lt_or_ge i l.length with h1|h1
 .rw [show i=k by omega]
 .rw [List.take_of_length_le h1,List.take_of_length_le (by omega)]
theorem take_more {x y:List Nat} {j k:Nat} (h:¬ (j<y.length/\((x++y.take j).take k).length<k)):(x++y.take j).take k=(x++y).take k:=by
 rcases Nat.lt_or_ge j y.length with h1|h1
 .have h2:k<=(x++y.take j).length:=by
   have:¬ ((x++y.take j).take k).length<k:=fun h3=>h ⟨h1,h3⟩;rw [List.length_take] at this;omega
  conv=>rhs;rw [<- List.take_append_drop j y,<- List.append_assoc,List.take_append_of_le_length h2]
 .rw [List.take_of_length_le h1]
theorem take_next {x y:List Nat} {j k b:Nat} (h:((x++y.take j).take k).length<k) (hb:y[j]?=some b):(x++y.take j).take k++[b]=(x++y.take (j+1)).take k:=by
 have h2:(x++y.take j).length<k:=by rw [List.length_take] at h;omega
 have e:x++y.take (j+1)=(x++y.take j)++[b]:=by rw [List.take_add_one,hb];simp
 have h3:((x++y.take j)++[b]).length<=k:=by rw [List.length_append];simp only [List.length_singleton];omega
 rw [e,List.take_of_length_le (Nat.le_of_lt h2),List.take_of_length_le h3]
set_option maxHeartbeats 1000000 in
theorem plusRef (k:Nat) (hk:k<=4) (x y:List Nat) (hx:Rt x) (hy:Rt y):KnownCall Try.prog 114 [nI k,lk x,lk y] (.d (lk ((x++y).take k))):=by
 have hl1:=hx.len;have hl2:=hy.len;refine kF Try.func114 [4,5] fun w=>?_
 repeat' (first|refine zW ?_|refine zB ?_ ?_<;>intro h<;>try exact zk h|refine zX ?_|fail)
 refine Run.loopT (fun p:Nat × List Nat=>⟨PT.ofList [(0,.d (nI k)),(4,.d (.ep (lkC x))),(5,.d (.ep (lkC y))),(6,.bp 0 0),(7,.bp 1 0),(8,.d (nI p.1))],[.box (bxS []),.box (bxS p.2)],[]⟩) (fun p=>p.1<=x.length/\p.1<=k/\p.2=x.take p.1) (fun p=>x.length-p.1) (0,[]) ⟨Nat.zero_le _,Nat.zero_le _,rfl⟩ (ti _ 2) (fun p hp=>?_);obtain⟨i,acc⟩:=p;obtain⟨h1,h2,h3⟩:=hp;simp only at h1 h2 h3 |-;have hal:acc.length=i:=by rw [h3,List.length_take];omega
 by_cases hc:i<x.length/\i<k
 .obtain⟨b,hb⟩:=get_ok hc.1
  have hbd:x.getD i 0=b:=by rw [List.getD_eq_getElem?_getD,hb];rfl
  have hnx:acc++[x.getD i 0]=x.take (i+1):=by rw [List.take_add_one,hb,h3,hbd];rfl
  match acc,hal,hnx with
  |[],hal,hnx =>
   have hi:i=0:=hal.symm;subst hi
   repeat' (first|refine zW ?_|refine zB ?_ ?_<;>intro h<;>try exact zk h|refine zX ?_|(exact⟨(0+1,[]++[x.getD 0 0]),⟨by simp only [];omega,by simp only [];omega,hnx⟩,by simp only [];omega,(ti _ 2)⟩)|((exfalso;simp only [decide_eq_true_eq,decide_eq_false_iff_not] at *;omega))|fail)
  |[a0],hal,hnx =>
   have hi:i=1:=hal.symm;subst hi
   repeat' (first|refine zW ?_|refine zB ?_ ?_<;>intro h<;>try exact zk h|refine zX ?_|(exact⟨(1+1,[a0]++[x.getD 1 0]),⟨by simp only [];omega,by simp only [];omega,hnx⟩,by simp only [];omega,(ti _ 2)⟩)|((exfalso;simp only [decide_eq_true_eq,decide_eq_false_iff_not] at *;omega))|fail)
  |[a0,a1],hal,hnx =>
   have hi:i=2:=hal.symm;subst hi
   repeat' (first|refine zW ?_|refine zB ?_ ?_<;>intro h<;>try exact zk h|refine zX ?_|(exact⟨(2+1,[a0,a1]++[x.getD 2 0]),⟨by simp only [];omega,by simp only [];omega,hnx⟩,by simp only [];omega,(ti _ 2)⟩)|((exfalso;simp only [decide_eq_true_eq,decide_eq_false_iff_not] at *;omega))|fail)
  |[a0,a1,a2],hal,hnx =>
   have hi:i=3:=hal.symm;subst hi
   repeat' (first|refine zW ?_|refine zB ?_ ?_<;>intro h<;>try exact zk h|refine zX ?_|(exact⟨(3+1,[a0,a1,a2]++[x.getD 3 0]),⟨by simp only [];omega,by simp only [];omega,hnx⟩,by simp only [];omega,(ti _ 2)⟩)|((exfalso;simp only [decide_eq_true_eq,decide_eq_false_iff_not] at *;omega))|fail)
  |a0 :: a1 :: a2 :: a3 :: t,hal,_=>simp at hal;omega
 .have e:acc=(x++y.take 0).take k:=by rw [h3,List.take_zero,List.append_nil];exact take_all hc h2
  rw [bxS_L (show acc.length<=4 by omega)]
  repeat' (first|refine zW ?_|refine zB ?_ ?_<;>intro h<;>try exact zk h|refine zX ?_|((exfalso;simp only [decide_eq_true_eq,decide_eq_false_iff_not] at *;omega))|fail)
  all_goals
   refine Run.loopT (fun p:Nat × List Nat=>⟨PT.ofList [(0,.d (nI k)),(4,.d (.ep (lkC x))),(5,.d (.ep (lkC y))),(6,.bp 0 0),(7,.bp 1 0),(9,.d (nI p.1))],[.box (bxS []),.box (bxS p.2)],[]⟩) (fun p=>p.1<=y.length/\p.2=(x++y.take p.1).take k) (fun p=>y.length-p.1) (0,acc) ⟨Nat.zero_le _,e⟩ (ti _ 2 (Eq.trans (b:=[.box (bxS []),.box (bxL acc)]) rfl (by rw [bxS_L (show acc.length<=4 by omega)])) (hr:=by show [Ob.box (bxS []),Ob.box (bxS acc)].all (refOb 2)=true;rw [bxS_L (show acc.length<=4 by omega)];rfl)) (fun p hp=>?_);obtain⟨j,acc⟩:=p;obtain⟨h1,h3⟩:=hp;simp only at h1 h3 |-;by_cases hc:j<y.length/\acc.length<k
   .obtain⟨b,hb⟩:=get_ok hc.1
    obtain⟨R,hR⟩:=drop4 hl2 hb;have hnx:acc++[b]=(x++y.take (j+1)).take k:=by rw [h3];exact take_next (by rw [<- h3];exact hc.2) hb
    have hlt:=hc.2
    match acc,hlt,hnx with
    |[],hlt,hnx =>
     have hlt:0<k:=hlt
     repeat' (first|refine zW ?_|refine zB ?_ ?_<;>intro h<;>try exact zk h|refine zX ?_|refine zCut hR ?_|(exact⟨(j+1,[]++[b]),⟨hc.1,hnx⟩,by simp only [];omega,(ti _ 2)⟩)|((exfalso;simp only [decide_eq_true_eq,decide_eq_false_iff_not] at *;omega))|fail)
    |[a0],hlt,hnx =>
     have hlt:1<k:=hlt
     repeat' (first|refine zW ?_|refine zB ?_ ?_<;>intro h<;>try exact zk h|refine zX ?_|refine zCut hR ?_|(exact⟨(j+1,[a0]++[b]),⟨hc.1,hnx⟩,by simp only [];omega,(ti _ 2)⟩)|((exfalso;simp only [decide_eq_true_eq,decide_eq_false_iff_not] at *;omega))|fail)
    |[a0,a1],hlt,hnx =>
     have hlt:2<k:=hlt
     repeat' (first|refine zW ?_|refine zB ?_ ?_<;>intro h<;>try exact zk h|refine zX ?_|refine zCut hR ?_|(exact⟨(j+1,[a0,a1]++[b]),⟨hc.1,hnx⟩,by simp only [];omega,(ti _ 2)⟩)|((exfalso;simp only [decide_eq_true_eq,decide_eq_false_iff_not] at *;omega))|fail)
    |[a0,a1,a2],hlt,hnx =>
     have hlt:3<k:=hlt
     repeat' (first|refine zW ?_|refine zB ?_ ?_<;>intro h<;>try exact zk h|refine zX ?_|refine zCut hR ?_|(exact⟨(j+1,[a0,a1,a2]++[b]),⟨hc.1,hnx⟩,by simp only [];omega,(ti _ 2)⟩)|((exfalso;simp only [decide_eq_true_eq,decide_eq_false_iff_not] at *;omega))|fail)
    |a0 :: a1 :: a2 :: a3 :: t,hlt,_=>simp at hlt;omega
   .have e:acc=(x++y).take k:=by
     rw [h3];exact take_more (by rw [<- h3];exact hc)
    rw [bxS_L (show acc.length<=4 by rw [e,List.length_take];omega)];subst e
    repeat' (first|refine zW ?_|refine zB ?_ ?_<;>intro h<;>try exact zk h|refine zX ?_|rfl|((exfalso;simp only [decide_eq_true_eq,decide_eq_false_iff_not] at *;omega))|fail)
theorem joinRef (k:Nat) (hk1:1<=k) (hk:k<=4) (x y:List Nat) (hx:Rt x) (hy:Rt y):KnownCall Try.prog 104 [nI k,lk x,lk y] (.tup [.d (lk ((x++y).take k)),.d (.int .i64 0)]):=by
 have c1:=bothRef x y hx hy;have c2:=plusRef k hk x y hx hy;refine kF Try.func104 [4,5] fun w=>?_
 repeat' (first|refine zW ?_|refine zB ?_ ?_<;>intro h<;>try exact zk h|refine zX ?_|refine zC (c1) ?_|refine zC (c2) ?_|rfl|((exfalso;simp only [decide_eq_true_eq,decide_eq_false_iff_not] at *;omega))|fail)
theorem cmpL_end2 {i:Nat} {x y:List Nat} (h:x.take i=y.take i) (hi:i=min x.length y.length):cmpL x y=if x.length<y.length then -1 else if y.length<x.length then 1 else 0:=by
 by_cases hxy:x=y
 .subst hxy;rw [cmpL_self,if_neg (Nat.lt_irrefl _),if_neg (Nat.lt_irrefl _)]
 .rw [cmpL_end h hi hxy]
  by_cases h1:x.length<y.length
  .rw [if_pos h1,if_pos h1]
  .rw [if_neg h1,if_neg h1,if_pos]
   rcases Nat.lt_or_ge y.length x.length with h2|h2
   .exact h2
   .exfalso;apply hxy
    have e:x.length=y.length:=by omega
    rwa [List.take_of_length_le (by omega),List.take_of_length_le (by omega)] at h
theorem orderRef (x y:List Nat) (hx:Rt x) (hy:Rt y):KnownCall Try.prog 115 [lk x,lk y] (.d (.int .i64 (cmpL x y))):=by
 have hl1:=hx.len;have hl2:=hy.len;refine kF Try.func115 [2,3] fun w=>?_
 repeat' (first|refine zW ?_|refine zB ?_ ?_<;>intro h<;>try exact zk h|refine zX ?_|fail)
 refine Run.loop (fun i:Nat=>⟨PT.ofList [(2,.d (.ep (lkC x))),(3,.d (.ep (lkC y))),(5,.d (nI i))],[],[]⟩) (fun i=>i<=min x.length y.length/\x.take i=y.take i) (fun i=>min x.length y.length-i) 0 ⟨Nat.zero_le _,rfl⟩ (weak_of (by repeat' (first|exact trivial|refine⟨rfl,?_⟩))) (fun i hi=>?_);rcases Nat.lt_or_ge i (min x.length y.length) with hlt|hge
 .obtain⟨a,ha⟩:=get_ok (show i<x.length by omega)
  obtain⟨b,hb⟩:=get_ok (show i<y.length by omega);obtain⟨R1,r1⟩:=drop4 hl1 ha;obtain⟨R2,r2⟩:=drop4 hl2 hb;have hgo:a=b->x.take (i+1)=y.take (i+1):=fun h=>by rw [List.take_add_one,List.take_add_one,hi.2,ha,hb,h]
  have hne:=cmpL_at hi.2 ha hb
  repeat' (first|refine zW ?_|refine zB ?_ ?_<;>intro h<;>try exact zk h|refine zX ?_|refine zCut r1 ?_|refine zCut r2 ?_|(show _=_;(rw [hne (by intro e;subst e;simp_all)];split<;>simp_all<;>omega))|(exact⟨i+1,⟨hlt,hgo (by simp at h;omega)⟩,by omega,weak_of (by repeat' (first|exact trivial|refine⟨rfl,?_⟩|refine⟨(inc_get (k:=i) (by kernel_rfl) (by omega)),?_⟩))⟩)|((exfalso;simp only [decide_eq_true_eq,decide_eq_false_iff_not] at *;omega))|fail)
 .have hie:i=min x.length y.length:=by have:=hi.1;omega
  have he:=cmpL_end2 hi.2 hie
  repeat' (first|refine zW ?_|refine zB ?_ ?_<;>intro h<;>try exact zk h|refine zX ?_|(show _=_;(simp only [decide_eq_true_eq,decide_eq_false_iff_not] at *;rw [he];first|(rw [if_pos (by omega)]<;>fail)|(rw [if_neg (by omega),if_pos (by omega)]<;>fail)|rw [if_neg (by omega),if_neg (by omega)]))|((exfalso;simp only [decide_eq_true_eq,decide_eq_false_iff_not] at *;omega))|fail)
theorem compareRef (x y:List Nat) (hx:Rt x) (hy:Rt y):KnownCall Try.prog 108 [lk x,lk y] (.tup [.d (.int .i64 (cmpL x y)),.d (.int .i64 0)]):=by
 have c1:=bothRef x y hx hy;have c2:=orderRef x y hx hy;refine kF Try.func108 [2,3] fun w=>?_
 repeat' (first|refine zW ?_|refine zB ?_ ?_<;>intro h<;>try exact zk h|refine zX ?_|refine zC (c1) ?_|refine zC (c2) ?_|rfl|fail)
theorem compareS14 (x y:List Nat) (hx:Rt x) (hy:Rt y):KnownCall Try.prog 103 [lk x,lk y] (.d (.int .i64 (cmpL x y))):=by
 have c:=compareRef x y hx hy;refine kF Try.func103 [2,3] fun w=>?_
 repeat' (first|refine zW ?_|refine zB ?_ ?_<;>intro h<;>try exact zk h|refine zX ?_|refine zC (c) ?_|rfl|fail)
def IterOK (f:DV) (L:List (List Nat)):Prop:=∃ g a b,f=.fn (.func g) a b/\∀ (yi:Nat) (B:Nat->List Ob),(∀ k,yi<(B k).length)->(∀ k,(B 0).length<=(B k).length)->(∀ k,(B k).all (refOb (B k).length)=true) ->
 (∀ k x,L[k]?=some x->AYield Try.prog yi [.d (lk x)] (B k) (.d (.bool true)) (B (k+1)))->ACall Try.prog g (a.map .d++[.yl yi]++b.map .d) (B 0) (.tup []) (B L.length)
theorem lt_true {a b:Nat} (h:a<b):AV.d (.bool (decide ((a:Int)<(b:Int))))=.d (.bool true):=by
 rw [decide_eq_true (by omega)]
theorem lt_false {a b:Nat} (h:b<=a):AV.d (.bool (decide ((a:Int)<(b:Int))))=.d (.bool false):=by
 rw [decide_eq_false (by omega)]
def prs (k:Nat) (a b:List (List Nat)):List (List Nat):=a.flatMap fun x=>b.map fun y=>(x++y).take k
theorem prs_len (k:Nat) (b:List (List Nat)):∀ a,(prs k a b).length=a.length*b.length
 |[]=>by simp [prs]
 |x :: a=>by
  have:prs k (x :: a) b=b.map (fun y=>(x++y).take k)++prs k a b:=by simp [prs]
  rw [this,List.length_append,prs_len k b a,List.length_map,List.length_cons,Nat.succ_mul,Nat.add_comm]
theorem prs_get (k:Nat) (b:List (List Nat)):∀ {a:List (List Nat)} {i j:Nat} {x y:List Nat},a[i]?=some x->b[j]?=some y->(prs k a b)[i*b.length+j]?=some ((x++y).take k)
 |[],i,j,x,y,h,_=>by simp at h
 |z :: a,0,j,x,y,h,hy=>by
  have e:prs k (z :: a) b=b.map (fun y=>(z++y).take k)++prs k a b:=by simp [prs]
  simp at h;subst h;rw [e,List.getElem?_append_left (by have:=(List.getElem?_eq_some_iff.1 hy).1;simp;omega),Nat.zero_mul,Nat.zero_add,List.getElem?_map,hy];rfl
 |z :: a,i+1,j,x,y,h,hy=>by
  have e:prs k (z :: a) b=b.map (fun y=>(z++y).take k)++prs k a b:=by simp [prs]
  simp at h;rw [e,List.getElem?_append_right (by simp [Nat.succ_mul];omega),List.length_map,show(i+1)*b.length+j-b.length=i*b.length+j by rw [Nat.succ_mul];omega];exact prs_get k b h hy
theorem pairsK (k:Nat) (a b:List (List Nat)):KnownCall Try.prog 74 [nI k,lks a,lks b] (.d (.fn (.func 101) [] [.ep [lks a],.ep [lks b],.ep [nI k]])):=by
 refine kF Try.func74 [3,4,5] fun w=>?_
 repeat' (first|refine zW ?_|refine zB ?_ ?_<;>intro h<;>try exact zk h|refine zX ?_|rfl|fail)
set_option maxHeartbeats 1000000 in
theorem pairsIt (k:Nat) (hk1:1<=k) (hk:k<=4) (a b:List (List Nat)) (ha:∀ x ∈ a,Rt x) (hb:∀ x ∈ b,Rt x) (hal:a.length<=1048576) (hbl:b.length<=1048576):IterOK (.fn (.func 101) [] [.ep [lks a],.ep [lks b],.ep [nI k]]) (prs k a b):=by
 have w:Fz []:=trivial;refine⟨_,_,_,rfl,fun yi B hyi hB0 hR hy=>?_⟩;have w:Fz []:=trivial
 show ACall _ _ [.yl yi,.d (.ep [lks a]),.d (.ep [lks b]),.d (.ep [nI k])] _ _ _
 refine acall_of_run Yo (fnB Try.func101 []) rfl rfl ?_
 repeat refine zA ?_
 have hla:(a.map lk).length=a.length:=by simp
 have hlb:(b.map lk).length=b.length:=by simp
 refine Run.loop (fun i:Nat=>⟨PT.ofList [(0,.yl yi),(2,.d (.ep [lks b])),(3,.d (.ep [nI k])),(11,.d (lks a)),(12,.d (nI (a.map lk).length)),(13,.d (.int .i64 i))],B (i*b.length),[]⟩) (fun i=>i<=a.length) (fun i=>a.length-i) 0 (Nat.zero_le _) (weak_of' (by simp) rfl ⟨rfl,rfl,rfl,rfl,rfl,rfl,trivial⟩) (fun i hi=>?_);rcases Nat.lt_or_ge i a.length with hlt|hge
 .obtain⟨x,hx⟩:=get_ok hlt
  repeat refine zS ?_
  refine zV (lt_true (show i<(a.map lk).length by omega)) ?_
  repeat refine zS ?_
  refine zI w (.d (.ep (lkC x))) hx ?_;iterate 2 refine zX ?_
  refine oV ?_ (hv:=evAny_store_last);refine Yn ?_;refine Run.dropLast (ds:=lkC x) [(0,.yl yi),(2,.d (.ep [lks b])),(3,.d (.ep [nI k])),(11,.d (lks a)),(12,.d (nI (a.map lk).length)),(13,.d (.int .i64 i)),(6,.d (.ep (lkC x)))] ?_ (hB0 _) (hR _) (ofList_cases (by intro p hp;simp only [List.mem_cons,List.not_mem_nil,or_false] at hp;rcases hp with rfl|rfl|rfl|rfl|rfl|rfl|rfl;exact .inl (by kernel_rfl);exact .inl (by kernel_rfl);exact .inl (by kernel_rfl);exact .inl (by kernel_rfl);exact .inl (by kernel_rfl);exact .inl (by kernel_rfl);exact .inr ⟨0,Nat.zero_le _,by kernel_rfl,rfl⟩)) ⟨by simp [refA];exact hyi _,rfl,rfl,rfl,rfl,rfl,rfl,trivial⟩
  repeat refine zA ?_
  refine Run.loop (fun j:Nat=>⟨PT.ofList [(0,.yl yi),(2,.d (.ep [lks b])),(3,.d (.ep [nI k])),(11,.d (lks a)),(12,.d (nI (a.map lk).length)),(13,.d (.int .i64 i)),(6,.d (.ep (lkC x))),(17,.d (lks b)),(18,.d (nI (b.map lk).length)),(19,.d (.int .i64 j))],B (i*b.length+j),[]⟩) (fun j=>j<=b.length) (fun j=>b.length-j) 0 (Nat.zero_le _) (weak_of' (by simp) rfl ⟨rfl,rfl,rfl,rfl,rfl,rfl,rfl,rfl,rfl,rfl,trivial⟩) (fun j hj=>?_);rcases Nat.lt_or_ge j b.length with hjl|hjg
  .obtain⟨y,hyj⟩:=get_ok hjl
   have hxy:=prs_get k b hx hyj;have hjn:=joinK k hk1 hk x y (ha x (List.mem_of_getElem? hx)) (hb y (List.mem_of_getElem? hyj))
   repeat refine zS ?_
   refine zV (lt_true (show j<(b.map lk).length by omega)) ?_
   repeat refine zS ?_
   refine zI w (.d (.ep (lkC y))) hyj ?_;iterate 2 refine zX ?_
   refine oV ?_ (hv:=evAny_store_last);refine Yn ?_;refine Run.dropLast (ds:=lkC y) [(0,.yl yi),(2,.d (.ep [lks b])),(3,.d (.ep [nI k])),(11,.d (lks a)),(12,.d (nI (a.map lk).length)),(13,.d (.int .i64 i)),(6,.d (.ep (lkC x))),(17,.d (lks b)),(18,.d (nI (b.map lk).length)),(19,.d (.int .i64 j)),(8,.d (.ep (lkC y)))] ?_ (hB0 _) (hR _) (ofList_cases (by intro p hp;simp only [List.mem_cons,List.not_mem_nil,or_false] at hp;rcases hp with rfl|rfl|rfl|rfl|rfl|rfl|rfl|rfl|rfl|rfl|rfl;exact .inl (by kernel_rfl);exact .inl (by kernel_rfl);exact .inl (by kernel_rfl);exact .inl (by kernel_rfl);exact .inl (by kernel_rfl);exact .inl (by kernel_rfl);exact .inl (by kernel_rfl);exact .inl (by kernel_rfl);exact .inl (by kernel_rfl);exact .inl (by kernel_rfl);exact .inr ⟨0,Nat.zero_le _,by kernel_rfl,rfl⟩)) ⟨by simp [refA];exact hyi _,rfl,rfl,rfl,rfl,rfl,rfl,rfl,rfl,rfl,rfl,trivial⟩
   repeat refine zS ?_
   iterate 3 refine zX ?_
   refine zC hjn ?_;iterate 4 refine zX ?_
   refine oV ?_ (hv:=evAny_store_last);refine zX ?_;refine Yn ?_;refine Run.dropLast (ds:=lkC ((x++y).take k)) [(0,.yl yi),(2,.d (.ep [lks b])),(3,.d (.ep [nI k])),(11,.d (lks a)),(12,.d (nI (a.map lk).length)),(13,.d (.int .i64 i)),(6,.d (.ep (lkC x))),(17,.d (lks b)),(18,.d (nI (b.map lk).length)),(19,.d (.int .i64 j)),(9,.d (.ep (lkC ((x++y).take k))))] ?_ (hB0 _) (hR _) (ofList_cases (by intro p hp;simp only [List.mem_cons,List.not_mem_nil,or_false] at hp;rcases hp with rfl|rfl|rfl|rfl|rfl|rfl|rfl|rfl|rfl|rfl|rfl;exact .inl (by kernel_rfl);exact .inl (by kernel_rfl);exact .inl (by kernel_rfl);exact .inl (by kernel_rfl);exact .inl (by kernel_rfl);exact .inl (by kernel_rfl);exact .inl (by kernel_rfl);exact .inl (by kernel_rfl);exact .inl (by kernel_rfl);exact .inl (by kernel_rfl);exact .inr ⟨0,Nat.zero_le _,by kernel_rfl,rfl⟩)) ⟨by simp [refA];exact hyi _,rfl,rfl,rfl,rfl,rfl,rfl,rfl,rfl,rfl,rfl,trivial⟩
   repeat refine zS ?_
   iterate 2 refine zX ?_
   refine RunOps.yield (by rfl) (by rfl) (hy _ _ hxy) (by rfl) (by rfl) ?_
   repeat' (first|refine zW ?_|refine zB ?_ ?_<;>intro h<;>try exact zk h|refine zX ?_|(exact⟨j+1,hjl,by omega,weak_of (by repeat' (first|exact trivial|refine⟨rfl,?_⟩|refine⟨(inc_get (k:=j) (by kernel_rfl) (by omega)),?_⟩))⟩)|fail)
  .have hje:j=b.length:=by omega
   subst hje
   repeat refine zS ?_
   refine zV (lt_false (show(b.map lk).length<=b.length by omega)) ?_
   repeat' (first|refine zW ?_|refine zB ?_ ?_<;>intro h<;>try exact zk h|refine zX ?_|fail)
   exact⟨i+1,hlt,by omega,weak_of' (by rw [Nat.succ_mul]) rfl (by repeat' (first|exact trivial|refine⟨rfl,?_⟩|refine⟨(inc_get (k:=i) (by kernel_rfl) (by omega)),?_⟩))⟩
 .have hke:i=a.length:=by omega
  subst hke;rw [prs_len]
  repeat refine zS ?_
  refine zV (lt_false (show(a.map lk).length<=a.length by omega)) ?_
  repeat' (first|refine zW ?_|refine zB ?_ ?_<;>intro h<;>try exact zk h|refine zX ?_|fail)
  exact⟨trivial,rfl,by kernel_rfl⟩
theorem compareS (x y:List Nat) (hx:Rt x) (hy:Rt y):KnownCall Try.prog 84 [lk x,lk y] (.d (.int .i64 (cmpL x y))):=by
 have c:=compareK x y hx hy;refine kF Try.func84 [2,3] fun w=>?_
 repeat' (first|refine zW ?_|refine zB ?_ ?_<;>intro h<;>try exact zk h|refine zX ?_|refine zC (c) ?_|rfl|fail)
theorem numbersK (n:Nat) (h:1<=n) (h8:n<=8):KnownCall Try.prog 88 [nI n] (.d (.int .i64 0)):=by
 refine kF Try.func88 [] fun w=>?_
 repeat' (first|refine zW ?_|refine zB ?_ ?_<;>intro h<;>try exact zk h|refine zX ?_|rfl|((exfalso;first|(simp at h<;>fail)|(simp_all;omega)|omega))|fail)
theorem aheadK (n:Nat) (h:1<=n) (h8:n<=4):KnownCall Try.prog 72 [nI n] (.d (.int .i64 0)):=by
 refine kF Try.func72 [] fun w=>?_
 repeat' (first|refine zW ?_|refine zB ?_ ?_<;>intro h<;>try exact zk h|refine zX ?_|rfl|((exfalso;first|(simp at h<;>fail)|(simp_all;omega)|omega))|fail)
structure SetOK (n:Nat) (L:List (List Nat)):Prop where
 len:L.length<=4681
 rt:∀ x ∈ L,Rt x
 lt:∀ x ∈ L,∀ t ∈ x,t<n
 asc:L.Pairwise fun x y=>cmpL x y<0
theorem chkL_ok {l:List Nat} {n:Nat} (h1:1<=n) (h8:n<=8) (h:∀ t ∈ l,t<n):chkL l n=0:=by
 unfold chkL;rw [if_neg (by omega),if_neg (by omega),if_pos];simp only [List.all_eq_true,decide_eq_true_eq];intro x hx;have:=h x hx;omega
theorem setOK_next {n:Nat} {L:List (List Nat)} (h:SetOK n L) {i:Nat} {x y:List Nat} (hx:L[i]?=some x) (hy:L[i+1]?=some y):cmpL x y<0:=by
 obtain⟨h1,e1⟩:=List.getElem?_eq_some_iff.1 hx;obtain⟨h2,e2⟩:=List.getElem?_eq_some_iff.1 hy;have:=List.pairwise_iff_getElem.1 h.asc i (i+1) h1 h2 (by omega)
 rwa [e1,e2] at this
theorem checkS (n:Nat) (h1:1<=n) (h8:n<=8) (L:List (List Nat)) (hS:SetOK n L):KnownCall Try.prog 48 [nI n,lks L] (.d (.int .i64 0)):=by
 have c0:=numbersK n h1 h8;have hlen:=hS.len;refine kF Try.func48 [7] fun w=>?_
 repeat' (first|refine zW ?_|refine zB ?_ ?_<;>intro h<;>try exact zk h|refine zX ?_|refine zC (c0) ?_|((exfalso;first|(simp at h<;>fail)|(simp_all;omega)|omega))|fail)
 refine Run.loopT (fun i:Nat=>⟨PT.ofList [(0,.d (nI n)),(1,.d (lks L)),(19,.d (lks L)),(20,.d (nI (L.map lk).length)),(21,.d (.int .i64 i))],[],[]⟩) (fun i=>i<=L.length) (fun i=>L.length-i) 0 (Nat.zero_le _) (ti _ 0) (fun i hi=>?_);rcases Nat.lt_or_ge i L.length with hlt|hge
 .obtain⟨x,hx⟩:=get_ok hlt
  have hxm:=List.mem_of_getElem? hx;have c1:=checkK x (hS.rt x hxm).len n;rw [chkL_ok h1 h8 (hS.lt x hxm)] at c1;rcases i with _|i
  .repeat' (first|refine zW ?_|refine zB ?_ ?_<;>intro h<;>try exact zk h|refine zX ?_|refine zC (c1) ?_|refine zI w (.d (.ep (lkC x))) hx ?_|rfl|(exact⟨1,by omega,by omega,(ti _ 0)⟩)|((exfalso;first|(simp at h<;>fail)|(simp_all;omega)|omega))|fail)
  .obtain⟨y,hy⟩:=get_ok (show i<L.length by omega)
   have c2:=compareS y x (hS.rt y (List.mem_of_getElem? hy)) (hS.rt x hxm);have hlt2:=setOK_next hS hy hx;have hsub:AV.d (.int .i64 (IntKind.i64.wrap (((i+1:Nat):Int)-1)))=.d (nI i):=by
    congr 2;rw [show((i+1:Nat):Int)-1=(i:Nat) by omega];exact wrap_nat (by omega)
   repeat' (first|refine zV hsub ?_|refine zW ?_|refine zB ?_ ?_<;>intro h<;>try exact zk h|refine zX ?_|refine zC (c1) ?_|refine zC (c2) ?_|refine zI w (.d (.ep (lkC x))) hx ?_|refine zI w (.d (.ep (lkC y))) hy ?_|rfl|(exact⟨i+2,by omega,by omega,(ti _ 0)⟩)|((exfalso;first|(simp at h<;>fail)|(simp_all;omega)|omega))|fail)
 .have hie:i=L.length:=by omega
  subst hie
  repeat' (first|refine zW ?_|refine zB ?_ ?_<;>intro h<;>try exact zk h|refine zX ?_|rfl|((exfalso;first|(simp at h<;>fail)|(simp_all;omega)|omega))|fail)
abbrev rows (l:List (List (List Nat))):DV:=.sl 1 (l.map lks)
theorem allS (n:Nat) (h1:1<=n) (h8:n<=8) (l:List (List (List Nat))) (hl:l.length<=1048576) (hS:∀ L ∈ l,SetOK n L):KnownCall Try.prog 71 [nI n,rows l] (.d (.int .i64 0)):=by
 have c0:=numbersK n h1 h8;refine kF Try.func71 [] fun w=>?_
 repeat' (first|refine zW ?_|refine zB ?_ ?_<;>intro h<;>try exact zk h|refine zX ?_|refine zC (c0) ?_|fail)
 refine Run.loop (fun i:Nat=>⟨PT.ofList [(0,.d (nI n)),(1,.d (rows l)),(5,.d (.int .i64 0)),(6,.d (.int .i64 i))],[],[]⟩) (fun i=>i<=l.length) (fun i=>l.length-i) 0 (Nat.zero_le _) (weak_of (by repeat' (first|exact trivial|refine⟨rfl,?_⟩))) (fun i hi=>?_);rcases Nat.lt_or_ge i l.length with hlt|hge
 .obtain⟨L,hL⟩:=get_ok hlt
  have c1:=checkS n h1 h8 L (hS L (List.mem_of_getElem? hL))
  repeat' (first|refine zW ?_|refine zB ?_ ?_<;>intro h<;>try exact zk h|refine zX ?_|refine zC (c1) ?_|refine zI w (.d (.ep [lks L])) hL ?_|rfl|(exact⟨i+1,hlt,by omega,weak_of (by repeat' (first|exact trivial|refine⟨rfl,?_⟩|refine⟨(inc_get (k:=i) (by kernel_rfl) (by omega)),?_⟩))⟩)|((exfalso;first|(simp at h<;>fail)|(simp_all;omega)|omega))|fail)
 .have hie:i=l.length:=by omega
  subst hie
  repeat' (first|refine zW ?_|refine zB ?_ ?_<;>intro h<;>try exact zk h|refine zX ?_|rfl|((exfalso;first|(simp at h<;>fail)|(simp_all;omega)|omega))|fail)
def mrg (s:Bool->Bool->Bool):Nat->List (List Nat)->List (List Nat)->List (List Nat)
 |0,_,_=>[]
 |_+1,[],[]=>[]
 |k+1,[],y :: b=>(if s false true then [y] else [])++mrg s k [] b
 |k+1,x :: a,[]=>(if s true false then [x] else [])++mrg s k a []
 |k+1,x :: a,y :: b=>if cmpL x y<0 then(if s true false then [x] else [])++mrg s k a (y :: b) else if 0<cmpL x y then(if s false true then [y] else [])++mrg s k (x :: a) b else(if s true true then [y] else [])++mrg s k a b
abbrev cmpF:DV:=.fn (.func 84) [] []
end Go.Av
end
namespace Go.Proofs
open Go.Shelf
def Try.sortLk_ren:Go.Shelf.Ren:=⟨fun|6=>100|15=>110|14=>109|28=>124|29=>125|20=>116|21=>117|22=>118|23=>119|24=>120|25=>121|26=>122|27=>123|46=>126|47=>127|48=>128|49=>129|50=>130|57=>131|n=>n,fun|22=>24|24=>52|25=>120|3=>3|39=>144|0=>0|53=>156|55=>158|4=>4|46=>150|45=>149|50=>141|5=>5|9=>9|66=>159|70=>163|76=>165|77=>166|n=>n,fun|n=>n⟩
theorem Try.sortLk:Go.Proofs.SlLaysF0.n6 Try.prog Try.sortLk_ren:={
 mixed:=by kernel_rfl
 f6:=⟨Try.f100.name,by decide,Try.func100.trans (congrArg some (by kernel_rfl))⟩
 f14:=⟨Try.f109.name,by decide,Try.func109.trans (congrArg some (by kernel_rfl))⟩
 f15:=Try.func110.trans (congrArg some (by kernel_rfl))
 f20:=⟨Try.f116.name,by decide,Try.func116.trans (congrArg some (by kernel_rfl))⟩
 f21:=⟨Try.f117.name,by decide,Try.func117.trans (congrArg some (by kernel_rfl))⟩
 f22:=⟨Try.f118.name,by decide,Try.func118.trans (congrArg some (by kernel_rfl))⟩
 f23:=⟨Try.f119.name,by decide,Try.func119.trans (congrArg some (by kernel_rfl))⟩
 f24:=⟨Try.f120.name,by decide,Try.func120.trans (congrArg some (by kernel_rfl))⟩
 f25:=⟨Try.f121.name,by decide,Try.func121.trans (congrArg some (by kernel_rfl))⟩
 f26:=⟨Try.f122.name,by decide,Try.func122.trans (congrArg some (by kernel_rfl))⟩
 f27:=⟨Try.f123.name,by decide,Try.func123.trans (congrArg some (by kernel_rfl))⟩
 f28:=Try.func124.trans (congrArg some (by kernel_rfl))
 f29:=Try.func125.trans (congrArg some (by kernel_rfl))
 f46:=⟨Try.f126.name,by decide,Try.func126.trans (congrArg some (by kernel_rfl))⟩
 f47:=Try.func127.trans (congrArg some (by kernel_rfl))
 f48:=Try.func128.trans (congrArg some (by kernel_rfl))
 f49:=⟨Try.f129.name,by decide,Try.func129.trans (congrArg some (by kernel_rfl))⟩
 f50:=⟨Try.f130.name,by decide,Try.func130.trans (congrArg some (by kernel_rfl))⟩
 f57:=⟨Try.f131.name,by decide,Try.func131.trans (congrArg some (by kernel_rfl))⟩
 t0:=Try.underlying0
 a0:=Try.isAgg0
 z0:=Try.sizeOf0
 v0:=Try.zeroValue0
 t3:=Try.underlying3
 a3:=Try.isAgg3
 z3:=Try.sizeOf3
 v3:=Try.zeroValue3
 t4:=Try.underlying4
 a4:=Try.isAgg4
 z4:=Try.sizeOf4
 v4:=Try.zeroValue4
 t5:=Try.underlying5
 a5:=Try.isAgg5
 z5:=Try.sizeOf5
 v5:=Try.zeroValue5
 t9:=Try.underlying9
 a9:=Try.isAgg9
 z9:=Try.sizeOf9
 v9:=Try.zeroValue9
 t22:=Try.underlying24
 a22:=Try.isAgg24
 z22:=Try.sizeOf24
 v22:=Try.zeroValue24
 t25:=Try.underlying120
 a25:=Try.isAgg120
 z25:=Try.sizeOf120
 v25:=Try.zeroValue120
 t39:=Try.underlying144
 a39:=Try.isAgg144
 z39:=Try.sizeOf144
 v39:=Try.zeroValue144
 t45:=Try.underlying149
 a45:=Try.isAgg149
 z45:=Try.sizeOf149
 v45:=Try.zeroValue149
 t46:=Try.underlying150
 a46:=Try.isAgg150
 z46:=Try.sizeOf150
 v46:=Try.zeroValue150
 t50:=Try.underlying141
 a50:=Try.isAgg141
 z50:=Try.sizeOf141
 v50:=Try.zeroValue141
 t53:=Try.underlying156
 a53:=Try.isAgg156
 z53:=Try.sizeOf156
 v53:=Try.zeroValue156
 t55:=Try.underlying158
 a55:=Try.isAgg158
 z55:=Try.sizeOf158
 v55:=Try.zeroValue158
 t66:=Try.underlying159
 a66:=Try.isAgg159
 z66:=Try.sizeOf159
 v66:=Try.zeroValue159
 t70:=Try.underlying163
 a70:=Try.isAgg163
 z70:=Try.sizeOf163
 v70:=Try.zeroValue163
 t76:=Try.underlying165
 a76:=Try.isAgg165
 z76:=Try.sizeOf165
 v76:=Try.zeroValue165
 t77:=Try.underlying166
 a77:=Try.isAgg166
 z77:=Try.sizeOf166
 v77:=Try.zeroValue166 }
end Go.Proofs
noncomputable section
namespace Go.Av
open Go Go.Proofs
set_option maxRecDepth 10000
theorem cmpL_neg:∀ x y,cmpL y x=-cmpL x y
 |[],[]=>rfl
 |[],_ :: _=>rfl
 |_ :: _,[]=>rfl
 |a :: x,b :: y=>by
  simp only [cmpL];rcases Nat.lt_trichotomy a b with h|h|h
  .rw [if_neg (by omega),if_pos h,if_pos h];rfl
  .subst h;simp only [Nat.lt_irrefl,if_false];exact cmpL_neg x y
  .rw [if_pos h,if_neg (by omega),if_pos h]
theorem cmpL_eq:∀ {x y},cmpL x y=0->x=y
 |[],[],_=>rfl
 |[],_ :: _,h=>by simp [cmpL] at h
 |_ :: _,[],h=>by simp [cmpL] at h
 |a :: x,b :: y,h=>by
  simp only [cmpL] at h;split at h
  .simp at h
  .split at h
   .simp at h
   .rw [cmpL_eq h,show a=b by omega]
theorem cmpL_trans:∀ {x y z},cmpL x y<0->cmpL y z<0->cmpL x z<0
 |[],[],_,h,_=>by simp [cmpL] at h
 |_ :: _,[],_,h,_=>by simp [cmpL] at h
 |[],_ :: _,[],_,h=>by simp [cmpL] at h
 |_ :: _,_ :: _,[],_,h=>by simp [cmpL] at h
 |[],_ :: _,_ :: _,_,_=>by simp [cmpL]
 |a :: x,b :: y,c :: z,h,k=>by
  simp only [cmpL] at h k |-;by_cases h1:a<b
  .by_cases k1:b<c
   .rw [if_pos (by omega)];decide
   .by_cases k2:c<b
    .rw [if_neg k1,if_pos k2] at k;simp at k
    .rw [if_pos (by omega)];decide
  .by_cases h2:b<a
   .rw [if_neg h1,if_pos h2] at h;simp at h
   .rw [if_neg h1,if_neg h2] at h
    by_cases k1:b<c
    .rw [if_pos (by omega)];decide
    .by_cases k2:c<b
     .rw [if_neg k1,if_pos k2] at k;simp at k
     .rw [if_neg k1,if_neg k2] at k
      rw [if_neg (by omega),if_neg (by omega)];exact cmpL_trans h k
abbrev LkT:={l:List Nat // Rt l}
instance:Inhabited LkT:=⟨⟨[],⟨by simp,by simp⟩⟩⟩
abbrev vI (n:Nat):Value:=.int .i64 (n:Nat)
def encL (x:LkT):List Value:=[vI x.1.length,vI (x.1.getD 0 0),vI (x.1.getD 1 0),vI (x.1.getD 2 0),vI (x.1.getD 3 0)]
def cfL (x y:LkT):Int:=cmpL x.1 y.1
theorem cfL_swo:Go.Sort.SWO (ltOf cfL) where
 irrefl x:=by simp [ltOf,cfL,cmpL_self]
 trans x y z h k:=by
  simp only [ltOf,decide_eq_true_eq] at h k |-;exact cmpL_trans h k
 ntrans x y z h k:=by
  have h:¬ cmpL x.1 y.1<0:=of_decide_eq_false h;have k:¬ cmpL y.1 z.1<0:=of_decide_eq_false k;refine decide_eq_false fun hc:cmpL x.1 z.1<0=>?_;by_cases h0:cmpL x.1 y.1=0
  .rw [cmpL_eq h0] at hc;exact k hc
  .have h1:cmpL y.1 x.1<0:=by rw [cmpL_neg];omega
   exact k (cmpL_trans h1 hc)
theorem cfL_total (x y:LkT) (h:ltOf cfL x y=false) (k:ltOf cfL y x=false):x=y:=by
 have h:¬ cmpL x.1 y.1<0:=of_decide_eq_false h;have k:¬ cmpL y.1 x.1<0:=of_decide_eq_false k;have:=cmpL_neg x.1 y.1;exact Subtype.ext (cmpL_eq (by omega))
theorem heap0 (w:World):Heap (fun _=>none) [] [] w:=⟨fun _ _ h=>(by cases h),rfl,fun i bi ob h=>(by simp at h),fun i j bi bj oi oj b h=>(by simp at h)⟩
theorem world_grown {D':DMap} {β':List Bi} {o':List Ob} {w w':World} (h:Step (fun _=>none) [] [] w D' β' o' w'):∃ q os',w'=Go.Sort.grow (w.drewN q) os':=by
 refine⟨w'.drawn-w.drawn,w'.heap.extract w.heap.size w'.heap.size,?_⟩;have hh:w'.heap=w.heap++w'.heap.extract w.heap.size w'.heap.size:=by
  refine Array.ext_getElem? fun k=>?_;rcases Nat.lt_or_ge k w.heap.size with hk|hk
  .rw [h.keep k hk not_own_nil,Array.getElem?_append_left hk]
  .rw [Array.getElem?_append_right hk,Array.getElem?_extract]
   have hs:=h.size;rcases Nat.lt_or_ge k w'.heap.size with h2|h2
   .rw [if_pos (by omega),show w.heap.size+(k-w.heap.size)=k by omega]
   .rw [Array.getElem?_eq_none h2,if_neg (by omega)]
 have h1:=h.os;have h2:=h.tape;have h3:=h.output.1;have h4:=h.output.2;cases w with
 |mk a b c d e =>
  cases w' with
  |mk a' b' c' d' e' =>
   simp only [Go.Sort.grow,World.drewN] at *;subst h1 h2 h3
   congr 1
   omega
theorem cmpLaysK (blk off size:Nat) (w:World):CmpLays Try.prog 84 #[] encL 5 cfL blk off size w:=by
 intro m os dk _ x y;generalize sortWorldK encL 5 w blk off m dk os=W;have hK:=(compareS x.1 y.1 x.2 y.2 []).2 (fun _=>none) [] W (#[.agg (encL x).toArray,.agg (encL y).toArray]++#[]) (heap0 W) ⟨rfl,fun j c v hc hv=>?_⟩
 .refine callsIn_wide.1 (hK.mono fun e w' he=>?_)
  rcases he with⟨v,D',β',rfl,hs,hr⟩|⟨z,v,D',β',hz,_⟩
  .cases hr with
   |d hr=>cases hr;exact⟨rfl,world_grown hs⟩
  .cases hz
 .have key:∀ z:LkT,RepA (fun _=>none) [] (.d (lk z.1)) (.agg (encL z).toArray):=fun z=>by
   refine .d (.agg rfl (fun j v hv=>?_) fun j c v hc hv=>?_)
   .match j,hv with
    |0,hv|1,hv|2,hv|3,hv|4,hv=>simp [encL] at hv;subst hv;rfl
    |j+5,hv=>simp [encL] at hv
   .match j,hc,hv with
    |0,hc,hv|1,hc,hv|2,hc,hv|3,hc,hv|4,hc,hv=>simp [encL,lkC] at hc hv;subst hc hv;exact .int
    |j+5,hc,hv=>simp [lkC] at hc
  match j,hc,hv with
  |0,hc,hv=>simp at hc hv;subst hc hv;exact key x
  |1,hc,hv=>simp at hc hv;subst hc hv;exact key y
  |j+2,hc,hv=>simp at hc
abbrev vecL (L:List (List Nat)):Ob:=.vec 52 true 5 L.length ((flatD (L.map lk)).map .d)
theorem flat_len (L:List (List Nat)):(flatD (L.map lk)).length=L.length*5:=by
 induction L with
 |nil=>rfl
 |cons a L ih =>
  have:(flatD ((a :: L).map lk)).length=(cellsD (lk a)).length+(flatD (L.map lk)).length:=by simp [flatD]
  rw [this,ih];simp only [cellsD,List.length_cons,List.length_nil];omega
theorem flat_at:∀ (L:List (List Nat)) (j:Nat) (x:List Nat),L[j / 5]?=some x->(flatD (L.map lk))[j]?=(lkC x)[j % 5]?
 |[],j,x,h=>by simp at h
 |a :: L,j,x,h=>by
  have e:flatD ((a :: L).map lk)=lkC a++flatD (L.map lk):=by simp [flatD,cellsD]
  rw [e];rcases Nat.lt_or_ge j 5 with hj|hj
  .rw [show j / 5=0 by omega] at h
   simp only [List.getElem?_cons_zero,Option.some.injEq] at h;subst h;rw [List.getElem?_append_left (by simpa using hj),Nat.mod_eq_of_lt hj]
  .rw [show j / 5=(j-5) / 5+1 by omega] at h
   simp only [List.getElem?_cons_succ] at h;rw [List.getElem?_append_right (by simpa using hj),show(lkC a).length=5 from rfl,flat_at L (j-5) x h,show(j-5) % 5=j % 5 by omega]
theorem encL_get (x:LkT) (c:Nat) (hc:c<5):∃ n,(lkC x.1)[c]?=some (nI n)/\(encL x)[c]! = vI n:=by
 match c,hc with
 |0,_|1,_|2,_|3,_|4,_=>exact⟨_,rfl,rfl⟩
theorem step_sorted {D:DMap} {β:List Bi} {objs:List Ob} {w:World} (h:Heap D β objs w) {i b:Nat} {bi:Bi} {ob ob':Ob} {o':Obj} (hb:β[i]?=some bi) (ho:objs[i]?=some ob)
  (hown:ownOf bi ob=some b) (hown':∀ b',ownOf bi ob'=some b'->b'=b) (hD:∀ ad,ad.block=b->D ad=none) (n:Nat) (os:Array Obj) (hnew:HoldsOb D β (putB (Go.Sort.ahead w n) b o') bi ob') :
  Step D β objs w D β (objs.set i ob') (Go.Sort.grow (putB (Go.Sort.ahead w n) b o') os):=by
 have s1:Step D β objs w D β objs (Go.Sort.ahead w n) :=
  { Step.refl (h.same (w':=Go.Sort.ahead w n) rfl) with size:=Nat.le_refl _,keep:=fun _ _ _=>rfl,os:=rfl,tape:=rfl,output:=⟨rfl,Nat.le_add_right _ _⟩ }
 have s2:=Step.put s1.heap hb ho hown hown' hD hnew;have s3:Step D β (objs.set i ob') (putB (Go.Sort.ahead w n) b o') D β (objs.set i ob') (Go.Sort.grow (putB (Go.Sort.ahead w n) b o') os) :=
  Step.ext s2.heap (fun k hk=>Go.Sort.heap_grow_old _ _ hk) (by simp) rfl rfl ⟨rfl,Nat.le_refl _⟩ (fun _ _ h=>h) (fun ad v h1 h2=>by rw [h2] at h1;cases h1)
 exact(s1.trans s2).trans s3
theorem sortA (L:List (List Nat)) (hR:∀ x ∈ L,Rt x) (hl:L.length<=100000):∃ L':List (List Nat),L'.Perm L/\L'.Pairwise (fun x y=>¬ cmpL y x<0) /\
  ∀ (objs:List Ob) (i:Nat),objs[i]?=some (vecL L)->ACall Try.prog 100 [.vs i 5 0 L.length,.d cmpF] objs (.tup []) (objs.set i (vecL L')):=by
 obtain⟨d,hd⟩:∃ d:List LkT,d.map (·.1)=L:=⟨L.attachWith Rt hR,by simp⟩
 have hds:d.length=L.length:=by rw [<- hd];simp
 refine⟨(d.mergeSort fun x y=>!ltOf cfL y x).map (·.1),?_,?_,fun objs i hi=>⟨enters_of Try.func100 (by kernel_rfl) rfl,fun D β w vs hp hr=>?_⟩⟩
 .rw [<- hd];exact(List.mergeSort_perm d _).map _
 .have:=List.pairwise_mergeSort (le:=fun x y=>!ltOf cfL y x) (fun a b c h1 h2=>by
   simp only [Bool.not_eq_true'] at h1 h2 |-;exact cfL_swo.ntrans _ _ _ h2 h1) (fun a b=>by
   cases h1:ltOf cfL b a with
   |false=>rfl
   |true =>
    cases h2:ltOf cfL a b with
    |false=>rfl
    |true=>have:=cfL_swo.trans _ _ _ h1 h2;rw [cfL_swo.irrefl] at this;cases this) d
  rw [List.pairwise_map];refine this.imp fun {a b} h=>?_;simp only [Bool.not_eq_true'] at h;exact of_decide_eq_false h
 .generalize hM:(d.mergeSort fun x y=>!ltOf cfL y x)=M
  have hMl:M.length=L.length:=by rw [<- hM,List.length_mergeSort];exact hds
  obtain⟨v0,v1,rfl,h0,h1⟩:∃ v0 v1,vs=#[v0,v1]/\RepA D β (.vs i 5 0 L.length) v0/\RepA D β (.d cmpF) v1:=by
   obtain⟨l⟩:=vs;obtain⟨h1,h2⟩:=hr
   match l,h1 with
   |[a,b],_=>exact⟨a,b,rfl,h2 0 _ a rfl rfl,h2 1 _ b rfl rfl⟩
  obtain rfl:v1=.func (.func 84) #[] #[]:=by
   cases h1 with
   |d h1 =>
    cases h1 with
    |@fn _ _ _ a b h1 h2 _ _ =>
     obtain rfl:a=#[]:=Array.size_eq_zero_iff.1 h1;obtain rfl:b=#[]:=Array.size_eq_zero_iff.1 h2
     rfl
  cases h0 with
  |@vs _ _ _ _ cap c bi a ad hb hh hc hm hn hx =>
   obtain⟨e1,e2⟩:=hx (.inl rfl);rcases Nat.eq_zero_or_pos L.length with hz|hz
   .have hL:L=[]:=List.length_eq_zero_iff.1 hz
    have hM0:M=[]:=List.length_eq_zero_iff.1 (by omega);have hset:objs.set i (vecL (M.map (·.1)))=objs:=by
     rw [hM0];refine List.ext_getElem? fun k=>?_;by_cases hk:i=k
     .subst hk
      rw [List.getElem?_set_self (List.getElem?_eq_some_iff.1 hi).1,hi,hL];rfl
     .rw [List.getElem?_set_ne hk]
    rw [hset,hz];refine(callsIn_wide (n:=0)).2 ((AnyF.slices_SortFunc_none { Try.sortLk with } ad c _ w).mono fun e w' he=>?_);obtain⟨rfl,rfl⟩:=he;exact .inl ⟨_,D,β,rfl,Step.refl hp,.tup rfl (fun j c v hc=>by simp at hc)⟩
   .obtain⟨a',cap',g1,g2,g3,g4,g5,g6⟩:=hp.hold i bi _ hb hi
    rw [hh] at g1;cases g1;cases a with
    |none=>have:=g5 rfl;omega
    |some a0 =>
     obtain⟨rfl,us,T,⟨k1,k2⟩,k3,k4,k5,k6⟩:=g6 a0 rfl;simp only [Option.map_some,Nat.zero_mul] at e1;subst e1;have hblk:bi.blk<w.heap.size:=(Array.getElem?_eq_some_iff.1 k1).1;have hsz:d.toArray.size=L.length:=by simpa using hds
     have hH:Go.Sort.HoldsK encL 5 w bi.blk 0 d.toArray:=by
      intro j hj;rw [Go.Sort.size_flatK,hsz] at hj;have hjd:j / 5<d.length:=by omega
      have hx:L[j / 5]?=some (d[j / 5]).1:=by rw [<- hd];simp [hjd]
      obtain⟨n,n1,n2⟩:=encL_get d[j / 5] (j % 5) (Nat.mod_lt _ (by decide));have hju:j<us.size:=by have:=Nat.mul_le_mul_right 5 g2;omega
      have hv:=k4 j (.d (nI n)) us[j] (by rw [List.getElem?_map,flat_at L j _ hx,n1];rfl) (by simp [hju]);rw [Go.Sort.get_flatK _ _ _ _ (by rw [hsz];exact hj)];have e3:d.toArray[j / 5]! = d[j / 5]:=by simp [hjd]
      rw [e3,n2];refine⟨?_,?_⟩
      .simp only [World.cell?,k1,Nat.zero_add]
       rw [show us[j]?=some us[j] by simp [hju]];generalize us[j]=u at hv |-;cases hv with
       |d hv=>cases hv;rfl
      .simp only [World.frozen?,k1];simp
     have eg:∀ args w,(callFunc 84 args).run Try.prog w=.ok (.enter 84 args) w:=enters_of Try.func84 (by kernel_rfl) rfl;have hcon:=AnyQ.slices_SortFunc_total Try.sortLk 5 Try.isAgg52 Try.sizeOf52 encL (fun _=>rfl) (fun x v hv=>by simp [encL] at hv;rcases hv with rfl|rfl|rfl|rfl|rfl<;>rfl) cfL cfL_swo 84 #[] bi.blk 0 c d.toArray w eg (cmpLaysK bi.blk 0 _ w) hH hblk (by omega) cfL_total;rw [hsz] at hcon;refine(callsIn_wide (n:=0)).2 (hcon.mono fun e w' he=>?_);obtain⟨rfl,n,os,rfl⟩:=he;refine .inl ⟨_,D,β,rfl,?_,.tup rfl (fun j c v hc=>by simp at hc)⟩;have hMt:(d.toArray.toList.mergeSort fun x y=>!ltOf cfL y x)=M:=by rw [<- hM]
     rw [hMt]
     show Step D β objs w D β _ (Go.Sort.grow (Go.Sort.putRowK encL 5 (Go.Sort.ahead w n) bi.blk 0 M.toArray) os)
     have hMs:M.toArray.size=L.length:=by simpa using hMl
     have hput:Go.Sort.putRowK encL 5 (Go.Sort.ahead w n) bi.blk 0 M.toArray=putB (Go.Sort.ahead w n) bi.blk (.cells (Go.Sort.putCells id 0 (Go.Sort.flatK encL 5 M.toArray) us) T (0,0)):=by
      unfold Go.Sort.putRowK Go.Sort.putRow Go.Sort.mapBlock putB
      congr 1
      refine Array.ext_getElem? fun k=>?_;rw [Array.getElem?_modify,Array.getElem?_setIfInBounds];have kw:(Go.Sort.ahead w n).heap=w.heap:=rfl;rw [kw];by_cases hk:bi.blk=k
      .subst hk
       rw [if_pos rfl,if_pos rfl,if_pos hblk,k1];rfl
      .rw [if_neg hk,if_neg hk]
     rw [hput];have own:∀ Q,ownOf bi (vecL Q)=some bi.blk:=fun Q=>by simp only [ownOf,hh,Option.bind_some,Option.map_some]
     have hflat:∀ j,j<L.length*5->∃ m,(flatD ((M.map (·.1)).map lk))[j]?=some (nI m)/\(Go.Sort.flatK encL 5 M.toArray)[j]! = vI m:=fun j hj=>by
      have hjd:j / 5<M.length:=by omega
      obtain⟨m,n1,n2⟩:=encL_get M[j / 5] (j % 5) (Nat.mod_lt _ (by decide));refine⟨m,?_,?_⟩
      .rw [flat_at (M.map (·.1)) j M[j / 5].1 (by simp [hjd]),n1]
      .rw [Go.Sort.get_flatK _ _ _ _ (by rw [hMs];exact hj)]
       have e3:M.toArray[j / 5]! = M[j / 5]:=by simp [hjd]
       rw [e3,n2]
     refine step_sorted hp hb hi (own L) (fun b' hb'=>by rw [own] at hb';cases hb';rfl) (fun ad had=>k6 ad had) n os ?_;refine⟨_,cap,hh,by simpa [hMl] using g2,g3,by rw [List.length_map,flat_len],g5,fun ad e=>?_⟩;cases e;have hus:(Go.Sort.putCells id 0 (Go.Sort.flatK encL 5 M.toArray) us).size=us.size:=by simp [Go.Sort.putCells]
     have hget:∀ j,(Go.Sort.putCells id 0 (Go.Sort.flatK encL 5 M.toArray) us)[j]?=us[j]?.map fun x=>if j<L.length*5 then(Go.Sort.flatK encL 5 M.toArray)[j]! else x:=fun j=>by
      simp only [Go.Sort.putCells,Array.getElem?_mapIdx,Go.Sort.size_flatK,hMs,Nat.zero_le,true_and,Nat.zero_add,Nat.sub_zero,id]
     refine⟨rfl,_,T,⟨putB_eq hblk,k2⟩,by rw [hus];exact k3,fun j c v hc hv=>?_,fun j v hv=>?_,k6⟩
     .rw [List.getElem?_map,Option.map_eq_some_iff] at hc
      obtain⟨c',hc',rfl⟩:=hc;have hj:j<L.length*5:=by
       have:=(List.getElem?_eq_some_iff.1 hc').1;rw [flat_len,List.length_map,hMl] at this;exact this
      obtain⟨m,m1,m2⟩:=hflat j hj;rw [m1] at hc';cases hc';rw [hget,Option.map_eq_some_iff] at hv;obtain⟨u,_,hv⟩:=hv;rw [if_pos hj,m2] at hv;subst hv;exact .d .int
     .rw [hget,Option.map_eq_some_iff] at hv
      obtain⟨u,hu,hv⟩:=hv;by_cases hj:j<L.length*5
      .obtain⟨m,m1,m2⟩:=hflat j hj
       rw [if_pos hj,m2] at hv;subst hv;rfl
      .rw [if_neg hj] at hv
       subst hv;exact k5 j u hu
theorem sortNil:KnownCall Try.prog 100 [.nilsl,cmpF] (.tup []):=by
 intro o;refine⟨enters_of Try.func100 (by kernel_rfl) rfl,fun D β w vs hp hr=>?_⟩;obtain⟨v0,v1,rfl,h0⟩:∃ v0 v1,vs=#[v0,v1]/\RepA D β (.d .nilsl) v0:=by
  obtain⟨l⟩:=vs;obtain⟨h1,h2⟩:=hr
  match l,h1 with
  |[a,b],_=>exact⟨a,b,rfl,h2 0 _ a rfl rfl⟩
 cases h0 with
 |d h0 =>
  cases h0;refine(callsIn_wide (n:=0)).2 ((AnyF.slices_SortFunc_none { Try.sortLk with } none 0 v1 w).mono fun e w' he=>?_);obtain⟨rfl,rfl⟩:=he;exact .inl ⟨_,D,β,rfl,Step.refl hp,.tup rfl (fun j c v hc=>by simp at hc)⟩
theorem chunk5:∀ (L:List (List Nat)),chunk true 5 L.length (flatD (L.map lk))=L.map lk
 |[]=>rfl
 |x :: L=>by
  have e:flatD ((x :: L).map lk)=lkC x++flatD (L.map lk):=by simp [flatD,cellsD]
  rw [e]
  show elemA true 5 (lkC x++flatD (L.map lk)) :: chunk true 5 L.length ((lkC x++flatD (L.map lk)).drop 5)=_
  rw [show(lkC x++flatD (L.map lk)).drop 5=flatD (L.map lk) from rfl,chunk5 L]
  rfl
theorem allM_d (objs:List Ob) (k:Nat):∀ l:List DV,allM (dvOf objs k) (l.map AV.d)=some l
 |[]=>rfl
 |x :: l=>by simp only [List.map_cons,allM,allM_d objs k l,dvOf]
theorem close_vec {objs:List Ob} {i:Nat} {L:List (List Nat)} (h:objs[i]?=some (vecL L)):closeA objs 8 (.vs i 5 0 L.length)=some (.d (lks L)):=by
 have e:List.take (L.length*5) (List.drop (0*5) ((flatD (L.map lk)).map AV.d))=(flatD (L.map lk)).map AV.d:=by
  rw [Nat.zero_mul,List.drop_zero];exact List.take_of_length_le (by rw [List.length_map,flat_len];exact Nat.le_refl _)
 have h1:(Nat.beq 5 5 && Nat.ble (0+L.length) L.length && Nat.ble 1 5 && (true || Nat.beq 5 1))=true:=by
  rw [Nat.zero_add,Nat.ble_eq_true_of_le (Nat.le_refl L.length)];rfl
 have h2:dvOf objs 8 (.vs i 5 0 L.length)=some (lks L):=by
  simp only [dvOf,h];rw [if_pos h1,e,allM_d,Option.map_some,chunk5]
 simp only [closeA,h2,Option.map_some]
section
variable {E:PT Ty} {H:Hd} {frz:List Nat} {rd:Operand->AV} {objs:List Ob} {o:Oper} {t kt et:TypeId} {y:Ty} {yt:Ty} {m k st v:Operand} {i j:Nat} {kk d z:DV} {kvs:List (DV × DV)} {r:Option (Nat × DV)}
theorem evK_lookup (hop:o.op=.lookup t m k false) (h1:E.get? t=some yt) (h2:yt.desc=.map kt et) (h3:E.get? et=some y) (hkt:keyT E kt kk=true) (hm:rd m=.mp i) (hi:objs[i]?=some (.map kvs)) (hk:rd k=.d kk)
  (hf:findKV (eqKey E kt) kk kvs=some r) (hz:zeroD y=some z):evAny E H frz rd objs o=some (.d (match r with|some p=>p.2|none=>z),none,true):=by
 obtain⟨dst,op,ty,pos,after,guard⟩:=o;obtain⟨desc,size,bytes,zero⟩:=yt;simp only at hop h2;subst hop h2;simp only [evAny,quiet,evOp,lookupR,h1,hk,h3,hkt,kvsOf,hm,hi,hf];cases r with
 |none=>simp only [hz,pureR,Option.map_some]
 |some p=>obtain⟨j,v⟩:=p;simp only [pureR,Option.map_some]
theorem evK_lookupOp (h1:E.get? t=some yt) (h2:yt.desc=.map kt et) (h3:E.get? et=some y) (hkt:keyT E kt kk=true) (hm:rd m=.mp i) (hi:objs[i]?=some (.map kvs)) (hk:rd k=.d kk)
  (hf:findKV (eqKey E kt) kk kvs=some r) (hz:zeroD y=some z):evOp E rd objs (.lookup t m k false)=some (.d (r.elim z (·.2)),objs,true):=by
 obtain⟨desc,size,bytes,zero⟩:=yt;simp only at h2;subst h2;simp only [evOp,lookupR,h1,hk,h3,hkt,kvsOf,hm,hi,hf];cases r with
 |none=>simp only [hz,pureR,Option.elim]
 |some p=>obtain⟨j,v⟩:=p;simp only [pureR,Option.elim]
theorem evK_entry (hop:o.op=.mapEntry t m k) (h1:E.get? t=some yt) (h2:yt.desc=.map kt et) (h3:E.get? et=some y) (hkt:keyT E kt kk=true) (hm:rd m=.mp i) (hi:objs[i]?=some (.map kvs)) (hk:rd k=.d kk)
  (hf:findKV (eqKey E kt) kk kvs=some (some (j,d))):evAny E H frz rd objs o=some (.tup [.d d,.d (.int .i64 (j:Nat))],some (objs.set i (.map kvs)),true):=by
 obtain⟨dst,op,ty,pos,after,guard⟩:=o;obtain⟨desc,size,bytes,zero⟩:=yt;simp only at hop h2;subst hop h2;simp only [evAny,quiet,evOp,mapEntryR,h1,hk,h3,hkt,hm,hi,hf,pureR,Option.map_some]
theorem evK_entryNew (hop:o.op=.mapEntry t m k) (h1:E.get? t=some yt) (h2:yt.desc=.map kt et) (h3:E.get? et=some y) (hkt:keyT E kt kk=true) (hm:rd m=.mp i) (hi:objs[i]?=some (.map kvs)) (hk:rd k=.d kk)
  (hf:findKV (eqKey E kt) kk kvs=some none) (hz:zeroD y=some z):evAny E H frz rd objs o=some (.tup [.d z,.d (.int .i64 (kvs.length:Nat))],some (objs.set i (.map (kvs++[(kk,z)]))),true):=by
 obtain⟨dst,op,ty,pos,after,guard⟩:=o;obtain⟨desc,size,bytes,zero⟩:=yt;simp only at hop h2;subst hop h2;simp only [evAny,quiet,evOp,mapEntryR,h1,hk,h3,hkt,hm,hi,hf,hz,pureR,Option.map_some]
theorem evK_store (hop:o.op=.entryStore t m st v) (hm:rd m=.mp i) (hi:objs[i]?=some (.map kvs)) (hs:rd st=.d (.int .i64 (j:Nat))) (hv:rd v=.d d) (hj:j<kvs.length) :
  evAny E H frz rd objs o=some (.d .any,some (objs.set i (.map (kvs.modify j fun p=>(p.1,d)))),true):=by
 obtain⟨dst,op,ty,pos,after,guard⟩:=o;simp only at hop;subst hop;have hb:inB (j:Int) kvs.length=true:=by simp only [inB,Bool.and_eq_true,decide_eq_true_eq];omega
 simp only [evAny,quiet,evOp,entryStoreR,hm,hs,hv,hi,hb,Int.toNat_natCast,Option.map_some]
end
abbrev CM:=List (List Nat × Nat)
abbrev kvM (M:CM):List (DV × DV):=M.map fun p=>(lk p.1,nI p.2)
theorem eqKeyL (x y:List Nat) (hx:x.length<=4):eqKey Et 52 (lk x) (lk y)=some (decide (x=y)):=by
 have e1:eqAgg Et 52 (lkC x) (lkC y)=some (((x.length:Int) == (y.length:Int)) && ((((x.getD 0 0:Nat):Int) == ((y.getD 0 0:Nat):Int)) && ((((x.getD 1 0:Nat):Int) == ((y.getD 1 0:Nat):Int)) && ((((x.getD 2 0:Nat):Int) == ((y.getD 2 0:Nat):Int)) && ((((x.getD 3 0:Nat):Int) == ((y.getD 3 0:Nat):Int)) && true))) && true)):=rfl;have e2:eqCells (lkC x) (lkC y)=some (((x.length:Int) == (y.length:Int)) && ((((x.getD 0 0:Nat):Int) == ((y.getD 0 0:Nat):Int)) && ((((x.getD 1 0:Nat):Int) == ((y.getD 1 0:Nat):Int)) && ((((x.getD 2 0:Nat):Int) == ((y.getD 2 0:Nat):Int)) && ((((x.getD 3 0:Nat):Int) == ((y.getD 3 0:Nat):Int)) && true))))):=rfl
 show(match eqAgg Et 52 (lkC x) (lkC y),eqCells (lkC x) (lkC y) with
  |some true,some true=>some true
  |some false,some false=>some false
  |_,_=>none)=_
 rw [e1,e2];clear e1 e2;by_cases h:x=y
 .subst h;simp
 .have hb:∀ b:Bool,(b=true->x=y)->b=false:=fun b hb=>by
   cases b with
   |false=>rfl
   |true=>exact absurd (hb rfl) h
  generalize hB1:(((x.length:Int) == (y.length:Int)) && ((((x.getD 0 0:Nat):Int) == ((y.getD 0 0:Nat):Int)) && ((((x.getD 1 0:Nat):Int) == ((y.getD 1 0:Nat):Int)) && ((((x.getD 2 0:Nat):Int) == ((y.getD 2 0:Nat):Int)) && ((((x.getD 3 0:Nat):Int) == ((y.getD 3 0:Nat):Int)) && true))) && true))=B1;generalize hB2:(((x.length:Int) == (y.length:Int)) && ((((x.getD 0 0:Nat):Int) == ((y.getD 0 0:Nat):Int)) && ((((x.getD 1 0:Nat):Int) == ((y.getD 1 0:Nat):Int)) && ((((x.getD 2 0:Nat):Int) == ((y.getD 2 0:Nat):Int)) && ((((x.getD 3 0:Nat):Int) == ((y.getD 3 0:Nat):Int)) && true)))))=B2;obtain rfl:B1=false:=hb _ fun he=>by
   rw [he] at hB1;simp only [Bool.and_eq_true,beq_iff_eq] at hB1;exact lk_inj hx (by omega) (by omega) (by omega) (by omega) (by omega)
  obtain rfl:B2=false:=hb _ fun he=>by
   rw [he] at hB2;simp only [Bool.and_eq_true,beq_iff_eq] at hB2;exact lk_inj hx (by omega) (by omega) (by omega) (by omega) (by omega)
  simp [h]
theorem keyTL (x:List Nat):keyT Et 52 (lk x)=true:=rfl
theorem findM_none {x:List Nat} (hx:x.length<=4):∀ {M:CM},x ∉ M.map (·.1)->findKV (eqKey Et 52) (lk x) (kvM M)=some none
 |[],_=>rfl
 |p :: M,h=>by
  simp only [List.map_cons,List.mem_cons,not_or] at h;simp only [kvM,List.map_cons,findKV,eqKeyL x p.1 hx,decide_eq_false h.1];have:=findM_none hx h.2;simp only [kvM] at this;rw [this];rfl
theorem findM_at {x:List Nat} (hx:x.length<=4) {c:Nat} {R:CM}:∀ {A:CM},x ∉ A.map (·.1)->findKV (eqKey Et 52) (lk x) (kvM (A++(x,c) :: R))=some (some (A.length,nI c))
 |[],_=>by
  simp only [kvM,List.nil_append,List.map_cons,findKV,eqKeyL x x hx,decide_eq_true,List.length_nil]
 |p :: A,h=>by
  simp only [List.map_cons,List.mem_cons,not_or] at h;simp only [kvM,List.cons_append,List.map_cons,findKV,eqKeyL x p.1 hx,decide_eq_false h.1];have:=findM_at hx (c:=c) (R:=R) h.2;simp only [kvM] at this;rw [this];rfl
def incM:CM->List Nat->CM
 |[],x=>[(x,1)]
 |p :: M,x=>if p.1=x then(p.1,p.2+1) :: M else p :: incM M x
theorem incM_new {x:List Nat}:∀ {M:CM},x ∉ M.map (·.1)->incM M x=M++[(x,1)]
 |[],_=>rfl
 |p :: M,h=>by
  simp only [List.map_cons,List.mem_cons,not_or] at h;rw [incM,if_neg (fun e=>h.1 e.symm),incM_new h.2];rfl
theorem incM_at {x:List Nat} {c:Nat} {R:CM}:∀ {A:CM},x ∉ A.map (·.1)->incM (A++(x,c) :: R) x=A++(x,c+1) :: R
 |[],_=>by simp [incM]
 |p :: A,h=>by
  simp only [List.map_cons,List.mem_cons,not_or] at h;rw [List.cons_append,incM,if_neg (fun e=>h.1 e.symm),incM_at h.2];rfl
theorem split_key {x:List Nat}:∀ {M:CM},x ∈ M.map (·.1)->∃ A c R,M=A++(x,c) :: R/\x ∉ A.map (·.1)
 |[],h=>by simp at h
 |p :: M,h=>by
  by_cases e:p.1=x
  .exact⟨[],p.2,M,by rw [<- e];rfl,by simp⟩
  .simp only [List.map_cons,List.mem_cons] at h
   obtain⟨A,c,R,h1,h2⟩:=split_key (h.resolve_left (fun h=>e h.symm));exact⟨p :: A,c,R,by rw [h1];rfl,by simp only [List.map_cons,List.mem_cons,not_or];exact⟨fun h=>e h.symm,h2⟩⟩
def cntM (L:List (List Nat)):CM:=L.foldl incM []
theorem cntM_succ {L:List (List Nat)} {k:Nat} {x:List Nat} (h:L[k]?=some x):cntM (L.take (k+1))=incM (cntM (L.take k)) x:=by
 unfold cntM;rw [List.take_add_one,h,List.foldl_append];rfl
def dst (L:List (List Nat)):List (List Nat):=(cntM L).map (·.1)
theorem incM_keys {M:CM} {x:List Nat}:(incM M x).map (·.1)=if x ∈ M.map (·.1) then M.map (·.1) else M.map (·.1)++[x]:=by
 by_cases h:x ∈ M.map (·.1)
 .obtain⟨A,c,R,rfl,h2⟩:=split_key h
  rw [if_pos h,incM_at h2];simp
 .rw [if_neg h,incM_new h];simp
theorem dst_succ {L:List (List Nat)} {k:Nat} {x:List Nat} (h:L[k]?=some x):dst (L.take (k+1))=if x ∈ dst (L.take k) then dst (L.take k) else dst (L.take k)++[x]:=by
 unfold dst;rw [cntM_succ h];exact incM_keys
theorem incM_pos {M:CM} {x:List Nat} (h:∀ p ∈ M,1<=p.2):∀ p ∈ incM M x,1<=p.2:=by
 by_cases hx:x ∈ M.map (·.1)
 .obtain⟨A,c,R,rfl,h2⟩:=split_key hx
  rw [incM_at h2];intro p hp;simp only [List.mem_append,List.mem_cons] at hp;rcases hp with hp|rfl|hp
  .exact h p (by simp [hp])
  .simp
  .exact h p (by simp [hp])
 .rw [incM_new hx]
  intro p hp;simp only [List.mem_append,List.mem_cons,List.not_mem_nil,or_false] at hp;rcases hp with hp|rfl
  .exact h p hp
  .simp
theorem cntM_inv (L:List (List Nat)):∀ k,k<=L.length->(∀ p ∈ cntM (L.take k),1<=p.2/\p.2<=k)/\(dst (L.take k)).Nodup/\(dst (L.take k)).length<=k/\∀ x,x ∈ dst (L.take k) ↔ x ∈ L.take k
 |0,_=>by simp [cntM,dst]
 |k+1,hk=>by
  obtain⟨h1,h2,h3,h4⟩:=cntM_inv L k (by omega);obtain⟨x,hx⟩:=get_ok (show k<L.length by omega);rw [dst_succ hx,cntM_succ hx];have ht:L.take (k+1)=L.take k++[x]:=by rw [List.take_add_one,hx];rfl
  refine⟨?_,?_,?_,fun y=>?_⟩
  .intro p hp
   refine⟨incM_pos (fun p hp=>(h1 p hp).1) p hp,?_⟩;by_cases hm:x ∈ (cntM (L.take k)).map (·.1)
   .obtain⟨A,c,R,e,e2⟩:=split_key hm
    rw [e,incM_at e2] at hp;simp only [List.mem_append,List.mem_cons] at hp;rcases hp with hp|rfl|hp
    .have:=(h1 p (by rw [e];simp [hp])).2;omega
    .have:=(h1 (x,c) (by rw [e];simp)).2;simp only at this |-;omega
    .have:=(h1 p (by rw [e];simp [hp])).2;omega
   .rw [incM_new hm] at hp
    simp only [List.mem_append,List.mem_cons,List.not_mem_nil,or_false] at hp;rcases hp with hp|rfl
    .have:=(h1 p hp).2;omega
    .simp
  .by_cases hm:x ∈ dst (L.take k)
   .rw [if_pos hm];exact h2
   .rw [if_neg hm,List.nodup_append]
    exact⟨h2,by simp,fun a ha b hb=>by simp at hb;subst hb;exact fun e=>hm (e ▸ ha)⟩
  .by_cases hm:x ∈ dst (L.take k)
   .rw [if_pos hm];omega
   .rw [if_neg hm,List.length_append];simp;omega
  .rw [ht]
   by_cases hm:x ∈ dst (L.take k)
   .rw [if_pos hm,h4]
    simp only [List.mem_append,List.mem_cons,List.not_mem_nil,or_false];refine⟨.inl,fun h=>h.elim id fun e=>?_⟩;subst e;exact(h4 _).1 hm
   .rw [if_neg hm]
    simp only [List.mem_append,h4]
theorem Run.rangeIt {nt m:Nat} {frz:List Nat} {K:Ex->S->Prop} {tm:PT AV} {dl:List Dl} {f:Operand} {qs:Array Tmp} {assign body:Code} (L:Nat) (Bs Xs:Nat->List Ob) {F:DV} {E:List (List Nat)} (hit:IterOK F E)
  (hf:rd tm f=.d F) (hX0:Xs 0=[]) (hBL:∀ k,(Bs k).length=L) (hBr:∀ k,(Bs k).all (refOb (L+2+(Xs k).length))=true) (hXr:∀ k,(Xs k).all (refOb (L+2+(Xs k).length))=true) (hT:∀ n,ptAll (refA 8 (L+2+n)) tm=true)
  (hround:∀ k x,E[k]?=some x->AYield Try.prog (L+1) [.d (lk x)] (rangeObs (Bs k) tm nt frz qs assign body .ready none++Xs k) (.d (.bool true)) (rangeObs (Bs (k+1)) tm nt frz qs assign body .ready none++Xs (k+1)))
  (hend:K .normal ⟨tm,rangeObs (Bs E.length) tm nt frz qs assign body .exhausted none++Xs E.length,.mark L :: dl⟩) :
  Run Try.prog nt m none (.rangeFunc f qs assign body) ⟨tm,Bs 0,dl⟩ K:=by
 obtain⟨g,a,b,rfl,hA0⟩:=hit;have hlen:∀ k,(rangeObs (Bs k) tm nt frz qs assign body .ready none++Xs k).length=L+2+(Xs k).length:=fun k=>by simp [rangeObs,hBL k];omega
 have hrefs:∀ k,(rangeObs (Bs k) tm nt frz qs assign body .ready none++Xs k).all (refOb (rangeObs (Bs k) tm nt frz qs assign body .ready none++Xs k).length)=true:=fun k=>by
  rw [hlen k];simp only [rangeObs,List.all_append,hBr k,hXr k,Bool.true_and,List.all_cons,List.all_nil,Bool.and_true];simp only [refOb,hT,Bool.and_self]
 have hget:∀ k,(rangeObs (Bs k) tm nt frz qs assign body .ready none++Xs k)[L+1]?=some (.loop tm nt frz qs assign body .ready none):=fun k=>by
  have:=hBL k;subst this;simp [rangeObs]
 have hset:∀ k,(rangeObs (Bs k) tm nt frz qs assign body .ready none++Xs k).set (L+1) (.loop tm nt frz qs assign body .exhausted none)=rangeObs (Bs k) tm nt frz qs assign body .exhausted none++Xs k:=fun k=>by
  have:=hBL k;subst this;rw [List.set_append_left _ _ (by simp [rangeObs])]
  congr 1
  unfold rangeObs;rw [List.set_append_right _ _ (by simp)]
  simp
 have hm:Try.prog.follows .mixedOrders=true:=by kernel_rfl
 have hA:=hA0 (L+1) (fun k=>rangeObs (Bs k) tm nt frz qs assign body .ready none++Xs k) (fun k=>by rw [hlen k];omega) (fun k=>by rw [hlen 0,hlen k,hX0];simp) hrefs hround;simp only [hX0,List.append_nil] at hA;rw [<- hBL 0] at hA;have:=Run.range (m:=m) (s:=⟨tm,Bs 0,dl⟩) (K:=K) Yo hm hf hA rfl (by rw [hBL 0];exact hget _) (by simp) (by
  simp only [hBL 0];rw [hset];exact hend)
 exact this
def outV:List (List Nat)->AV
 |[]=>.d .nilsl
 |_ :: r=>.vs (r.length+5) 5 0 (r.length+1)
def outX:List (List Nat)->List Ob
 |[]=>[]
 |x :: r=>List.replicate r.length .gone++[vecL (x :: r)]
theorem outX_len:∀ D,(outX D).length=D.length
 |[]=>rfl
 |x :: r=>by simp [outX]
abbrev srB (M:CM):List Ob:=[.map (kvM M),.box [.mp 0],.box [outV (M.map (·.1))]]
theorem ref_vec (D:List (List Nat)) (n:Nat):refOb n (vecL D)=true:=by
 simp only [refOb,List.all_map,List.all_eq_true];intro x _;rfl
theorem outX_ref (n:Nat):∀ D,(outX D).all (refOb n)=true
 |[]=>rfl
 |x :: r=>by
  simp only [outX,List.all_append,List.all_cons,List.all_nil,ref_vec,Bool.and_true,List.all_eq_true];intro o ho;rw [(List.mem_replicate.1 ho).2];rfl
theorem srB_ref (M:CM):(srB M).all (refOb (3+2+(outX (M.map (·.1))).length))=true:=by
 cases M with
 |nil=>rfl
 |cons p M =>
  simp only [List.all_cons,List.all_nil,Bool.and_true];rw [outX_len];have h:refOb (3+2+((p :: M).map (·.1)).length) (.box [outV ((p :: M).map (·.1))])=true:=by
   simp only [List.map_cons,outV,refOb,refA,List.all_cons,List.all_nil,Bool.and_true,List.length_cons,List.length_map];rw [Nat.blt_eq];omega
  rw [h];rfl
section
variable {frz:List Nat} {rd:Operand->AV} {objs:List Ob} {o:Oper}
theorem evAny_appV {args:Array Operand} {tys:Array TypeId} {a b:Operand} {x:List Nat} {i:Nat} {D:List (List Nat)} (hop:o.op=.call ⟨.builtin .append,args,tys⟩) (ha:args.toList=[a,b]) (ht:tys.toList=[24,24]) (hv:hintV o.dst frz=true)
  (hb:rd b=.d (.sl 5 [lk x])) (h7:rd a=.vs i 5 0 D.length) (h8:objs[i]?=some (vecL D)) (hlen:D.length<=16777215) :
  evAny Et H0 frz rd objs o=some (.vs objs.length 5 0 (D.length+1),some (objs.set i .gone++[vecL (D++[x])]),true):=by
 obtain⟨dst,op,ty,pos,after,guard⟩:=o;simp only at hop hv;subst hop;have hs:appSrc0 Et 52 24 (.d (.sl 5 [lk x])) objs=some (5,[lk x]):=rfl;have e1:Et.get? 24=some ty24:=rfl;have e2:Et.get? 52=some ty52:=rfl;have hf:flatD ((D++[x]).map lk)=flatD (D.map lk)++flatD [lk x]:=by simp [flatD]
 have ht2:List.take (D.length*5) ((flatD (D.map lk)).map AV.d)=(flatD (D.map lk)).map AV.d:=List.take_of_length_le (by rw [List.length_map,flat_len];exact Nat.le_refl _);have hm:Nat.ble ((D.length+1)*ty52.bytes) 1099511627776=true:=Nat.ble_eq_true_of_le (Nat.le_trans (Nat.mul_le_mul (show D.length+1<=16777216 by omega) (Nat.le_refl _)) (by decide));have hn:Nat.ble D.length D.length=true:=Nat.ble_eq_true_of_le (Nat.le_refl _);simp only [evAny,ha,ht,hv,hb,h7,appendR,e1]
 show Option.map _ (match some ty52,appSrc0 Et 52 24 (.d (.sl 5 [lk x])) objs with
  |some z,some (szx,ys)=>_
  |_,_=>none)=_
 rw [hs];simp only [h8];rw [if_pos (by rfl),if_pos (by rfl)];have e3:(List.take (D.length*5) ((flatD (D.map lk)).map AV.d)++(flatD [lk x]).map AV.d)=(flatD ((D++[x]).map lk)).map AV.d:=by rw [ht2,hf,List.map_append]
 have e4:(D++[x]).length=D.length+1:=by simp
 have e5:vecL (D++[x])=.vec 52 true 5 (D.length+1) (List.take (D.length*5) ((flatD (D.map lk)).map AV.d)++(flatD [lk x]).map AV.d):=by rw [e3,vecL,e4]
 rw [e5];simp only [Option.map_some,List.length_cons,List.length_nil,Nat.zero_add,hn,hm,Bool.and_self]
end
theorem get_vec (a b c d e:Ob) (x:List Nat) (r:List (List Nat)):([a,b,c]++[d,e]++outX (x :: r))[r.length+5]?=some (vecL (x :: r)):=by
 show(outX (x :: r))[r.length]?=_
 rw [outX,List.getElem?_append_right (by simp)];simp
theorem set_vec (a b c d e:Ob) (x y:List Nat) (r:List (List Nat)):([a,b,c]++[d,e]++outX (x :: r)).set (r.length+5) .gone++[vecL (x :: (r++[y]))]=[a,b,c]++[d,e]++outX (x :: (r++[y])):=by
 show a :: b :: c :: d :: e :: ((outX (x :: r)).set r.length .gone++[vecL (x :: (r++[y]))])=a :: b :: c :: d :: e :: outX (x :: (r++[y]))
 congr 5
 rw [outX,outX,List.set_append_right _ _ (by simp)];simp only [List.length_replicate,Nat.sub_self,List.set_cons_zero,List.length_append,List.length_cons,List.length_nil,List.replicate_succ',List.append_assoc]
theorem mod_at {x:List Nat} {c d:Nat} {R:CM}:∀ A:CM,(kvM (A++(x,c) :: R)).modify A.length (fun p=>(p.1,nI d))=kvM (A++(x,d) :: R)
 |[]=>by simp [kvM]
 |p :: A=>by
  have:=mod_at (x:=x) (c:=c) (d:=d) (R:=R) A;simp only [kvM,List.cons_append,List.map_cons,List.length_cons,List.modify_succ_cons] at this |-;rw [this]
set_option maxHeartbeats 2000000 in
theorem sortedK (F:DV) (E:List (List Nat)) (hit:IterOK F E) (hR:∀ x ∈ E,Rt x) (hl:E.length<=100000):∃ L':List (List Nat),L'.Perm (dst E)/\L'.Pairwise (fun x y=>¬ cmpL y x<0)/\KnownCall Try.prog 73 [F] (.d (lks L')):=by
 have w:Fz [21,65558]:=trivial;have hinv:=cntM_inv E;have hfin:=hinv E.length (Nat.le_refl _);rw [List.take_length] at hfin;obtain⟨L',hp,hs,hA⟩:=sortA (dst E) (fun x hx=>hR x ((hfin.2.2.2 x).1 hx)) (by omega);refine⟨L',hp,hs,?_⟩;have hLl:L'.length=(dst E).length:=hp.length_eq;have w:Fz [21,65558]:=trivial;refine knownE2 Yo (fnB Try.func73 [21,65558]) ?_
 repeat' (first|refine zW ?_|refine zB ?_ ?_<;>intro h<;>try exact zk h|refine zX ?_|(refine Yt ?_;refine r2 ?_;first|done|(skip))|fail)
 refine Run.tidy (s':=⟨PT.ofList [(3,.bp 1 0),(4,.bp 2 0),(7,.d F)],[.map [],.box [.mp 0],.box [.d .nilsl]],[]⟩) (ti _ 3) ?_;refine Run.rangeIt (frz:=[21,65558]) 3 (fun k=>srB (cntM (E.take k))) (fun k=>outX (dst (E.take k))) hit rfl rfl (fun _=>rfl) (fun k=>srB_ref _) (fun k=>outX_ref _ _) (fun n=>by rw [show 3+2+n=n+5 by omega];rfl) (fun k x hx=>?_) ?_
 .have hk:=(List.getElem?_eq_some_iff.1 hx).1
  obtain⟨i1,i2,i3,i4⟩:=hinv k (by omega);have hxR:=(hR x (List.mem_of_getElem? hx)).len;have e1:=cntM_succ hx;have e2:=dst_succ hx;rw [e1,e2];unfold dst at *;generalize cntM (E.take k)=M at *;refine ayield_box (L:=3) (lkC x) [(3,.bp 1 0),(4,.bp 2 0),(5,.d (.ep (lkC x)))] rfl rfl rfl rfl (srB_ref _) (outX_ref _ _) (by rw [show 3+2+(outX (M.map (·.1))).length=(outX (M.map (·.1))).length+5 by omega];rfl) ⟨by simp [refA];omega,by simp [refA];omega,rfl,trivial⟩ ?_ (fun a b ha hb=>?_)
  .repeat' (first|refine zW ?_|refine zB ?_ ?_<;>intro h<;>try exact zk h|refine zX ?_|refine oV ?_ (hv:=evAny_store_last)|(refine Yt ?_;refine r2 ?_;first|done|(skip))|(fail)|fail)
   exact⟨rfl,_,rfl,ofList_cases (by intro q hq;simp only [List.mem_cons,List.not_mem_nil,or_false] at hq;rcases hq with rfl|rfl|rfl;exact .inl (by kernel_rfl);exact .inl (by kernel_rfl);exact .inr ⟨0,Nat.zero_le _,by kernel_rfl,rfl⟩)⟩
  .by_cases hm:x ∈ M.map (·.1)
   .obtain⟨A,c,R,rfl,hxA⟩:=split_key hm
    have hc:=i1 (x,c) (by simp);simp only at hc;rw [if_pos hm,incM_at hxA];have f1:=findM_at hxR (c:=c) (R:=R) hxA;have f2:=findM_at hxR (c:=c+1) (R:=R) hxA;have hmo:=mod_at (x:=x) (c:=c) (d:=c+1) (R:=R) A;have hAl:A.length<(kvM (A++(x,c) :: R)).length:=by simp [kvM]
    have hw:AV.d (.int .i64 (IntKind.i64.wrap ((c:Int)+1)))=.d (nI (c+1)):=by
     congr 2
     have:=wrap_nat (n:=c+1) (by omega);rw [<- this];congr 1
    have hkeys:(A++(x,c+1) :: R).map (·.1)=(A++(x,c) :: R).map (·.1):=by simp
    have hne:AV.d (.bool (((c+1:Nat):Int) == 1))=.d (.bool false):=by
     have:(((c+1:Nat):Int) == 1)=false:=by simp;omega
     rw [this]
    rw [show srB (A++(x,c+1) :: R)=[.map (kvM (A++(x,c+1) :: R)),.box [.mp 0],.box [outV ((A++(x,c) :: R).map (·.1))]] by rw [srB,hkeys],show srB (A++(x,c) :: R)=[.map (kvM (A++(x,c) :: R)),.box [.mp 0],.box [outV ((A++(x,c) :: R).map (·.1))]] from rfl];generalize (A++(x,c) :: R).map (·.1)=D at *;have cf:∀ (B:CM) (c:Nat) (rd:Operand->AV) (X:List Ob),rd (.tmp 9)=.mp 0->rd (.tmp 10)=.d (lk x)->findKV (eqKey Et 52) (lk x) (kvM B)=some (some (A.length,nI c))->evOp Et rd (.map (kvM B) :: X) (.lookup 134 (.tmp 9) (.tmp 10) false)=some (.d (nI c),.map (kvM B) :: X,true):=fun B c rd X h1 h2 h3 =>
     evK_lookupOp (by rfl) (by rfl) (by rfl) (keyTL x) h1 (by rfl) h2 h3 (by rfl)
    repeat refine zS ?_
    refine Run.drawC (frz:=[21,65558]) Yo (by kernel_rfl) [(2,4)] ?_;iterate 2 refine cX ?_
    refine cX (v:=.d (nI c)) ?_ (hv:=evK_lookup (by rfl) (by rfl) (by rfl) (by rfl) (keyTL x) (by rfl) (by rfl) (by rfl) f1 (by rfl));refine cX (v:=.d (nI (c+1))) ?_ (he:=hw);refine cX (objs':=[.map (kvM (A++(x,c) :: R)),.box [.mp 0],.box [outV D]]++[a,b]++outX D) ?_ (hv:=evK_entry (by rfl) (by rfl) (by rfl) (by rfl) (keyTL x) (by rfl) (by rfl) (by rfl) f1) (ho:=rfl);refine cX ?_;refine cX (objs':=[.map (kvM (A++(x,c+1) :: R)),.box [.mp 0],.box [outV D]]++[a,b]++outX D) ?_ (hv:=evK_store (by rfl) (by rfl) (by rfl) (by rfl) (by rfl) hAl) (ho:=by rw [hmo];rfl);refine EvC.nil ⟨by kernel_rfl,⟨⟨_,_,_,_,_,_,_,rfl,rfl,rfl,rfl,cf _ _ _ _ rfl rfl f1,cf _ _ _ _ rfl rfl f1⟩,trivial⟩,?_⟩
    repeat refine zS ?_
    iterate 2 refine zX ?_
    refine oV (v:=.d (nI (c+1))) ?_ (hv:=evK_lookup (by rfl) (by rfl) (by rfl) (by rfl) (keyTL x) (by rfl) (by rfl) (by rfl) f2 (by rfl));refine zV hne ?_
    repeat' (first|refine zW ?_|refine zB ?_ ?_<;>intro h<;>try exact zk h|refine zX ?_|(refine Yt ?_;refine r2 ?_;first|done|(skip))|(fail)|fail)
    exact⟨rfl,rfl⟩
   .rw [if_neg hm,incM_new hm]
    have f0:=findM_none hxR hm;have f1:=findM_at hxR (c:=0) (R:=[]) hm;have f2:=findM_at hxR (c:=1) (R:=[]) hm;have hap:kvM M++[(lk x,nI 0)]=kvM (M++[(x,0)]):=by simp [kvM]
    have hmo:(kvM (M++[(x,0)])).modify (kvM M).length (fun p=>(p.1,nI 1))=kvM (M++[(x,1)]):=by
     have:=mod_at (x:=x) (c:=0) (d:=1) (R:=[]) M
     rwa [show M.length=(kvM M).length by simp [kvM]] at this
    have hAl:(kvM M).length<(kvM (M++[(x,0)])).length:=by simp [kvM]
    have hkeys:((M++[(x,1)]:CM)).map (·.1)=M.map (·.1)++[x]:=by simp
    rw [show srB (M++[(x,1)])=[.map (kvM (M++[(x,1)])),.box [.mp 0],.box [outV (M.map (·.1)++[x])]] by rw [srB,hkeys],show srB M=[.map (kvM M),.box [.mp 0],.box [outV (M.map (·.1))]] from rfl];have hDk:(M.map (·.1)).length<=100000:=by omega
    generalize M.map (·.1)=D at *;have cf:∀ (kvs:List (DV × DV)) (r:Option (Nat × DV)) (v:DV) (rd:Operand->AV) (X:List Ob),rd (.tmp 9)=.mp 0->rd (.tmp 10)=.d (lk x)->findKV (eqKey Et 52) (lk x) kvs=some r->r.elim (nI 0) (·.2)=v->evOp Et rd (.map kvs :: X) (.lookup 134 (.tmp 9) (.tmp 10) false)=some (.d v,.map kvs :: X,true):=fun kvs r v rd X h1 h2 h3 h4=>by
     rw [<- h4];exact evK_lookupOp (by rfl) (by rfl) (by rfl) (keyTL x) h1 (by rfl) h2 h3 (by rfl)
    repeat refine zS ?_
    refine Run.drawC (frz:=[21,65558]) Yo (by kernel_rfl) [(2,4)] ?_;iterate 2 refine cX ?_
    refine cX (v:=.d (nI 0)) ?_ (hv:=evK_lookup (by rfl) (by rfl) (by rfl) (by rfl) (keyTL x) (by rfl) (by rfl) (by rfl) f0 (by rfl)) (he:=rfl);refine cX (v:=.d (nI 1)) ?_ (he:=rfl);refine cX (objs':=[.map (kvM (M++[(x,0)])),.box [.mp 0],.box [outV D]]++[a,b]++outX D) ?_ (hv:=evK_entryNew (by rfl) (by rfl) (by rfl) (by rfl) (keyTL x) (by rfl) (by rfl) (by rfl) f0 (by rfl)) (ho:=by rw [<- hap];rfl);refine cX ?_;refine cX (objs':=[.map (kvM (M++[(x,1)])),.box [.mp 0],.box [outV D]]++[a,b]++outX D) ?_ (hv:=evK_store (j:=(kvM M).length) (by rfl) (by rfl) (by rfl) (by rfl) (by rfl) hAl) (ho:=by rw [hmo];rfl);refine EvC.nil ⟨by kernel_rfl,⟨⟨_,_,_,_,_,_,_,rfl,rfl,rfl,rfl,cf _ _ _ _ _ rfl rfl f0 rfl,cf _ _ _ _ _ rfl rfl f1 rfl⟩,trivial⟩,?_⟩
    repeat refine zS ?_
    iterate 2 refine zX ?_
    refine oV (v:=.d (nI 1)) ?_ (hv:=evK_lookup (by rfl) (by rfl) (by rfl) (by rfl) (keyTL x) (by rfl) (by rfl) (by rfl) f2 (by rfl));refine zV (show AV.d (.bool (((1:Nat):Int) == 1))=.d (.bool true) from rfl) ?_;cases D with
    |nil =>
     repeat' (first|refine zW ?_|refine zB ?_ ?_<;>intro h<;>try exact zk h|refine zX ?_|(refine Yt ?_;refine r2 ?_;first|done|(skip))|(fail)|fail)
     exact⟨rfl,rfl⟩
    |cons y r =>
     repeat refine zS ?_
     iterate 3 refine zX ?_
     refine oV (v:=outV (y :: (r++[x]))) (objs':=[.map (kvM (M++[(x,1)])),.box [.mp 0],.box [outV (y :: r)]]++[a,b]++outX (y :: (r++[x]))) ?_ (hv:=evAny_appV (D:=y :: r) (i:=r.length+5) (by rfl) (by rfl) (by rfl) (by rfl) (by rfl) (by rfl) (get_vec _ _ _ _ _ _ _) (by omega)) (he:=?_) (ho:=by exact set_vec _ _ _ _ _ _ _ _)
     .repeat' (first|refine zW ?_|refine zB ?_ ?_<;>intro h<;>try exact zk h|refine zX ?_|(refine Yt ?_;refine r2 ?_;first|done|(skip))|(fail)|fail)
      exact⟨rfl,rfl⟩
     .simp [outV,outX_len]
 .rw [List.take_length]
  unfold dst at *;generalize cntM E=M at *;rw [show srB M=[.map (kvM M),.box [.mp 0],.box [outV (M.map (·.1))]] from rfl];generalize M.map (·.1)=D at *;cases D with
  |nil =>
   obtain rfl:L'=[]:=List.length_eq_zero_iff.1 hLl
   repeat' (first|refine zW ?_|refine zB ?_ ?_<;>intro h<;>try exact zk h|refine zX ?_|refine zC (sortNil) ?_|(refine Yt ?_;refine r2 ?_;first|done|(exact .d .nil))|(fail)|fail)
  |cons y r =>
   repeat refine zS ?_
   refine zX ?_;refine oA (hA _ (r.length+5) (get_vec _ _ _ _ _ _ _)) ?_
   repeat refine zS ?_
   iterate 2 refine zX ?_
   refine Yn ?_;refine Yt ?_;have hLl':L'.length=r.length+1:=hLl;have hc:=fun(O:List Ob) (h:O[r.length+5]?=some (vecL L'))=>close_vec h;rw [hLl'] at hc;refine⟨trivial,_,_,_,rfl,rfl,hc _ ?_,.refl⟩;rw [List.getElem?_set_ne (by omega)];rw [List.getElem?_set_self];have:=get_vec (.map (kvM M)) (.box [.mp 0]) (.box [outV (y :: r)]) (.raw (.deferred (some []))) (.gone) y r;have:=(List.getElem?_eq_some_iff.1 this).1;simp [rangeObs] at this |-;exact this
theorem mrg_fuel (s:Bool->Bool->Bool):∀ (k:Nat) (a b:List (List Nat)),a.length+b.length<=k->mrg s (k+1) a b=mrg s k a b
 |0,[],[],_=>rfl
 |0,_ :: _,_,h=>by simp at h
 |0,[],_ :: _,h=>by simp at h
 |k+1,[],[],_=>rfl
 |k+1,[],y :: b,h=>by
  rw [mrg,mrg,mrg_fuel s k [] b (by simp at h |-;omega)]
 |k+1,x :: a,[],h=>by
  rw [mrg,mrg,mrg_fuel s k a [] (by simp at h |-;omega)]
 |k+1,x :: a,y :: b,h=>by
  simp only [List.length_cons] at h;rw [mrg,mrg,mrg_fuel s k a (y :: b) (by simp only [List.length_cons];omega),mrg_fuel s k (x :: a) b (by simp only [List.length_cons];omega),mrg_fuel s k a b (by omega)]
abbrev Asc (L:List (List Nat)):Prop:=L.Pairwise fun x y=>cmpL x y<0
theorem cmp_irr {x:List Nat}:¬ cmpL x x<0:=by rw [cmpL_self];decide
theorem cmp_tri (x y:List Nat):cmpL x y<0\/x=y\/cmpL y x<0:=by
 by_cases h:cmpL x y=0
 .exact .inr (.inl (cmpL_eq h))
 .have:=cmpL_neg x y;omega
theorem cmp_as {x y:List Nat} (h:cmpL x y<0) (k:cmpL y x<0):False:=by
 have:=cmpL_neg x y;omega
def ins (x:List Nat):List (List Nat)->List (List Nat)
 |[]=>[x]
 |y :: L=>if cmpL x y<0 then x :: y :: L else if cmpL y x<0 then y :: ins x L else y :: L
theorem mem_ins {x z:List Nat}:∀ {L:List (List Nat)},z ∈ ins x L ↔ z=x\/z ∈ L
 |[]=>by simp [ins]
 |y :: L=>by
  unfold ins;split
  .simp
  .rename_i h1
   split
   .simp only [List.mem_cons,mem_ins (L:=L)]
    constructor
    .rintro(h|h|h)<;>simp [h]
    .rintro(h|h|h)<;>simp [h]
   .rename_i h2
    have:x=y:=(cmp_tri x y).elim (fun h=>absurd h h1) fun h=>h.elim id fun h=>absurd h h2;subst this
    simp
theorem asc_ins {x:List Nat}:∀ {L:List (List Nat)},Asc L->Asc (ins x L)
 |[],_=>by simp [ins]
 |y :: L,h=>by
  have hc:=List.pairwise_cons.1 h;unfold ins;split
  .rename_i h1
   refine List.pairwise_cons.2 ⟨fun z hz=>?_,h⟩;rcases List.mem_cons.1 hz with rfl|hz
   .exact h1
   .exact cmpL_trans h1 (hc.1 z hz)
  .split
   .rename_i h2
    refine List.pairwise_cons.2 ⟨fun z hz=>?_,asc_ins hc.2⟩;rcases mem_ins.1 hz with rfl|hz
    .exact h2
    .exact hc.1 z hz
   .exact h
def ascOf (E:List (List Nat)):List (List Nat):=E.foldr ins []
theorem mem_asc {z:List Nat}:∀ {E:List (List Nat)},z ∈ ascOf E ↔ z ∈ E
 |[]=>by simp [ascOf]
 |x :: E=>by
  show z ∈ ins x (ascOf E) ↔ _
  rw [mem_ins,mem_asc,List.mem_cons]
theorem asc_asc:∀ E:List (List Nat),Asc (ascOf E)
 |[]=>List.Pairwise.nil
 |x :: E=>asc_ins (asc_asc E)
theorem ins_len (x:List Nat):∀ L:List (List Nat),(ins x L).length<=L.length+1
 |[]=>by simp [ins]
 |y :: L=>by
  unfold ins;split
  .simp
  .split
   .simp only [List.length_cons];have:=ins_len x L;omega
   .simp
theorem asc_len:∀ E:List (List Nat),(ascOf E).length<=E.length
 |[]=>by simp [ascOf]
 |x :: E=>by
  have:=ins_len x (ascOf E);have:=asc_len E
  show(ins x (ascOf E)).length<=_
  simp only [List.length_cons];omega
theorem asc_ext:∀ {A B:List (List Nat)},Asc A->Asc B->(∀ z,z ∈ A ↔ z ∈ B)->A=B
 |[],[],_,_,_=>rfl
 |[],y :: B,_,_,h=>by have:=(h y).2 (by simp);simp at this
 |x :: A,[],_,_,h=>by have:=(h x).1 (by simp);simp at this
 |x :: A,y :: B,ha,hb,h=>by
  have ca:=List.pairwise_cons.1 ha;have cb:=List.pairwise_cons.1 hb;have hxy:x=y:=by
   rcases List.mem_cons.1 ((h x).1 (by simp)) with h1|h1
   .exact h1
   .rcases List.mem_cons.1 ((h y).2 (by simp)) with h2|h2
    .exact h2.symm
    .exact(cmp_as (ca.1 y h2) (cb.1 x h1)).elim
  subst hxy
  congr 1
  refine asc_ext ca.2 cb.2 fun z=>?_;constructor
  .intro hz
   rcases List.mem_cons.1 ((h z).1 (by simp [hz])) with h1|h1
   .subst h1;exact(cmp_irr (ca.1 _ hz)).elim
   .exact h1
  .intro hz
   rcases List.mem_cons.1 ((h z).2 (by simp [hz])) with h1|h1
   .subst h1;exact(cmp_irr (cb.1 _ hz)).elim
   .exact h1
theorem asc_of_sorted {L:List (List Nat)} (h1:L.Pairwise fun x y=>¬ cmpL y x<0) (h2:L.Nodup):Asc L:=by
 refine(h1.and h2).imp fun {a b} h=>?_;rcases cmp_tri a b with h3|h3|h3
 .exact h3
 .exact absurd h3 h.2
 .exact absurd h3 h.1
theorem sortedS (F:DV) (E:List (List Nat)) (hit:IterOK F E) (hR:∀ x ∈ E,Rt x) (hl:E.length<=100000):KnownCall Try.prog 73 [F] (.d (lks (ascOf E))):=by
 obtain⟨L',hp,hs,hK⟩:=sortedK F E hit hR hl;have hi:=cntM_inv E E.length (Nat.le_refl _);rw [List.take_length] at hi;have:L'=ascOf E:=asc_ext (asc_of_sorted hs (hp.nodup_iff.2 hi.2.1)) (asc_asc E) fun z=>by rw [hp.mem_iff,hi.2.2.2,mem_asc]
 rwa [this] at hK
theorem mrg_sub (s:Bool->Bool->Bool):∀ (k:Nat) (a b:List (List Nat)) (z:List Nat),z ∈ mrg s k a b->z ∈ a\/z ∈ b
 |0,_,_,z,h=>by simp [mrg] at h
 |k+1,[],[],z,h=>by simp [mrg] at h
 |k+1,[],y :: b,z,h=>by
  simp only [mrg,List.mem_append] at h;rcases h with h|h
  .split at h<;>simp at h
   simp [h]
  .rcases mrg_sub s k [] b z h with h|h
   .simp at h
   .simp [h]
 |k+1,x :: a,[],z,h=>by
  simp only [mrg,List.mem_append] at h;rcases h with h|h
  .split at h<;>simp at h
   simp [h]
  .rcases mrg_sub s k a [] z h with h|h
   .simp [h]
   .simp at h
 |k+1,x :: a,y :: b,z,h=>by
  simp only [mrg] at h;split at h
  .rw [List.mem_append] at h
   rcases h with h|h
   .split at h<;>simp at h
    simp [h]
   .rcases mrg_sub s k a (y :: b) z h with h|h
    .simp [h]
    .exact .inr h
  .split at h
   .rw [List.mem_append] at h
    rcases h with h|h
    .split at h<;>simp at h
     simp [h]
    .rcases mrg_sub s k (x :: a) b z h with h|h
     .exact .inl h
     .simp [h]
   .rw [List.mem_append] at h
    rcases h with h|h
    .split at h<;>simp at h
     simp [h]
    .rcases mrg_sub s k a b z h with h|h<;>simp [h]
theorem mrg_spec (s:Bool->Bool->Bool):∀ (k:Nat) (a b:List (List Nat)),a.length+b.length<=k->Asc a->Asc b ->
  (∀ z,z ∈ mrg s k a b ↔ (z ∈ a\/z ∈ b)/\s (decide (z ∈ a)) (decide (z ∈ b))=true)/\Asc (mrg s k a b)
 |0,[],[],_,_,_=>by simp [mrg]
 |0,_ :: _,_,h,_,_=>by simp at h
 |0,[],_ :: _,h,_,_=>by simp at h
 |k+1,[],[],_,_,_=>by simp [mrg]
 |k+1,[],y :: b,h,ha,hb=>by
  have cb:=List.pairwise_cons.1 hb;obtain⟨h1,h2⟩:=mrg_spec s k [] b (by simp at h |-;omega) ha cb.2;have hy:y ∉ b:=fun hm=>cmp_irr (cb.1 y hm);refine⟨fun z=>?_,?_⟩
  .simp only [mrg,List.mem_append,h1]
   by_cases hz:z=y
   .subst hz
    by_cases hs:s false true=true<;>simp [hs,hy]
   .have:(z ∈ if s false true=true then [y] else []) ↔ False:=by split<;>simp [hz]
    rw [this];simp [hz]
  .simp only [mrg]
   refine List.pairwise_append.2 ⟨by split<;>simp,h2,fun u hu v hv=>?_⟩;have:u=y:=by split at hu<;>simp at hu;exact hu
   subst this;rcases mrg_sub s k [] b v hv with h|h
   .simp at h
   .exact cb.1 v h
 |k+1,x :: a,[],h,ha,hb=>by
  have ca:=List.pairwise_cons.1 ha;obtain⟨h1,h2⟩:=mrg_spec s k a [] (by simp at h |-;omega) ca.2 hb;have hx:x ∉ a:=fun hm=>cmp_irr (ca.1 x hm);refine⟨fun z=>?_,?_⟩
  .simp only [mrg,List.mem_append,h1]
   by_cases hz:z=x
   .subst hz
    by_cases hs:s true false=true<;>simp [hs,hx]
   .have:(z ∈ if s true false=true then [x] else []) ↔ False:=by split<;>simp [hz]
    rw [this];simp [hz]
  .simp only [mrg]
   refine List.pairwise_append.2 ⟨by split<;>simp,h2,fun u hu v hv=>?_⟩;have:u=x:=by split at hu<;>simp at hu;exact hu
   subst this;rcases mrg_sub s k a [] v hv with h|h
   .exact ca.1 v h
   .simp at h
 |k+1,x :: a,y :: b,h,ha,hb=>by
  have ca:=List.pairwise_cons.1 ha;have cb:=List.pairwise_cons.1 hb;have hx:x ∉ a:=fun hm=>cmp_irr (ca.1 x hm);have hy:y ∉ b:=fun hm=>cmp_irr (cb.1 y hm);simp only [List.length_cons] at h;rcases cmp_tri x y with hlt|rfl|hgt
  .obtain⟨h1,h2⟩:=mrg_spec s k a (y :: b) (by simp only [List.length_cons];omega) ca.2 hb
   have hxb:x ∉ y :: b:=fun hm=>by
    rcases List.mem_cons.1 hm with e|hm
    .subst e;exact cmp_irr hlt
    .exact cmp_as hlt (cb.1 x hm)
   refine⟨fun z=>?_,?_⟩
   .rw [mrg,if_pos hlt,List.mem_append,h1]
    by_cases hz:z=x
    .subst hz
     by_cases hs:s true false=true<;>simp [hs,hx,hxb]
    .have:(z ∈ if s true false=true then [x] else []) ↔ False:=by split<;>simp [hz]
     rw [this];simp [hz]
   .rw [mrg,if_pos hlt]
    refine List.pairwise_append.2 ⟨by split<;>simp,h2,fun u hu v hv=>?_⟩;have:u=x:=by split at hu<;>simp at hu;exact hu
    subst this;rcases mrg_sub s k a (y :: b) v hv with h|h
    .exact ca.1 v h
    .rcases List.mem_cons.1 h with rfl|h
     .exact hlt
     .exact cmpL_trans hlt (cb.1 v h)
  .obtain⟨h1,h2⟩:=mrg_spec s k a b (by omega) ca.2 cb.2
   have e0:¬ cmpL x x<0:=cmp_irr;have e1:¬ 0<cmpL x x:=by rw [cmpL_self];decide
   refine⟨fun z=>?_,?_⟩
   .rw [mrg,if_neg e0,if_neg e1,List.mem_append,h1]
    by_cases hz:z=x
    .subst hz
     by_cases hs:s true true=true<;>simp [hs,hx,hy]
    .have:(z ∈ if s true true=true then [x] else []) ↔ False:=by split<;>simp [hz]
     rw [this];simp [hz]
   .rw [mrg,if_neg e0,if_neg e1]
    refine List.pairwise_append.2 ⟨by split<;>simp,h2,fun u hu v hv=>?_⟩;have:u=x:=by split at hu<;>simp at hu;exact hu
    subst this;rcases mrg_sub s k a b v hv with h|h
    .exact ca.1 v h
    .exact cb.1 v h
  .obtain⟨h1,h2⟩:=mrg_spec s k (x :: a) b (by simp only [List.length_cons];omega) ha cb.2
   have e0:¬ cmpL x y<0:=fun h=>cmp_as h hgt;have e1:0<cmpL x y:=by have:=cmpL_neg y x;omega
   have hya:y ∉ x :: a:=fun hm=>by
    rcases List.mem_cons.1 hm with e|hm
    .subst e;exact cmp_irr hgt
    .exact cmp_as hgt (ca.1 y hm)
   refine⟨fun z=>?_,?_⟩
   .rw [mrg,if_neg e0,if_pos e1,List.mem_append,h1]
    by_cases hz:z=y
    .subst hz
     by_cases hs:s false true=true<;>simp [hs,hy,hya]
    .have:(z ∈ if s false true=true then [y] else []) ↔ False:=by split<;>simp [hz]
     rw [this];simp [hz]
   .rw [mrg,if_neg e0,if_pos e1]
    refine List.pairwise_append.2 ⟨by split<;>simp,h2,fun u hu v hv=>?_⟩;have:u=y:=by split at hu<;>simp at hu;exact hu
    subst this;rcases mrg_sub s k (x :: a) b v hv with h|h
    .rcases List.mem_cons.1 h with rfl|h
     .exact hgt
     .exact cmpL_trans hgt (ca.1 v h)
    .exact cb.1 v h
theorem mrg_or {a b:List (List Nat)} (ha:Asc a) (hb:Asc b):mrg (fun _ _=>true) (a.length+b.length) a b=ascOf (a++b):=by
 obtain⟨h1,h2⟩:=mrg_spec (fun _ _=>true) _ a b (Nat.le_refl _) ha hb;exact asc_ext h2 (asc_asc _) fun z=>by rw [h1,mem_asc,List.mem_append];simp
theorem mem_prs {k:Nat} {a b:List (List Nat)} {z:List Nat}:z ∈ prs k a b ↔ ∃ x ∈ a,∃ y ∈ b,z=(x++y).take k:=by
 simp only [prs,List.mem_flatMap,List.mem_map];constructor
 .rintro⟨x,hx,y,hy,rfl⟩;exact⟨x,hx,y,hy,rfl⟩
 .rintro⟨x,hx,y,hy,rfl⟩;exact⟨x,hx,y,hy,rfl⟩
theorem rt_take {k:Nat} (hk:k<=4) {x y:List Nat} (hx:∀ t ∈ x,t<8) (hy:∀ t ∈ y,t<8):Rt ((x++y).take k) :=
 ⟨by rw [List.length_take];omega,fun t ht=>(List.mem_append.1 (List.mem_of_mem_take ht)).elim (hx t) (hy t)⟩
theorem prs_rt {k:Nat} (hk:k<=4) {a b:List (List Nat)} (ha:∀ x ∈ a,Rt x) (hb:∀ x ∈ b,Rt x):∀ z ∈ prs k a b,Rt z:=fun z hz=>by
 obtain⟨x,hx,y,hy,rfl⟩:=mem_prs.1 hz;exact rt_take hk (ha x hx).lt (hb y hy).lt
theorem rt_nil:∀ x ∈ [([]:List Nat)],Rt x:=fun x hx=>by simp at hx;subst hx;exact⟨by simp,by simp⟩
def cutS (k:Nat) (a:List (List Nat)):List (List Nat):=ascOf (prs k a [[]])
def sumS (k:Nat) (a b:List (List Nat)):List (List Nat):=ascOf (prs k (cutS k a) (cutS k b))
theorem cutS_len (k:Nat) (a:List (List Nat)):(cutS k a).length<=a.length:=by
 have:=asc_len (prs k a [[]]);rw [prs_len] at this;simpa [cutS] using this
theorem cutS_rt {k:Nat} (hk:k<=4) {a:List (List Nat)} (ha:∀ x ∈ a,Rt x):∀ z ∈ cutS k a,Rt z:=fun z hz=>prs_rt hk ha rt_nil z (mem_asc.1 hz)
theorem sumS_len (k:Nat) (a b:List (List Nat)):(sumS k a b).length<=a.length*b.length:=by
 have:=asc_len (prs k (cutS k a) (cutS k b));rw [prs_len] at this;exact Nat.le_trans this (Nat.mul_le_mul (cutS_len k a) (cutS_len k b))
theorem cutSet (n:Nat) (h1:1<=n) (h8:n<=8) (k:Nat) (hk1:1<=k) (hk:k<=4) (a:List (List Nat)) (ha:SetOK n a):KnownCall Try.prog 40 [nI n,nI k,lks a] (.tup [.d (lks (cutS k a)),.d (.int .i64 0)]):=by
 have c0:=allS n h1 h8 [a] (by simp) (by simp [ha]);have hal:=ha.len;have c1:=aheadK k hk1 hk;have c2:=pairsK k a [[]];have c3:=sortedS _ _ (pairsIt k hk1 hk a [[]] ha.rt rt_nil (by omega) (by simp)) (prs_rt hk ha.rt rt_nil) (by rw [prs_len];simp;omega);change KnownCall _ _ _ (.d (lks (cutS k a))) at c3;refine kF Try.func40 [11,23] fun w=>?_
 repeat' (first|refine zW ?_|refine zB ?_ ?_<;>intro h<;>try exact zk h|refine zX ?_|refine zC (c0) ?_|refine zC (c1) ?_|refine zC (c2) ?_|refine zC (c3) ?_|rfl|exact zk h|fail)
theorem sumSet (n:Nat) (h1:1<=n) (h8:n<=8) (k:Nat) (hk1:1<=k) (hk:k<=4) (a b:List (List Nat)) (ha:SetOK n a) (hb:SetOK n b) (hab:a.length*b.length<=100000):KnownCall Try.prog 37 [nI n,nI k,lks a,lks b] (.tup [.d (lks (sumS k a b)),.d (.int .i64 0)]):=by
 have c0:=allS n h1 h8 [a,b] (by simp) (by simp [ha,hb]);have hal:=ha.len;have hbl:=hb.len;have c1:=aheadK k hk1 hk;have c2:=pairsK k a [[]];have c3:=sortedS _ _ (pairsIt k hk1 hk a [[]] ha.rt rt_nil (by omega) (by simp)) (prs_rt hk ha.rt rt_nil) (by rw [prs_len];simp;omega);change KnownCall _ _ _ (.d (lks (cutS k a))) at c3;have c4:=pairsK k b [[]];have c5:=sortedS _ _ (pairsIt k hk1 hk b [[]] hb.rt rt_nil (by omega) (by simp)) (prs_rt hk hb.rt rt_nil) (by rw [prs_len];simp;omega);change KnownCall _ _ _ (.d (lks (cutS k b))) at c5;have e1:=cutS_len k a;have e2:=cutS_len k b;have c6:=pairsK k (cutS k a) (cutS k b);have c7:=sortedS _ _ (pairsIt k hk1 hk (cutS k a) (cutS k b) (cutS_rt hk ha.rt) (cutS_rt hk hb.rt) (by omega) (by omega)) (prs_rt hk (cutS_rt hk ha.rt) (cutS_rt hk hb.rt)) (by rw [prs_len];exact Nat.le_trans (Nat.mul_le_mul e1 e2) hab);change KnownCall _ _ _ (.d (lks (sumS k a b))) at c7;generalize cutS k a=ca at *;generalize cutS k b=cb at *;generalize sumS k a b=sab at *;refine kF Try.func37 [15,25] fun w=>?_
 repeat' (first|refine zW ?_|refine zB ?_ ?_<;>intro h<;>try exact zk h|refine zX ?_|refine zC (c0) ?_|refine zC (c1) ?_|refine zC (c2) ?_|refine zC (c3) ?_|refine zC (c4) ?_|refine zC (c5) ?_|refine zC (c6) ?_|refine zC (c7) ?_|rfl|exact zk h|fail)
def dec (r:Raw):List Nat:=(r.s.map Int.toNat).take r.n.toNat
theorem dec_of {l:List Nat} (h:l.length<=4):dec (rawOf l)=l:=by
 match l,h with
 |[],_=>rfl
 |[a],_=>rfl
 |[a,b],_=>rfl
 |[a,b,c],_=>rfl
 |[a,b,c,d],_=>rfl
def chkG (t:Int):Option Raw->List Raw->Int
 |_,[]=>0
 |none,r :: L=>if chkR r t=0 then chkG t (some r) L else chkR r t
 |some q,r :: L=>if chkR r t=0 then(if 0<=cmpL (dec q) (dec r) then 9 else chkG t (some r) L) else chkR r t
def chkS (t:Int) (L:List Raw):Int:=if t<1\/8<t then 2 else if 4681<L.length then 6 else chkG t none L
def pv (L:List Raw):Nat->Option Raw
 |0=>none
 |j+1=>L[j]?
theorem chkG_ok {t:Int}:∀ {L:List Raw} {p:Option Raw},chkG t p L=0->(∀ r ∈ L,chkR r t=0)/\(∀ q,p=some q->∀ r,L[0]?=some r->cmpL (dec q) (dec r)<0)/\∀ i q r,L[i]?=some q->L[i+1]?=some r->cmpL (dec q) (dec r)<0
 |[],_,_=>by simp
 |r :: L,p,h=>by
  have hr:chkR r t=0:=by
   by_cases h0:chkR r t=0
   .exact h0
   .cases p<;>simp [chkG,h0] at h
  have hp:(∀ q,p=some q->cmpL (dec q) (dec r)<0)/\chkG t (some r) L=0:=by
   cases p with
   |none=>simp [chkG,hr] at h;exact⟨by simp,h⟩
   |some q =>
    simp only [chkG,hr,if_true] at h;split at h
    .omega
    .rename_i hn
     refine⟨fun q' e=>?_,h⟩;cases e;omega
  obtain⟨h1,h2,h3⟩:=chkG_ok hp.2;refine⟨fun x hx=>?_,fun q e r' e'=>?_,fun i q r' e e'=>?_⟩
  .rcases List.mem_cons.1 hx with rfl|hx
   .exact hr
   .exact h1 x hx
  .simp at e';subst e';exact hp.1 q e
  .cases i with
   |zero=>simp at e e';subst e;exact h2 _ rfl r' (by simpa using e')
   |succ i=>simp at e e';exact h3 i q r' e e'
theorem pairs_of {α:Type} {R:α->α->Prop} (ht:∀ a b c,R a b->R b c->R a c):∀ {l:List α},(∀ (i:Nat) a b,l[i]?=some a->l[i+1]?=some b->R a b)->l.Pairwise R
 |[],_=>List.Pairwise.nil
 |[a],_=>by simp
 |a :: b :: l,h=>by
  have ih:=pairs_of ht (l:=b :: l) fun i x y hx hy=>h (i+1) x y (by simpa using hx) (by simpa using hy);refine List.pairwise_cons.2 ⟨fun c hc=>?_,ih⟩;have hab:=h 0 a b rfl rfl;rcases List.mem_cons.1 hc with rfl|hc
  .exact hab
  .exact ht _ _ _ hab ((List.pairwise_cons.1 ih).1 c hc)
theorem chkS_ok {t:Int} {L:List Raw} (h:chkS t L=0):1<=t/\t<=8/\∃ L':List (List Nat),L=L'.map rawOf/\SetOK t.toNat L':=by
 unfold chkS at h;split at h
 .omega
 split at h
 .omega
 obtain⟨h1,_,h3⟩:=chkG_ok h;have hL:L=(L.map dec).map rawOf:=by
  rw [List.map_map];conv=>lhs;rw [<- List.map_id L]
  refine List.map_congr_left fun r hr=>?_;obtain⟨_,_,l,hl,e,_⟩:=chkR_raw (h1 r hr);subst e;simp only [id,Function.comp,dec_of hl.len]
 refine⟨by omega,by omega,L.map dec,hL,by rw [List.length_map];omega,fun x hx=>?_,fun x hx u hu=>?_,?_⟩
 .obtain⟨r,hr,rfl⟩:=List.mem_map.1 hx
  obtain⟨_,_,l,hl,e,_⟩:=chkR_raw (h1 r hr);subst e;rw [dec_of hl.len];exact hl
 .obtain⟨r,hr,rfl⟩:=List.mem_map.1 hx
  obtain⟨_,_,l,hl,e,hlt⟩:=chkR_raw (h1 r hr);subst e;rw [dec_of hl.len] at hu;have:=hlt u hu;omega
 .refine pairs_of (R:=fun x y=>cmpL x y<0) (fun a b c=>cmpL_trans) fun i x y hx hy=>?_
  rw [List.getElem?_map] at hx hy;obtain⟨q,hq,rfl⟩:=Option.map_eq_some_iff.1 hx;obtain⟨r,hr,rfl⟩:=Option.map_eq_some_iff.1 hy;exact h3 i q r hq hr
theorem chkG_nil (t:Int) (p:Option Raw):chkG t p []=0:=by cases p<;>rfl
theorem chkG_bad {t:Int} {p:Option Raw} {r:Raw} {L:List Raw} (h:chkR r t≠0):chkG t p (r :: L)=chkR r t:=by cases p<;>simp [chkG,h]
theorem drop_at {α:Type} {L:List α} {i:Nat} {x:α} (h:L[i]?=some x):L.drop i=x :: L.drop (i+1):=by
 obtain⟨h1,h2⟩:=List.getElem?_eq_some_iff.1 h;rw [List.drop_eq_getElem_cons h1,h2]
theorem range8 (t:Int):KnownCall Try.prog 99 [iI t] (.d (iI (if t<1\/8<t then 2 else 0))):=by
 by_cases h1:t<1\/8<t
 .rw [if_pos h1]
  refine kF Try.func99 [] fun w=>?_
  repeat' (first|refine zW ?_|refine zB ?_ ?_<;>intro h<;>try exact zk h|rfl|((exfalso;simp only [decide_eq_true_eq,decide_eq_false_iff_not] at *;omega))|fail)
 .rw [if_neg h1]
  refine kF Try.func99 [] fun w=>?_
  repeat' (first|refine zW ?_|refine zB ?_ ?_<;>intro h<;>try exact zk h|rfl|((exfalso;simp only [decide_eq_true_eq,decide_eq_false_iff_not] at *;omega))|fail)
theorem checkRef (t:Int) (L:List Raw) (hl:L.length<=1048576):KnownCall Try.prog 81 [iI t,rws L] (.d (iI (chkS t L))):=by
 have c0:=range8 t;by_cases h1:t<1\/8<t
 .rw [show chkS t L=2 by unfold chkS;rw [if_pos h1]]
  rw [if_pos h1] at c0;refine kF Try.func81 [] fun w=>?_
  repeat' (first|refine zW ?_|refine zB ?_ ?_<;>intro h<;>try exact zk h|refine zC (c0) ?_|rfl|fail)
 have hu:chkS t L=if 4681<L.length then 6 else chkG t none L:=by unfold chkS;rw [if_neg h1]
 rw [if_neg h1] at c0;by_cases h2:4681<L.length
 .rw [show chkS t L=6 by rw [hu,if_pos h2]]
  refine kF Try.func81 [] fun w=>?_
  repeat' (first|refine zW ?_|refine zB ?_ ?_<;>intro h<;>try exact zk h|refine zC (c0) ?_|rfl|((exfalso;simp only [List.length_map,decide_eq_true_eq,decide_eq_false_iff_not] at *;omega))|fail)
 rw [show chkS t L=chkG t none L by rw [hu,if_neg h2]];generalize hR:chkG t none L=R;refine kF Try.func81 [] fun w=>?_
 repeat' (first|refine zW ?_|refine zB ?_ ?_<;>intro h<;>try exact zk h|refine zC (c0) ?_|((exfalso;simp only [List.length_map,decide_eq_true_eq,decide_eq_false_iff_not] at *;omega))|fail)
 refine Run.loopT (fun i:Nat=>⟨PT.ofList [(0,.d (iI t)),(1,.d (rws L)),(6,.d (nI i))],[],[]⟩) (fun i=>i<=L.length/\chkG t (pv L i) (L.drop i)=R/\∀ q,pv L i=some q->chkR q t=0) (fun i=>L.length-i) 0 ⟨Nat.zero_le _,hR,by simp [pv]⟩ (ti _ 0) (fun i hi=>?_);obtain⟨hi1,hi2,hi3⟩:=hi;rcases Nat.lt_or_ge i L.length with hlt|hge
 .obtain⟨r,hr⟩:=get_ok hlt
  have c1:=chkRef r t;rw [drop_at hr] at hi2;by_cases h0:chkR r t=0
  .rw [h0] at c1
   have hpn:pv L (i+1)=some r:=hr;rcases i with _|i
   .have hp1:pv L 1=some r:=hr
    have hg:chkG t (pv L 1) (L.drop 1)=R:=by rw [hp1,<- hi2];simp [pv,chkG,h0]
    repeat' (first|refine zW ?_|refine zB ?_ ?_<;>intro h<;>try exact zk h|refine zC (c1) ?_|refine zI w (.d (.ep (rwC r))) hr ?_|(exact⟨1,⟨hlt,hg,fun q e=>by rw [hp1] at e;cases e;exact h0⟩,by omega,(ti _ 0)⟩)|((exfalso;simp only [List.length_map,decide_eq_true_eq,decide_eq_false_iff_not] at *;omega))|fail)
   .obtain⟨q,hq⟩:=get_ok (show i<L.length by omega)
    have hq0:=hi3 q hq;have hpq:pv L (i+1)=some q:=hq;rw [hpq] at hi2;obtain⟨_,_,x,hx,e1,_⟩:=chkR_raw hq0;obtain⟨_,_,y,hy,e2,_⟩:=chkR_raw h0;have c2:=compareS14 x y hx hy;have hdx:dec q=x:=by rw [e1,dec_of hx.len]
    have hdy:dec r=y:=by rw [e2,dec_of hy.len]
    simp only [chkG,h0,if_true,hdx,hdy] at hi2;have hsub:AV.d (.int .i64 (IntKind.i64.wrap (((i+1:Nat):Int)-1)))=.d (nI i):=by
     congr 2;rw [show((i+1:Nat):Int)-1=(i:Nat) by omega];exact wrap_nat (by omega)
    have hp2:pv L (i+2)=some r:=hr;have hgo:¬ 0<=cmpL x y->chkG t (pv L (i+2)) (L.drop (i+2))=R:=fun h=>by rw [if_neg h] at hi2;rw [hp2];exact hi2
    have hbd:0<=cmpL x y->9=R:=fun h=>by rw [if_pos h] at hi2;exact hi2
    subst e1 e2
    repeat' (first|refine zV hsub ?_|refine zW ?_|refine zB ?_ ?_<;>intro h<;>try exact zk h|refine zC (c1) ?_|refine zC (c2) ?_|refine zI w (.d (.ep (lkC y))) hr ?_|refine zI w (.d (.ep (lkC x))) hq ?_|(show _=_;rw [hbd (by simp only [decide_eq_true_eq] at *;assumption)])|(exact⟨i+2,⟨hlt,hgo (by simp only [decide_eq_false_iff_not] at *;assumption),fun q e=>by rw [hp2] at e;cases e;exact h0⟩,by omega,(ti _ 0)⟩)|((exfalso;simp only [List.length_map,decide_eq_true_eq,decide_eq_false_iff_not] at *;omega))|fail)
  .rw [chkG_bad h0] at hi2
   rw [hi2] at c1;have hR0:R≠0:=by rw [<- hi2];exact h0
   repeat' (first|refine zW ?_|refine zB ?_ ?_<;>intro h<;>try exact zk h|refine zC (c1) ?_|refine zI w (.d (.ep (rwC r))) hr ?_|rfl|((exfalso;first|exact hR0 (by simpa using h)|(simp only [List.length_map,decide_eq_true_eq,decide_eq_false_iff_not] at *;omega)))|fail)
 .have hie:i=L.length:=by omega
  subst hie;rw [List.drop_length,chkG_nil] at hi2;subst hi2
  repeat' (first|refine zW ?_|refine zB ?_ ?_<;>intro h<;>try exact zk h|rfl|((exfalso;simp only [List.length_map,decide_eq_true_eq,decide_eq_false_iff_not] at *;omega))|fail)
def bothS (t:Int) (a b:List Raw):Int:=if chkS t a=0 then chkS t b else chkS t a
def rngS (e k:Int):Int:=if e=0/\(k<1\/4<k) then 2 else e
theorem bothRef14 (t:Int) (a b:List Raw) (ha:a.length<=1048576) (hb:b.length<=1048576):KnownCall Try.prog 76 [iI t,rws a,rws b] (.d (iI (bothS t a b))):=by
 have c1:=checkRef t a ha;have c2:=checkRef t b hb;by_cases h0:chkS t a=0
 .rw [show bothS t a b=chkS t b by unfold bothS;rw [if_pos h0]]
  rw [h0] at c1;refine kF Try.func76 [] fun w=>?_
  repeat' (first|refine zW ?_|refine zB ?_ ?_<;>intro h<;>try exact zk h|refine zC (c1) ?_|refine zC (c2) ?_|rfl|fail)
 .rw [show bothS t a b=chkS t a by unfold bothS;rw [if_neg h0]]
  generalize chkS t a=e at *;refine kF Try.func76 [] fun w=>?_
  repeat' (first|refine zW ?_|refine zB ?_ ?_<;>intro h<;>try exact zk h|refine zC (c1) ?_|rfl|((exfalso;exact h0 (by simpa using h)))|fail)
theorem rangedRef (e k:Int):KnownCall Try.prog 75 [iI e,iI k] (.d (iI (rngS e k))):=by
 by_cases h0:e=0
 .subst h0
  by_cases h1:k<1\/4<k
  .rw [show rngS 0 k=2 by unfold rngS;rw [if_pos ⟨rfl,h1⟩]]
   refine kF Try.func75 [] fun w=>?_
   repeat' (first|refine zW ?_|refine zB ?_ ?_<;>intro h<;>try exact zk h|rfl|((exfalso;simp only [decide_eq_true_eq,decide_eq_false_iff_not] at *;omega))|fail)
  .rw [show rngS 0 k=0 by unfold rngS;rw [if_neg (fun h=>h1 h.2)]]
   refine kF Try.func75 [] fun w=>?_
   repeat' (first|refine zW ?_|refine zB ?_ ?_<;>intro h<;>try exact zk h|rfl|((exfalso;simp only [decide_eq_true_eq,decide_eq_false_iff_not] at *;omega))|fail)
 .rw [show rngS e k=e by unfold rngS;rw [if_neg (fun h=>h0 h.1)]]
  refine kF Try.func75 [] fun w=>?_
  repeat' (first|refine zW ?_|refine zB ?_ ?_<;>intro h<;>try exact zk h|rfl|((exfalso;exact h0 (by simpa using h)))|fail)
theorem bndBound (L:List Raw):KnownCall Try.prog 34 [rws L] (.d (iI (if 600<L.length then 19 else 0))):=by
 by_cases h1:600<L.length
 .rw [if_pos h1]
  refine kF Try.func34 [] fun w=>?_
  repeat' (first|refine zW ?_|refine zB ?_ ?_<;>intro h<;>try exact zk h|rfl|((exfalso;simp only [List.length_map,decide_eq_true_eq,decide_eq_false_iff_not] at *;omega))|fail)
 .rw [if_neg h1]
  refine kF Try.func34 [] fun w=>?_
  repeat' (first|refine zW ?_|refine zB ?_ ?_<;>intro h<;>try exact zk h|rfl|((exfalso;simp only [List.length_map,decide_eq_true_eq,decide_eq_false_iff_not] at *;omega))|fail)
theorem bndBound14 (L:List Raw):KnownCall Try.prog 35 [rws L] (.d (iI (if 600<L.length then 19 else 0))):=by
 by_cases h1:600<L.length
 .rw [if_pos h1]
  refine kF Try.func35 [] fun w=>?_
  repeat' (first|refine zW ?_|refine zB ?_ ?_<;>intro h<;>try exact zk h|rfl|((exfalso;simp only [List.length_map,decide_eq_true_eq,decide_eq_false_iff_not] at *;omega))|fail)
 .rw [if_neg h1]
  refine kF Try.func35 [] fun w=>?_
  repeat' (first|refine zW ?_|refine zB ?_ ?_<;>intro h<;>try exact zk h|rfl|((exfalso;simp only [List.length_map,decide_eq_true_eq,decide_eq_false_iff_not] at *;omega))|fail)
section
variable {H:Type} {enc:TypeId × Value->H} {w:World} {spare:Nat->Bool} {held:Bool} {fuel:Nat} {cs:List Value} {x:DataW H × List MemPlace}
theorem cr_look (hl:cs.length=5) (h:DataW.trod enc Try.prog w 0 spare held fuel 52 cs=some x):∃ r:Raw,CellsRep (heapD w) (rw5 r) cs/\True:=by
 match cs,hl,h with
 |[v0,v1,v2,v3,v4],_,h =>
  obtain⟨n0,y0,e0⟩:=trod_field Try.underlying52 h 0 rfl (by kernel_rfl) rfl;obtain⟨xs,n,_,_,_,hxl,hff⟩:=DataW.trod_struct Try.underlying52 h;have h1:=hff 1 { name:= "S",type:=50,offset:=1,embedded:=false,tag:= "",pkgPath:= "",byteOffset:=8 } rfl;have c4:(Try.prog).cellsOf 50=4:=by kernel_rfl
  have c1:(Try.prog).cellsOf 3=1:=by kernel_rfl
  dsimp only at h1;rw [c4] at h1;change DataW.trod enc Try.prog w 0 spare held n 50 [v1,v2,v3,v4]=_ at h1;have hi:1<xs.length:=by rw [hxl];decide
  rw [List.getElem?_eq_getElem hi] at h1;obtain⟨ys,m,_,_,_,hyl,hy⟩:=DataW.trod_array Try.underlying50 h1;have g:∀ (i:Nat) (v:Value),i<4->[v1,v2,v3,v4][i]?=some v->∃ a,CellsRep (heapD w) (iI a) [v]:=fun i v hi4 hv=>by
   have h2:=hy i hi4;rw [c1,List.getElem?_eq_getElem (show i<ys.length by omega),Nat.mul_one,drop_at hv] at h2;obtain⟨a,ha,_⟩:=cr_int Try.underlying3 h2;exact⟨a,ha⟩
  obtain⟨n,hn,_⟩:=cr_int Try.underlying3 e0;obtain⟨a,ha⟩:=g 0 v1 (by omega) rfl;obtain⟨b,hb⟩:=g 1 v2 (by omega) rfl;obtain⟨c,hc⟩:=g 2 v3 (by omega) rfl;obtain⟨d,hd⟩:=g 3 v4 (by omega) rfl;exact⟨⟨n,a,b,c,d⟩,cr_all ⟨⟨rfl,hn⟩,⟨rfl,ha⟩,⟨rfl,hb⟩,⟨rfl,hc⟩,⟨rfl,hd⟩,trivial⟩,trivial⟩
theorem cr_looks (hsp:∀ b,spare b=true) (h:DataW.trod enc Try.prog w 0 spare held fuel 24 cs=some x):∃ l:List Raw,CellsRep (heapD w) (rws l) cs/\l.length<=maxLen/\∀ n ∈ l,True :=
 cr_slice rw5 (fun _=>True) Try.underlying24 (by kernel_rfl) (by omega) hsp (fun n cs' y hl hy=>cr_look hl hy) h
theorem arg_looks {r:Reach} {b0:Nat} {v:Value} {d:DataW H} {ps:List MemPlace} (hsp:∀ b,spare b=true) (hval:Value.okWide Try.prog w r b0 24 v) (h:DataW.Trod enc Try.prog w 0 spare held 24 v d ps) :
  ∃ l:List Raw,RepD (heapD w) (rws l) v/\True:=by
 obtain⟨es,he,l,rfl⟩:=arg_slice (sz:=5) (R:=fun es=>∃ l:List Raw,es=l.map rw5) Try.underlying24 hval h (fun n x hx=>by
  obtain⟨l,h1,h2⟩:=cr_looks hsp hx;exact⟨_,h1,l,rfl⟩)
 exact⟨l,he,trivial⟩
end
abbrev mrgU (a b:List (List Nat)):List (List Nat):=mrg (fun _ _=>true) (a.length+b.length) a b
set_option maxHeartbeats 1000000 in
theorem mergeRef (a b:List (List Nat)) (ha:∀ x ∈ a,Rt x) (hb:∀ x ∈ b,Rt x) (hl:a.length+b.length<=100000):KnownCall Try.prog 78 [lks a,lks b] (.d (lks (mrgU a b))):=by
 generalize hR:mrgU a b=R;refine kF Try.func78 [34,44] fun w=>?_
 repeat' (first|refine zW ?_|refine zB ?_ ?_<;>intro h<;>try exact zk h|refine zX ?_|fail)
 refine Run.mkRoom 5 5 [(0,.d (lks a)),(1,.d (lks b)),(5,.sr 0 5 [])] rfl (ofList_cases (by intro p hp;simp at hp;rcases hp with rfl|rfl|rfl;exact .inr (by kernel_rfl);exact .inr (by kernel_rfl);exact .inl ⟨rfl,rfl⟩)) ?_;refine Run.loopT (fun y:List (List Nat) × List (List Nat) × List DV=>⟨PT.ofList [(0,.d (lks y.1)),(1,.d (lks y.2.1)),(5,.sr 0 5 y.2.2)],[.room y.2.2.length 5],[]⟩)
  (fun y=>(∀ x ∈ y.1,Rt x)/\(∀ x ∈ y.2.1,Rt x)/\y.1.length+y.2.1.length+y.2.2.length<=100000/\y.2.2++(mrgU y.1 y.2.1).map lk=R.map lk) (fun y=>y.1.length+y.2.1.length) (a,b,[]) ⟨ha,hb,by simpa using hl,by rw [hR];rfl⟩ (ti _ 1) (fun y hy=>?_)
 obtain⟨a,b,acc⟩:=y;obtain⟨ha,hb,hal,hacc⟩:=hy;simp only [mrgU] at ha hb hal hacc |-
 match a,b,ha,hb,hal,hacc with
 |[],[],ha,hb,hal,hacc =>
  have he:acc=R.map lk:=by simpa [mrg] using hacc
  subst he
  repeat' (first|refine zW ?_|refine zB ?_ ?_<;>intro h<;>try exact zk h|refine zX ?_|rfl|fail)
 |[],y :: b,ha,hb,hal,hacc =>
  have hy0:(y :: b)[0]?=some y:=rfl;have hb':∀ x ∈ b,Rt x:=fun x hx=>hb x (by simp [hx]);simp only [mrg,List.length_nil,List.length_cons,Nat.zero_add] at hacc hal;have g1:(acc++[lk y])++(mrgU [] b).map lk=R.map lk:=by simpa [mrgU] using hacc
  repeat' (first|refine zW ?_|refine zB ?_ ?_<;>intro h<;>try exact zk h|refine zX ?_|refine zI w (.d (.ep (lkC y))) hy0 ?_|refine zCut rfl ?_|refine zAp ?_|rfl|(exact⟨([],b,acc++[lk y]),⟨ha,hb',by simp only [List.length_append,List.length_cons,List.length_nil];omega,g1⟩,by simp,(ti _ 1 (Eq.trans (b:=[.room (acc.length+1) 5]) rfl (by simp)))⟩)|fail)
 |x :: a,[],ha,hb,hal,hacc =>
  have hx0:(x :: a)[0]?=some x:=rfl;have ha':∀ x ∈ a,Rt x:=fun y hy=>ha y (by simp [hy]);simp only [mrg,List.length_nil,List.length_cons,Nat.add_zero] at hacc hal;have g1:(acc++[lk x])++(mrgU a []).map lk=R.map lk:=by simpa [mrgU] using hacc
  repeat' (first|refine zW ?_|refine zB ?_ ?_<;>intro h<;>try exact zk h|refine zX ?_|refine zI w (.d (.ep (lkC x))) hx0 ?_|refine zCut rfl ?_|refine zAp ?_|rfl|(exact⟨(a,[],acc++[lk x]),⟨ha',hb,by simp only [List.length_append,List.length_cons,List.length_nil];omega,g1⟩,by simp,(ti _ 1 (Eq.trans (b:=[.room (acc.length+1) 5]) rfl (by simp)))⟩)|fail)
 |x :: a,y :: b,ha,hb,hal,hacc =>
  have hx0:(x :: a)[0]?=some x:=rfl;have hy0:(y :: b)[0]?=some y:=rfl;have ha':∀ x ∈ a,Rt x:=fun y hy=>ha y (by simp [hy]);have hb':∀ x ∈ b,Rt x:=fun x hx=>hb x (by simp [hx]);have hc:=compareS14 x y (ha x (by simp)) (hb y (by simp));have el:(x :: a).length+(y :: b).length=(a.length+b.length+1)+1:=by simp only [List.length_cons];omega
  rw [el] at hacc;simp only [List.length_cons] at hal;rcases Int.lt_trichotomy (cmpL x y) 0 with hlt|heq|hgt
  .simp only [mrg,if_pos hlt] at hacc
   have e2:a.length+(y :: b).length=a.length+b.length+1:=by simp only [List.length_cons];omega
   have g1:(acc++[lk x])++(mrgU a (y :: b)).map lk=R.map lk:=by unfold mrgU;rw [e2];simpa using hacc
   generalize cmpL x y=cv at hc hlt
   repeat' (first|refine zW ?_|refine zB ?_ ?_<;>intro h<;>try exact zk h|refine zX ?_|refine zC (hc) ?_|refine zI w (.d (.ep (lkC x))) hx0 ?_|refine zI w (.d (.ep (lkC y))) hy0 ?_|refine zCut rfl ?_|refine zAp ?_|rfl|(exact⟨(a,y :: b,acc++[lk x]),⟨ha',hb,by simp only [List.length_append,List.length_cons,List.length_nil];omega,g1⟩,by simp,(ti _ 1 (Eq.trans (b:=[.room (acc.length+1) 5]) rfl (by simp)))⟩)|((exfalso;simp only [decide_eq_true_eq,decide_eq_false_iff_not] at *;omega))|fail)
  .obtain rfl:=cmpL_eq heq
   simp only [mrg,heq,Int.lt_irrefl,if_false] at hacc;have g1:(acc++[lk x])++(mrgU a b).map lk=R.map lk:=by unfold mrgU;rw [<- mrg_fuel _ _ a b (Nat.le_refl _)];simpa using hacc
   rw [heq] at hc
   repeat' (first|refine zW ?_|refine zB ?_ ?_<;>intro h<;>try exact zk h|refine zX ?_|refine zC (hc) ?_|refine zI w (.d (.ep (lkC x))) hx0 ?_|refine zI w (.d (.ep (lkC x))) hy0 ?_|refine zCut rfl ?_|refine zAp ?_|rfl|(exact⟨(a,b,acc++[lk x]),⟨ha',hb',by simp only [List.length_append,List.length_cons,List.length_nil];omega,g1⟩,by simp only [List.length_cons];omega,(ti _ 1 (Eq.trans (b:=[.room (acc.length+1) 5]) rfl (by simp)))⟩)|fail)
  .simp only [mrg,if_neg (Int.not_lt.2 (Int.le_of_lt hgt)),if_pos hgt] at hacc
   have e2:(x :: a).length+b.length=a.length+b.length+1:=by simp only [List.length_cons];omega
   have g1:(acc++[lk y])++(mrgU (x :: a) b).map lk=R.map lk:=by unfold mrgU;rw [e2];simpa using hacc
   generalize cmpL x y=cv at hc hgt
   repeat' (first|refine zW ?_|refine zB ?_ ?_<;>intro h<;>try exact zk h|refine zX ?_|refine zC (hc) ?_|refine zI w (.d (.ep (lkC x))) hx0 ?_|refine zI w (.d (.ep (lkC y))) hy0 ?_|refine zCut rfl ?_|refine zAp ?_|rfl|(exact⟨(x :: a,b,acc++[lk y]),⟨ha,hb',by simp only [List.length_append,List.length_cons,List.length_nil];omega,g1⟩,by simp only [List.length_cons];omega,(ti _ 1 (Eq.trans (b:=[.room (acc.length+1) 5]) rfl (by simp)))⟩)|((exfalso;simp only [decide_eq_true_eq,decide_eq_false_iff_not] at *;omega))|fail)
theorem asc_app2 {A B:List (List Nat)}:ascOf (ascOf A++ascOf B)=ascOf (A++B):=asc_ext (asc_asc _) (asc_asc _) fun z=>by simp only [mem_asc,List.mem_append]
theorem mergeAsc (A B:List (List Nat)) (hA:∀ x ∈ A,Rt x) (hB:∀ x ∈ B,Rt x) (hl:A.length+B.length<=100000):KnownCall Try.prog 78 [lks (ascOf A),lks (ascOf B)] (.d (lks (ascOf (A++B)))):=by
 have h1:=asc_len A;have h2:=asc_len B;have:=mergeRef (ascOf A) (ascOf B) (fun x hx=>hA x (mem_asc.1 hx)) (fun x hx=>hB x (mem_asc.1 hx)) (by omega)
 rwa [mrgU,mrg_or (asc_asc _) (asc_asc _),asc_app2] at this
theorem half (n:Nat) (h:n<=1048576):AV.d (.int .i64 (IntKind.i64.wrap (Int.tdiv (n:Int) 2)))=.d (nI (n / 2)):=by
 congr 2
 rw [show Int.tdiv (n:Int) 2=((n / 2:Nat):Int) by rw [Int.tdiv_eq_ediv_of_nonneg (by omega)];omega];exact wrap_nat (by omega)
theorem sortedOne (l:List (List Nat)) (h:l.length<2):KnownCall Try.prog 80 [lks l] (.d (lks l)):=by
 have w:Fz []:=trivial;refine knownE2 Yo (fnB Try.func80 []) ?_
 repeat' (first|refine zW ?_|refine zB ?_ ?_<;>intro h<;>try exact zk h|refine zAp ?_|(refine Yt ?_;refine r2 ?_;first|done|(exact .refl))|((exfalso;simp only [List.length_map,decide_eq_true_eq,decide_eq_false_iff_not] at *;omega))|fail)
theorem sortedRef:∀ (n:Nat) (l:List (List Nat)),l.length<=n->n<=100000->(∀ x ∈ l,Rt x)->KnownCall Try.prog 80 [lks l] (.d (lks (ascOf l)))
 |0,l,h,_,_=>by
  have e:l=[]:=List.length_eq_zero_iff.1 (by omega);subst e;exact sortedOne [] (by simp)
 |n+1,l,h,hn,hR=>by
  by_cases h2:l.length<2
  .have e:ascOf l=l:=by
    match l,h2 with
    |[],_=>rfl
    |[x],_=>rfl
   rw [e];exact sortedOne l h2
  have c1:=sortedRef n (l.take (l.length / 2)) (by rw [List.length_take];omega) (by omega) fun x hx=>hR x (List.mem_of_mem_take hx);have c2:=sortedRef n (l.drop (l.length / 2)) (by rw [List.length_drop];omega) (by omega) fun x hx=>hR x (List.mem_of_mem_drop hx);have c3:=mergeAsc (l.take (l.length / 2)) (l.drop (l.length / 2)) (fun x hx=>hR x (List.mem_of_mem_take hx)) (fun x hx=>hR x (List.mem_of_mem_drop hx)) (by rw [List.length_take,List.length_drop];omega);rw [List.take_append_drop] at c3;have hv:AV.d (.int .i64 (IntKind.i64.wrap (Int.tdiv ((l.map lk).length:Nat) 2)))=.d (nI (l.length / 2)):=by rw [List.length_map];exact half l.length (by omega)
  have k1:AV.d (.sl 5 (cutL none (some ((l.length / 2:Nat):Int)) (l.map lk)))=.d (lks (l.take (l.length / 2))):=by simp only [cutL,Int.toNat_natCast];rw [<- List.map_take]
  have k2:AV.d (.sl 5 (cutL (some ((l.length / 2:Nat):Int)) none (l.map lk)))=.d (lks (l.drop (l.length / 2))):=by simp only [cutL,Int.toNat_natCast];rw [<- List.map_drop]
  generalize ascOf (l.take (l.length / 2))=A1 at *;generalize ascOf (l.drop (l.length / 2))=A2 at *;generalize ascOf l=A3 at *;have hm:l.length / 2<=(l.map lk).length:=by rw [List.length_map];omega
  have hml:(l.map lk).length=l.length:=List.length_map _;generalize hmd:l.length / 2=m at *;refine kF Try.func80 [] fun w=>?_
  repeat' (first|refine zV hv ?_|refine zW ?_|refine zB ?_ ?_<;>intro h<;>try exact zk h|refine zC (c1) ?_|refine zC (c2) ?_|refine zC (c3) ?_|refine zCut k1 ?_|refine zCut k2 ?_|rfl|((exfalso;simp only [List.length_map,decide_eq_true_eq,decide_eq_false_iff_not] at *;omega))|fail)
theorem joinS (k:Nat) (hk1:1<=k) (hk:k<=4) (x y:List Nat) (hx:Rt x) (hy:Rt y):KnownCall Try.prog 79 [nI k,lk x,lk y] (.d (lk ((x++y).take k))):=by
 have c:=joinRef k hk1 hk x y hx hy;refine kF Try.func79 [4,5] fun w=>?_
 repeat' (first|refine zW ?_|refine zB ?_ ?_<;>intro h<;>try exact zk h|refine zX ?_|refine zC (c) ?_|rfl|fail)
theorem prs_one (k:Nat) (a:List (List Nat)):prs k a [[]]=a.map fun x=>(x++[]).take k:=by
 induction a with
 |nil=>rfl
 |cons x a ih=>simp only [prs,List.flatMap_cons,List.map_cons,List.map_nil,List.singleton_append] at ih |-;rw [ih]
theorem rws_of (L:List (List Nat)):rws (L.map rawOf)=lks L:=by
 unfold rws lks;rw [List.map_map];rfl
theorem cutIn (k:Nat) (hk1:1<=k) (hk:k<=4) (a:List (List Nat)) (hR:∀ x ∈ a,Rt x) (hl:a.length<=100000):KnownCall Try.prog 77 [nI k,lks a] (.d (lks (cutS k a))):=by
 have hR1:=prs_rt hk hR rt_nil;have hl1:(prs k a [[]]).length=a.length:=by rw [prs_len];simp
 have c2:=sortedRef _ (prs k a [[]]) (Nat.le_refl _) (by omega) hR1;change KnownCall _ _ _ (.d (lks (cutS k a))) at c2;rw [prs_one] at c2;generalize cutS k a=ca at *;refine kF Try.func77 [21] fun w=>?_
 repeat' (first|refine zW ?_|refine zB ?_ ?_<;>intro h<;>try exact zk h|fail)
 refine Run.mkRoom 5 5 [(0,.d (nI k)),(1,.d (lks a)),(5,.sr 0 5 []),(6,.d (.int .i64 0))] rfl (ofList_cases (by intro p hp;simp only [List.mem_cons,List.not_mem_nil,or_false] at hp;rcases hp with rfl|rfl|rfl|rfl;exact .inr (by kernel_rfl);exact .inr (by kernel_rfl);exact .inl ⟨rfl,rfl⟩;exact .inr (by kernel_rfl))) ?_;refine Run.loopT (fun y:Nat × List DV=>⟨PT.ofList [(0,.d (nI k)),(1,.d (lks a)),(5,.sr 0 5 y.2),(6,.d (nI y.1))],[.room y.2.length 5],[]⟩) (fun y=>y.1<=a.length/\y.2=(a.take y.1).map fun x=>lk ((x++[]).take k)) (fun y=>a.length-y.1) (0,[]) ⟨Nat.zero_le _,rfl⟩ (ti _ 1) (fun y hy=>?_);obtain⟨i,acc⟩:=y;obtain⟨h1,h2⟩:=hy;simp only at h1 h2 |-;have hal:acc.length<=i:=by rw [h2];simp;omega
 rcases Nat.lt_or_ge i a.length with hlt|hge
 .obtain⟨x,hx⟩:=get_ok hlt
  have hnx:acc++[lk ((x++[]).take k)]=(a.take (i+1)).map fun x=>lk ((x++[]).take k):=by rw [List.take_add_one,hx,h2];simp
  have c1:=joinS k hk1 hk x [] (hR x (List.mem_of_getElem? hx)) ⟨by simp,by simp⟩;generalize (x++[]).take k=z at *
  repeat' (first|refine zW ?_|refine zB ?_ ?_<;>intro h<;>try exact zk h|refine zC (c1) ?_|refine zI w (.d (.ep (lkC x))) hx ?_|refine zAp ?_|rfl|(exact⟨(i+1,acc++[lk z]),⟨hlt,hnx⟩,by simp only [];omega,(ti _ 1 (Eq.trans (b:=[.room (acc.length+1) 5]) rfl (by simp)))⟩)|((exfalso;simp only [List.length_map,decide_eq_true_eq,decide_eq_false_iff_not] at *;omega))|fail)
 .have hie:i=a.length:=by omega
  have he:acc=(a.map fun x=>(x++[]).take k).map lk:=by rw [h2,hie,List.take_length,List.map_map];rfl
  subst he
  repeat' (first|refine zW ?_|refine zB ?_ ?_<;>intro h<;>try exact zk h|refine zM (c2) ?_|rfl|((exfalso;simp only [List.length_map,decide_eq_true_eq,decide_eq_false_iff_not] at *;omega))|fail)
theorem cutRefE (t k:Int) (L:List Raw) (hl:L.length<=1048576) (h:rngS (chkS t L) k≠0):KnownCall Try.prog 41 [iI t,iI k,rws L] (.tup [.d .nilsl,.d (iI (rngS (chkS t L) k))]):=by
 have c1:=checkRef t L hl;have c2:=rangedRef (chkS t L) k;generalize rngS (chkS t L) k=e at *;refine kF Try.func41 [] fun w=>?_
 repeat' (first|refine zW ?_|refine zB ?_ ?_<;>intro h<;>try exact zk h|refine zC (c1) ?_|refine zC (c2) ?_|rfl|((exfalso;exact h (by simpa using ‹(e != 0)=false›)))|fail)
theorem cutRef0 (t:Int) (k:Nat) (hk1:1<=k) (hk:k<=4) (n:Nat) (L:List (List Nat)) (hS:SetOK n L) (h:chkS t (L.map rawOf)=0):KnownCall Try.prog 41 [iI t,nI k,lks L] (.tup [.d (lks (cutS k L)),.d (iI 0)]):=by
 have hl:=hS.len;have c1:=checkRef t (L.map rawOf) (by rw [List.length_map];omega);rw [h,rws_of] at c1;have c2:=rangedRef 0 k;rw [show rngS 0 k=0 by unfold rngS;rw [if_neg (by omega)]] at c2;have c3:=cutIn k hk1 hk L hS.rt (by omega);generalize cutS k L=ca at *;refine kF Try.func41 [] fun w=>?_
 repeat' (first|refine zW ?_|refine zB ?_ ?_<;>intro h<;>try exact zk h|refine zC (c1) ?_|refine zC (c2) ?_|refine zC (c3) ?_|rfl|fail)
theorem sumRefE (t k:Int) (a b:List Raw) (ha:a.length<=1048576) (hb:b.length<=1048576) (h:rngS (bothS t a b) k≠0):KnownCall Try.prog 38 [iI t,iI k,rws a,rws b] (.tup [.d .nilsl,.d (iI (rngS (bothS t a b) k))]):=by
 have c1:=bothRef14 t a b ha hb;have c2:=rangedRef (bothS t a b) k;generalize rngS (bothS t a b) k=e at *;refine kF Try.func38 [] fun w=>?_
 repeat' (first|refine zW ?_|refine zB ?_ ?_<;>intro h<;>try exact zk h|refine zC (c1) ?_|refine zC (c2) ?_|rfl|((exfalso;exact h (by simpa using ‹(e != 0)=false›)))|fail)
theorem prs_next {k i:Nat} {a b:List (List Nat)} {x:List Nat} (h:a[i]?=some x):prs k (a.take (i+1)) b=prs k (a.take i) b++b.map fun y=>(x++y).take k:=by
 rw [List.take_add_one,h];simp [prs]
theorem asc_full {k:Nat} {x:List Nat} (hx:x.length=k) {P b:List (List Nat)} (hb:b≠[]):ascOf (P++[x])=ascOf (P++b.map fun y=>(x++y).take k):=by
 refine asc_ext (asc_asc _) (asc_asc _) fun z=>?_;have e:∀ y:List Nat,(x++y).take k=x:=fun y=>by rw [<- hx,List.take_left'];rfl
 simp only [mem_asc,List.mem_append,List.mem_singleton,List.mem_map,e];constructor
 .rintro(h|h)
  .exact .inl h
  .obtain⟨y,l,rfl⟩:=List.exists_cons_of_ne_nil hb
   exact .inr ⟨y,by simp,h.symm⟩
 .rintro(h|⟨_,_,h⟩)
  .exact .inl h
  .exact .inr h.symm
set_option maxHeartbeats 1000000 in
theorem sumRef0 (t:Int) (k:Nat) (hk1:1<=k) (hk:k<=4) (n:Nat) (a b:List (List Nat)) (hA:SetOK n a) (hB:SetOK n b) (hab:a.length*b.length<=90000) (h0:bothS t (a.map rawOf) (b.map rawOf)=0) :
  KnownCall Try.prog 38 [iI t,nI k,lks a,lks b] (.tup [.d (lks (sumS k a b)),.d (iI 0)]):=by
 have hal:=hA.len;have hbl:=hB.len;have c1:=bothRef14 t (a.map rawOf) (b.map rawOf) (by rw [List.length_map];omega) (by rw [List.length_map];omega);rw [h0,rws_of,rws_of] at c1;have c2:=rangedRef 0 k;rw [show rngS 0 k=0 by unfold rngS;rw [if_neg (by omega)]] at c2;have c3:=cutIn k hk1 hk a hA.rt (by omega);have c4:=cutIn k hk1 hk b hB.rt (by omega);have e1:=cutS_len k a;have e2:=cutS_len k b;have hm:=Nat.mul_le_mul e1 e2;have hRa:=cutS_rt hk hA.rt;have hRb:=cutS_rt hk hB.rt;unfold sumS;generalize cutS k a=ca at *;generalize cutS k b=cb at *;refine kF Try.func38 [72] fun w=>?_
 repeat' (first|refine zW ?_|refine zB ?_ ?_<;>intro h<;>try exact zk h|refine zC (c1) ?_|refine zC (c2) ?_|refine zC (c3) ?_|refine zC (c4) ?_|fail)
 refine Run.nilRow 11 5 [(1,.d (nI k)),(2,.d (lks ca)),(3,.d (lks cb)),(11,.d (.sl 5 [])),(12,.d (.int .i64 0))] rfl (ofList_cases (by intro p hp;simp only [List.mem_cons,List.not_mem_nil,or_false] at hp;rcases hp with rfl|rfl|rfl|rfl|rfl;exact .inr (by kernel_rfl);exact .inr (by kernel_rfl);exact .inr (by kernel_rfl);exact .inl ⟨rfl,rfl⟩;exact .inr (by kernel_rfl))) ?_;refine Run.loopT (fun i:Nat=>⟨PT.ofList [(1,.d (nI k)),(2,.d (lks ca)),(3,.d (lks cb)),(11,.d (lks (ascOf (prs k (ca.take i) cb)))),(12,.d (nI i))],[],[]⟩) (fun i=>i<=ca.length) (fun i=>ca.length-i) 0 (Nat.zero_le _) (ti _ 0) (fun i hi=>?_);rcases Nat.lt_or_ge i ca.length with hlt|hge
 .obtain⟨x,hx⟩:=get_ok hlt
  have hxR:=hRa x (List.mem_of_getElem? hx);have hnx:=prs_next (k:=k) (b:=cb) hx;have hPR:∀ z ∈ prs k (ca.take i) cb,Rt z:=prs_rt hk (fun y hy=>hRa y (List.mem_of_mem_take hy)) hRb;have hPl:(prs k (ca.take i) cb).length+cb.length<=90000:=by
   rw [prs_len,List.length_take,Nat.min_eq_left (by omega)];have:(i+1)*cb.length<=ca.length*cb.length:=Nat.mul_le_mul_right _ hlt;rw [Nat.add_mul,Nat.one_mul] at this;omega
  by_cases hg:x.length=k/\0<cb.length
  .have c5:=mergeAsc (prs k (ca.take i) cb) [x] hPR (by simp [hxR]) (by simp only [List.length_singleton];omega)
   rw [asc_full hg.1 (List.length_pos_iff.1 hg.2),<- hnx] at c5;have k1:AV.d (.sl 5 (cutL (some (i:Int)) (some ((i+1:Nat):Int)) (ca.map lk)))=.d (lks (ascOf [x])):=by
    simp only [cutL,Int.toNat_natCast];rw [show ascOf [x]=[x] from rfl,<- List.map_take,<- List.map_drop,List.take_add_one,hx,List.drop_append_of_le_length (by rw [List.length_take];omega),List.drop_of_length_le (by rw [List.length_take];omega)];rfl
   have hmx:(ca.map lk).length=ca.length:=List.length_map _;have hadd:AV.d (.int .i64 (IntKind.i64.wrap ((i:Int)+1)))=.d (nI (i+1)):=by
    congr 2;rw [show(i:Int)+1=((i+1:Nat):Int) by omega];exact wrap_nat (by omega)
   generalize ascOf (prs k (ca.take i) cb)=P at *;generalize hQ:ascOf (prs k (ca.take (i+1)) cb)=Q at *
   repeat' (first|refine zV hadd ?_|refine zW ?_|refine zB ?_ ?_<;>intro h<;>try exact zk h|refine zC (c5) ?_|refine zI w (.d (.ep (lkC x))) hx ?_|refine zCut k1 ?_|(exact⟨i+1,hlt,by omega,(by rw [hQ];exact(ti _ 0))⟩)|((exfalso;simp only [List.length_map,decide_eq_true_eq,decide_eq_false_iff_not,beq_iff_eq,beq_eq_false_iff_ne,ne_eq] at *;omega))|fail)
  .have hMl:(cb.map fun y=>(x++y).take k).length=cb.length:=List.length_map _
   have hMR:∀ z ∈ cb.map fun y=>(x++y).take k,Rt z:=fun z hz=>by
    obtain⟨y,hy,rfl⟩:=List.mem_map.1 hz;exact rt_take hk hxR.lt (hRb y hy).lt
   have c5:=sortedRef _ (cb.map fun y=>(x++y).take k) (Nat.le_refl _) (by omega) hMR;have c6:=mergeAsc (prs k (ca.take i) cb) (cb.map fun y=>(x++y).take k) hPR hMR (by omega);rw [<- hnx] at c6;generalize ascOf (prs k (ca.take i) cb)=P at *;generalize hQ:ascOf (prs k (ca.take (i+1)) cb)=Q at *
   repeat' (first|refine zW ?_|refine zB ?_ ?_<;>intro h<;>try exact zk h|refine zI w (.d (.ep (lkC x))) hx ?_|((exfalso;simp only [List.length_map,decide_eq_true_eq,decide_eq_false_iff_not,beq_iff_eq,beq_eq_false_iff_ne,ne_eq] at *;omega))|fail)
   all_goals
    refine Run.mkRoom 13 5 [(1,.d (nI k)),(2,.d (lks ca)),(3,.d (lks cb)),(11,.d (lks P)),(12,.d (nI i)),(13,.sr 0 5 []),(14,.d (.int .i64 0))] rfl (ofList_cases (by intro p hp;simp only [List.mem_cons,List.not_mem_nil,or_false] at hp;rcases hp with rfl|rfl|rfl|rfl|rfl|rfl|rfl;exact .inr (by kernel_rfl);exact .inr (by kernel_rfl);exact .inr (by kernel_rfl);exact .inr (by kernel_rfl);exact .inr (by kernel_rfl);exact .inl ⟨rfl,rfl⟩;exact .inr (by kernel_rfl))) ?_;refine Run.loopT (fun y:Nat × List DV=>⟨PT.ofList [(1,.d (nI k)),(2,.d (lks ca)),(3,.d (lks cb)),(11,.d (lks P)),(12,.d (nI i)),(13,.sr 0 5 y.2),(14,.d (nI y.1))],[.room y.2.length 5],[]⟩) (fun y=>y.1<=cb.length/\y.2=(cb.take y.1).map fun y=>lk ((x++y).take k)) (fun y=>cb.length-y.1) (0,[]) ⟨Nat.zero_le _,rfl⟩ (ti _ 1) (fun y hy=>?_);obtain⟨j,acc⟩:=y;obtain⟨h1,h2⟩:=hy;simp only at h1 h2 |-;have hal:acc.length<=j:=by rw [h2];simp;omega
    rcases Nat.lt_or_ge j cb.length with hlt2|hge2
    .obtain⟨y,hy⟩:=get_ok hlt2
     have hnx2:acc++[lk ((x++y).take k)]=(cb.take (j+1)).map fun y=>lk ((x++y).take k):=by rw [List.take_add_one,hy,h2];simp
     have c7:=joinS k hk1 hk x y hxR (hRb y (List.mem_of_getElem? hy));generalize (x++y).take k=z at *
     repeat' (first|refine zW ?_|refine zB ?_ ?_<;>intro h<;>try exact zk h|refine zC (c7) ?_|refine zI w (.d (.ep (lkC x))) hx ?_|refine zI w (.d (.ep (lkC y))) hy ?_|refine zAp ?_|rfl|(exact⟨(j+1,acc++[lk z]),⟨hlt2,hnx2⟩,by simp only [];omega,(ti _ 1 (Eq.trans (b:=[.room (acc.length+1) 5]) rfl (by simp)))⟩)|((exfalso;simp only [List.length_map,decide_eq_true_eq,decide_eq_false_iff_not] at *;omega))|fail)
    .have hje:j=cb.length:=by omega
     have he:acc=(cb.map fun y=>(x++y).take k).map lk:=by rw [h2,hje,List.take_length,List.map_map];rfl
     subst he
     repeat' (first|refine zW ?_|refine zB ?_ ?_<;>intro h<;>try exact zk h|refine zM (c5) ?_|refine zC (c6) ?_|(exact⟨i+1,hlt,by omega,(by rw [hQ];exact(ti _ 0))⟩)|((exfalso;simp only [List.length_map,decide_eq_true_eq,decide_eq_false_iff_not] at *;omega))|fail)
 .have hie:i=ca.length:=by omega
  subst hie;rw [List.take_length]
  repeat' (first|refine zW ?_|refine zB ?_ ?_<;>intro h<;>try exact zk h|rfl|((exfalso;simp only [List.length_map,decide_eq_true_eq,decide_eq_false_iff_not] at *;omega))|fail)
abbrev rawI (l:List Int):Raw:=⟨(l.length:Nat),l.getD 0 0,l.getD 1 0,l.getD 2 0,l.getD 3 0⟩
abbrev intL (l:List Int):DV:=.sl 1 (l.map iI)
theorem ofI (l:List Int) (h:l.length<=4):KnownCall Try.prog 105 [intL l] (.d (rw5 (rawI l))):=by
 match l,h with
 |[],_ =>
  refine kF Try.func105 [] fun w=>?_
  repeat' (first|refine zW ?_|refine zB ?_ ?_<;>intro h<;>try exact zk h|rfl|fail)
 |[a],_ =>
  refine kF Try.func105 [] fun w=>?_
  repeat' (first|refine zW ?_|refine zB ?_ ?_<;>intro h<;>try exact zk h|rfl|fail)
 |[a,b],_ =>
  refine kF Try.func105 [] fun w=>?_
  repeat' (first|refine zW ?_|refine zB ?_ ?_<;>intro h<;>try exact zk h|rfl|fail)
 |[a,b,c],_ =>
  refine kF Try.func105 [] fun w=>?_
  repeat' (first|refine zW ?_|refine zB ?_ ?_<;>intro h<;>try exact zk h|rfl|fail)
 |[a,b,c,d],_ =>
  refine kF Try.func105 [] fun w=>?_
  repeat' (first|refine zW ?_|refine zB ?_ ?_<;>intro h<;>try exact zk h|rfl|fail)
theorem cut4I (l:List Int) (hl:l.length<=4):AV.d (.sl 1 (cutL none (some (l.length:Int)) [iI (l.getD 0 0),iI (l.getD 1 0),iI (l.getD 2 0),iI (l.getD 3 0)]))=.d (intL l):=by
 match l,hl with
 |[],_=>rfl
 |[a],_=>rfl
 |[a,b],_=>rfl
 |[a,b,c],_=>rfl
 |[a,b,c,d],_=>rfl
theorem chkR_I {l:List Int} (hl:l.length<=4) {t:Int} (ht:¬ (t<1\/8<t)):chkR (rawI l) t=if l.all (fun v=>decide (0<=v/\v<t)) then 0 else 14:=by
 unfold chkR;rw [if_neg (by omega),if_neg (by omega),if_neg (by simp only [];omega),if_neg (by simp only [];omega)]
 match l,hl with
 |[],_=>simp
 |[a],_=>simp
 |[a,b],_=>simp
 |[a,b,c],_=>simp
 |[a,b,c,d],_=>simp
theorem checkRawI (l:List Int) (hl:l.length<=4) (t:Int) (ht:¬ (t<1\/8<t)):KnownCall Try.prog 89 [rw5 (rawI l),iI t] (.d (iI (chkR (rawI l) t))):=by
 have h4:=cut4I l hl;have hu:=chkR_I hl ht;generalize chkR (rawI l) t=R at *;refine kF Try.func89 [2] fun w=>?_
 repeat' (first|refine zW ?_|refine zB ?_ ?_<;>intro h<;>try exact zk h|refine zCut h4 ?_|refine zK (ofI l hl) ?_ ?_<;>intro h<;>try exact zk h|refine zC (ofI l hl) ?_|((exfalso;first|(simp at h<;>fail)|(simp only [decide_eq_true_eq,decide_eq_false_iff_not] at *;omega)))|fail)
 refine Run.loop (fun i:Nat=>⟨PT.ofList [(1,.d (iI t)),(35,.d (intL l)),(36,.d (nI (l.map iI).length)),(37,.d (.int .i64 i))],[],[]⟩) (fun i=>i<=l.length/\∀ x ∈ l.take i,0<=x/\x<t) (fun i=>l.length-i) 0 ⟨Nat.zero_le _,by simp⟩ (weak_of (by repeat' (first|exact trivial|refine⟨rfl,?_⟩))) (fun i hi=>?_);rcases Nat.lt_or_ge i l.length with hlt|hge
 .obtain⟨x,hx⟩:=get_ok hlt
  have hgo:0<=x/\x<t->∀ y ∈ l.take (i+1),0<=y/\y<t:=fun h=>by
   rw [List.take_add_one,hx];intro y hy;rcases List.mem_append.1 hy with h1|h1
   .exact hi.2 y h1
   .simp at h1;subst h1;exact h
  have hbad:¬ (0<=x/\x<t)->R=14:=fun h=>by
   rw [hu,if_neg];intro ha;exact h (by simpa using List.all_eq_true.1 ha x (List.mem_of_getElem? hx))
  repeat' (first|refine zW ?_|refine zB ?_ ?_<;>intro h<;>try exact zk h|refine zI w (.d (.ep [iI x])) hx ?_|(show _=_;rw [hbad (by simp only [decide_eq_true_eq,decide_eq_false_iff_not] at *;omega)])|(exact⟨i+1,⟨hlt,hgo (by simp only [decide_eq_true_eq,decide_eq_false_iff_not] at *;omega)⟩,by omega,weak_of (by repeat' (first|exact trivial|refine⟨rfl,?_⟩|refine⟨(inc_get (k:=i) (by kernel_rfl) (by omega)),?_⟩))⟩)|((exfalso;simp only [List.length_map,decide_eq_true_eq,decide_eq_false_iff_not] at *;omega))|fail)
 .have hie:i=l.length:=by have:=hi.1;omega
  have hok:R=0:=by
   rw [hu,if_pos];have:=hi.2;rw [hie,List.take_length] at this;exact List.all_eq_true.2 fun v hv=>by simpa using this v hv
  subst hie
  repeat' (first|refine zW ?_|refine zB ?_ ?_<;>intro h<;>try exact zk h|(show _=_;rw [hok])|((exfalso;simp only [List.length_map,decide_eq_true_eq,decide_eq_false_iff_not] at *;omega))|fail)
theorem checkRaw (r:Raw) (t:Int):KnownCall Try.prog 89 [rw5 r,iI t] (.d (iI (chkR r t))):=by
 by_cases h1:t<1\/8<t
 .have he:chkR r t=2:=by
   unfold chkR;rcases h1 with h|h
   .rw [if_pos h]
   .rw [if_neg (by omega),if_pos h]
  rw [he];refine kF Try.func89 [2] fun w=>?_
  repeat' (first|refine zW ?_|refine zB ?_ ?_<;>intro h<;>try exact zk h|rfl|((exfalso;simp only [decide_eq_true_eq,decide_eq_false_iff_not] at *;omega))|fail)
 by_cases h2:r.n<0\/4<r.n
 .have he:chkR r t=3:=by
   unfold chkR;rw [if_neg (by omega),if_neg (by omega)];rcases h2 with h|h
   .rw [if_pos h]
   .rw [if_neg (by omega),if_pos h]
  rw [he];refine kF Try.func89 [2] fun w=>?_
  repeat' (first|refine zW ?_|refine zB ?_ ?_<;>intro h<;>try exact zk h|rfl|((exfalso;simp only [decide_eq_true_eq,decide_eq_false_iff_not] at *;omega))|fail)
 obtain⟨n,a,b,c,d⟩:=r;simp only at h2;obtain⟨m,hm⟩:∃ m:Nat,n=m:=⟨n.toNat,by omega⟩
 subst hm;have hbd:¬ (([a,b,c,d]:List Int).drop m).all (fun v=>decide (v=0))=true->chkR ⟨(m:Nat),a,b,c,d⟩ t=3:=fun h=>by
  unfold chkR;rw [if_neg (by omega),if_neg (by omega),if_neg (by simp only [];omega),if_neg (by simp only [];omega)];exact if_neg h
 rcases(show m=0\/m=1\/m=2\/m=3\/m=4 by omega) with rfl|rfl|rfl|rfl|rfl
 .by_cases hz:a=0/\b=0/\c=0/\d=0
  .obtain⟨rfl,rfl,rfl,rfl⟩:=hz
   exact checkRawI [] (by simp) t h1
  .have he:=hbd (by simpa using hz)
   rw [he];have c:=ofI [] (by simp);refine kF Try.func89 [2] fun w=>?_
   repeat' (first|refine zW ?_|refine zB ?_ ?_<;>intro h<;>try exact zk h|refine zC (c) ?_|rfl|((exfalso;first|(simp only [decide_eq_true_eq,decide_eq_false_iff_not] at *;omega)|(simp at h;exact hz (by omega))|(simp at *;omega)))|fail)
 .by_cases hz:b=0/\c=0/\d=0
  .obtain⟨rfl,rfl,rfl⟩:=hz
   exact checkRawI [a] (by simp) t h1
  .have he:=hbd (by simpa using hz)
   rw [he];have c:=ofI [a] (by simp);refine kF Try.func89 [2] fun w=>?_
   repeat' (first|refine zW ?_|refine zB ?_ ?_<;>intro h<;>try exact zk h|refine zC (c) ?_|rfl|((exfalso;first|(simp only [decide_eq_true_eq,decide_eq_false_iff_not] at *;omega)|(simp at h;exact hz (by omega))|(simp at *;omega)))|fail)
 .by_cases hz:c=0/\d=0
  .obtain⟨rfl,rfl⟩:=hz
   exact checkRawI [a,b] (by simp) t h1
  .have he:=hbd (by simpa using hz)
   rw [he];have c:=ofI [a,b] (by simp);refine kF Try.func89 [2] fun w=>?_
   repeat' (first|refine zW ?_|refine zB ?_ ?_<;>intro h<;>try exact zk h|refine zC (c) ?_|rfl|((exfalso;first|(simp only [decide_eq_true_eq,decide_eq_false_iff_not] at *;omega)|(simp at h;exact hz (by omega))|(simp at *;omega)))|fail)
 .by_cases hz:d=0
  .obtain⟨rfl⟩:=hz
   exact checkRawI [a,b,c] (by simp) t h1
  .have he:=hbd (by simpa using hz)
   rw [he];have c:=ofI [a,b,c] (by simp);refine kF Try.func89 [2] fun w=>?_
   repeat' (first|refine zW ?_|refine zB ?_ ?_<;>intro h<;>try exact zk h|refine zC (c) ?_|rfl|((exfalso;first|(simp only [decide_eq_true_eq,decide_eq_false_iff_not] at *;omega)|(simp at h;exact hz (by omega))|(simp at *;omega)))|fail)
 .exact checkRawI [a,b,c,d] (by simp) t h1
theorem sameLk (a b:List (List Nat)) (ha:∀ x ∈ a,x.length<=4) (hl:a.length<=1048576):KnownCall Try.prog 39 [lks a,lks b] (.d (.bool (decide (a=b)))):=by
 by_cases hab:a.length=b.length
 .refine kF Try.func39 [] fun w=>?_
  repeat' (first|refine zW ?_|refine zB ?_ ?_<;>intro h<;>try exact zk h|refine zX ?_|exact zk h|fail)
  refine Run.loop (fun i:Nat=>⟨PT.ofList [(0,.d (lks a)),(1,.d (lks b)),(5,.d (.int .i64 i))],[],[]⟩) (fun i=>i<=a.length/\a.take i=b.take i) (fun i=>a.length-i) 0 ⟨Nat.zero_le _,rfl⟩ (weak_of (by repeat' (first|exact trivial|refine⟨rfl,?_⟩))) (fun i hi=>?_);rcases Nat.lt_or_ge i a.length with hlt|hge
  .obtain⟨x,hx⟩:=get_ok hlt
   obtain⟨y,hy⟩:=get_ok (show i<b.length by omega);have hxl:=ha x (List.mem_of_getElem? hx);by_cases hxy:x=y
   .subst hxy
    have hnx:a.take (i+1)=b.take (i+1):=by rw [List.take_add_one,List.take_add_one,hi.2,hx,hy]
    repeat' (first|refine zW ?_|refine zB ?_ ?_<;>intro h<;>try exact zk h|refine zX ?_|refine zI w (.d (.ep (lkC x))) hx ?_|refine zI w (.d (.ep (lkC x))) hy ?_|(exact⟨i+1,⟨hlt,hnx⟩,by omega,weak_of (by repeat' (first|exact trivial|refine⟨rfl,?_⟩|refine⟨(inc_get (k:=i) (by kernel_rfl) (by omega)),?_⟩))⟩)|exact zk h|fail)
   .have hne:a≠b:=fun e=>by subst e;rw [hx] at hy;cases hy;exact hxy rfl
    rw [decide_eq_false hne]
    repeat' (first|refine zW ?_|refine zB ?_ ?_<;>intro h<;>try exact zk h|refine zX ?_|refine zI w (.d (.ep (lkC x))) hx ?_|refine zI w (.d (.ep (lkC y))) hy ?_|rfl|((exfalso;simp only [Bool.not_eq_eq_eq_not,Bool.not_false,bne,Bool.and_eq_true,beq_iff_eq] at h;exact hxy (lk_inj hxl (by omega) (by omega) (by omega) (by omega) (by omega))))|exact zk h|fail)
  .have hie:i=a.length:=by have:=hi.1;omega
   have he:a=b:=by
    have:=hi.2
    rwa [hie,List.take_length,hab,List.take_length] at this
   rw [decide_eq_true he];subst hie
   repeat' (first|refine zW ?_|refine zB ?_ ?_<;>intro h<;>try exact zk h|refine zX ?_|rfl|exact zk h|fail)
 .have hne:a≠b:=fun e=>hab (by rw [e])
  rw [decide_eq_false hne];refine kF Try.func39 [] fun w=>?_
  repeat' (first|refine zW ?_|refine zB ?_ ?_<;>intro h<;>try exact zk h|refine zX ?_|rfl|exact zk h|fail)
theorem ownLk (l:List (List Nat)) (hl:l.length<=1048576):KnownCall Try.prog 36 [lks l] (.d (lks l)):=by
 have w:Fz []:=trivial;refine knownE2 Yo (fnB Try.func36 []) ?_
 repeat' (first|refine zW ?_|refine zB ?_ ?_<;>intro h<;>try exact zk h|refine zX ?_|refine zAp ?_|(refine Yt ?_;refine r2 ?_;first|done|(exact .refl))|fail)
theorem numbersR (t:Int):KnownCall Try.prog 88 [iI t] (.d (iI (if t<1\/8<t then 2 else 0))):=by
 by_cases h1:t<1\/8<t
 .rw [if_pos h1]
  refine kF Try.func88 [] fun w=>?_
  repeat' (first|refine zW ?_|refine zB ?_ ?_<;>intro h<;>try exact zk h|rfl|((exfalso;simp only [decide_eq_true_eq,decide_eq_false_iff_not] at *;omega))|fail)
 .rw [if_neg h1]
  refine kF Try.func88 [] fun w=>?_
  repeat' (first|refine zW ?_|refine zB ?_ ?_<;>intro h<;>try exact zk h|rfl|((exfalso;simp only [decide_eq_true_eq,decide_eq_false_iff_not] at *;omega))|fail)
theorem aheadR (k:Int):KnownCall Try.prog 72 [iI k] (.d (iI (rngS 0 k))):=by
 by_cases h1:k<1\/4<k
 .rw [show rngS 0 k=2 by unfold rngS;rw [if_pos ⟨rfl,h1⟩]]
  refine kF Try.func72 [] fun w=>?_
  repeat' (first|refine zW ?_|refine zB ?_ ?_<;>intro h<;>try exact zk h|rfl|((exfalso;simp only [decide_eq_true_eq,decide_eq_false_iff_not] at *;omega))|fail)
 .rw [show rngS 0 k=0 by unfold rngS;rw [if_neg (fun h=>h1 h.2)]]
  refine kF Try.func72 [] fun w=>?_
  repeat' (first|refine zW ?_|refine zB ?_ ?_<;>intro h<;>try exact zk h|rfl|((exfalso;simp only [decide_eq_true_eq,decide_eq_false_iff_not] at *;omega))|fail)
theorem checkR (t:Int) (L:List Raw) (hl:L.length<=1048576):KnownCall Try.prog 48 [iI t,rws L] (.d (iI (chkS t L))):=by
 have c0:=numbersR t;by_cases h1:t<1\/8<t
 .rw [show chkS t L=2 by unfold chkS;rw [if_pos h1]]
  rw [if_pos h1] at c0;refine kF Try.func48 [] fun w=>?_
  repeat' (first|refine zW ?_|refine zB ?_ ?_<;>intro h<;>try exact zk h|refine zC (c0) ?_|rfl|fail)
 have hu:chkS t L=if 4681<L.length then 6 else chkG t none L:=by unfold chkS;rw [if_neg h1]
 rw [if_neg h1] at c0;by_cases h2:4681<L.length
 .rw [show chkS t L=6 by rw [hu,if_pos h2]]
  refine kF Try.func48 [] fun w=>?_
  repeat' (first|refine zW ?_|refine zB ?_ ?_<;>intro h<;>try exact zk h|refine zC (c0) ?_|rfl|((exfalso;simp only [List.length_map,decide_eq_true_eq,decide_eq_false_iff_not] at *;omega))|fail)
 rw [show chkS t L=chkG t none L by rw [hu,if_neg h2]];generalize hR:chkG t none L=R;refine kF Try.func48 [] fun w=>?_
 repeat' (first|refine zW ?_|refine zB ?_ ?_<;>intro h<;>try exact zk h|refine zC (c0) ?_|((exfalso;simp only [List.length_map,decide_eq_true_eq,decide_eq_false_iff_not] at *;omega))|fail)
 refine Run.loopT (fun i:Nat=>⟨PT.ofList [(0,.d (iI t)),(1,.d (rws L)),(19,.d (rws L)),(20,.d (nI (L.map rw5).length)),(21,.d (nI i))],[],[]⟩) (fun i=>i<=L.length/\chkG t (pv L i) (L.drop i)=R/\∀ q,pv L i=some q->chkR q t=0) (fun i=>L.length-i) 0 ⟨Nat.zero_le _,hR,by simp [pv]⟩ (ti _ 0) (fun i hi=>?_);obtain⟨hi1,hi2,hi3⟩:=hi;rcases Nat.lt_or_ge i L.length with hlt|hge
 .obtain⟨r,hr⟩:=get_ok hlt
  have c1:=checkRaw r t;rw [drop_at hr] at hi2;by_cases h0:chkR r t=0
  .rw [h0] at c1
   have hpn:pv L (i+1)=some r:=hr;rcases i with _|i
   .have hp1:pv L 1=some r:=hr
    have hg:chkG t (pv L 1) (L.drop 1)=R:=by rw [hp1,<- hi2];simp [pv,chkG,h0]
    repeat' (first|refine zW ?_|refine zB ?_ ?_<;>intro h<;>try exact zk h|refine zC (c1) ?_|refine zI w (.d (.ep (rwC r))) hr ?_|(exact⟨1,⟨hlt,hg,fun q e=>by rw [hp1] at e;cases e;exact h0⟩,by omega,(ti _ 0)⟩)|((exfalso;simp only [List.length_map,decide_eq_true_eq,decide_eq_false_iff_not] at *;omega))|fail)
   .obtain⟨q,hq⟩:=get_ok (show i<L.length by omega)
    have hq0:=hi3 q hq;have hpq:pv L (i+1)=some q:=hq;rw [hpq] at hi2;obtain⟨_,_,x,hx,e1,_⟩:=chkR_raw hq0;obtain⟨_,_,y,hy,e2,_⟩:=chkR_raw h0;have c2:=compareS x y hx hy;have hdx:dec q=x:=by rw [e1,dec_of hx.len]
    have hdy:dec r=y:=by rw [e2,dec_of hy.len]
    simp only [chkG,h0,if_true,hdx,hdy] at hi2;have hsub:AV.d (.int .i64 (IntKind.i64.wrap (((i+1:Nat):Int)-1)))=.d (nI i):=by
     congr 2;rw [show((i+1:Nat):Int)-1=(i:Nat) by omega];exact wrap_nat (by omega)
    have hp2:pv L (i+2)=some r:=hr;have hgo:¬ 0<=cmpL x y->chkG t (pv L (i+2)) (L.drop (i+2))=R:=fun h=>by rw [if_neg h] at hi2;rw [hp2];exact hi2
    have hbd:0<=cmpL x y->9=R:=fun h=>by rw [if_pos h] at hi2;exact hi2
    subst e1 e2
    repeat' (first|refine zV hsub ?_|refine zW ?_|refine zB ?_ ?_<;>intro h<;>try exact zk h|refine zC (c1) ?_|refine zC (c2) ?_|refine zI w (.d (.ep (lkC y))) hr ?_|refine zI w (.d (.ep (lkC x))) hq ?_|(show _=_;rw [hbd (by simp only [decide_eq_true_eq] at *;assumption)])|(exact⟨i+2,⟨hlt,hgo (by simp only [decide_eq_false_iff_not] at *;assumption),fun q e=>by rw [hp2] at e;cases e;exact h0⟩,by omega,(ti _ 0)⟩)|((exfalso;simp only [List.length_map,decide_eq_true_eq,decide_eq_false_iff_not] at *;omega))|fail)
  .rw [chkG_bad h0] at hi2
   rw [hi2] at c1;have hR0:R≠0:=by rw [<- hi2];exact h0
   repeat' (first|refine zW ?_|refine zB ?_ ?_<;>intro h<;>try exact zk h|refine zC (c1) ?_|refine zI w (.d (.ep (rwC r))) hr ?_|rfl|((exfalso;first|exact hR0 (by simpa using h)|(simp only [List.length_map,decide_eq_true_eq,decide_eq_false_iff_not] at *;omega)))|fail)
 .have hie:i=L.length:=by omega
  subst hie;rw [List.drop_length,chkG_nil] at hi2;subst hi2
  repeat' (first|refine zW ?_|refine zB ?_ ?_<;>intro h<;>try exact zk h|rfl|((exfalso;simp only [List.length_map,decide_eq_true_eq,decide_eq_false_iff_not] at *;omega))|fail)
def allE (t:Int):List (List Raw)->Int
 |[]=>0
 |L :: l=>if chkS t L=0 then allE t l else chkS t L
abbrev rrows (l:List (List Raw)):DV:=.sl 1 (l.map rws)
theorem allR (t:Int) (l:List (List Raw)) (hn:l≠[]) (hl:∀ L ∈ l,L.length<=1048576) (hll:l.length<=10):KnownCall Try.prog 71 [iI t,rrows l] (.d (iI (allE t l))):=by
 have c0:=numbersR t;by_cases h1:t<1\/8<t
 .have he:allE t l=2:=by
   obtain⟨L,m,rfl⟩:=List.exists_cons_of_ne_nil hn;have e:chkS t L=2:=by unfold chkS;rw [if_pos h1]
   unfold allE;rw [e];rfl
  rw [he];rw [if_pos h1] at c0;refine kF Try.func71 [] fun w=>?_
  repeat' (first|refine zW ?_|refine zB ?_ ?_<;>intro h<;>try exact zk h|refine zC (c0) ?_|fail)
  refine Run.loop (fun _:Unit=>⟨PT.ofList [(0,.d (iI t)),(1,.d (rrows l)),(5,.d (.int .i64 2)),(6,.d (.int .i64 0))],[],[]⟩) (fun _=>t=t) (fun _=>0) () rfl (weak_of (by repeat' (first|exact trivial|refine⟨rfl,?_⟩))) (fun _ _=>?_)
  repeat' (first|refine zW ?_|refine zB ?_ ?_<;>intro h<;>try exact zk h|rfl|((exfalso;simp only [List.length_map,decide_eq_true_eq,decide_eq_false_iff_not] at *;exact Bool.noConfusion ‹_›))|fail)
 rw [if_neg h1] at c0;generalize hR:allE t l=R;refine kF Try.func71 [] fun w=>?_
 repeat' (first|refine zW ?_|refine zB ?_ ?_<;>intro h<;>try exact zk h|refine zC (c0) ?_|fail)
 refine Run.loopT (fun p:Nat × Int=>⟨PT.ofList [(0,.d (iI t)),(1,.d (rrows l)),(5,.d (iI p.2)),(6,.d (nI p.1))],[],[]⟩) (fun p=>p.1<=l.length/\(p.2=0->allE t (l.drop p.1)=R)/\(p.2≠0->p.2=R)) (fun p=>l.length-p.1) (0,0) ⟨Nat.zero_le _,fun _=>hR,fun h=>absurd rfl h⟩ (ti _ 0) (fun p hp=>?_);obtain⟨i,e⟩:=p;obtain⟨hp1,hp2,hp3⟩:=hp;simp only at hp1 hp2 hp3 |-;by_cases h0:e=0
 .subst h0
  have hp2:=hp2 rfl;rcases Nat.lt_or_ge i l.length with hlt|hge
  .obtain⟨L,hL⟩:=get_ok hlt
   have c1:=checkR t L (hl L (List.mem_of_getElem? hL));rw [drop_at hL,allE] at hp2;have hz:chkS t L=0->allE t (l.drop (i+1))=R:=fun h=>by rwa [if_pos h] at hp2
   have hb:chkS t L≠0->chkS t L=R:=fun h=>by rwa [if_neg h] at hp2
   generalize chkS t L=e at *
   repeat' (first|refine zW ?_|refine zB ?_ ?_<;>intro h<;>try exact zk h|refine zC (c1) ?_|refine zI w (.d (.ep [rws L])) hL ?_|rfl|(exact⟨(i+1,e),⟨hlt,hz,hb⟩,by simp only [];omega,(ti _ 0)⟩)|((exfalso;simp only [List.length_map,decide_eq_true_eq,decide_eq_false_iff_not] at *;omega))|fail)
  .have hie:i=l.length:=by omega
   subst hie;rw [List.drop_length] at hp2;subst hp2
   repeat' (first|refine zW ?_|refine zB ?_ ?_<;>intro h<;>try exact zk h|rfl|((exfalso;simp only [List.length_map,decide_eq_true_eq,decide_eq_false_iff_not] at *;omega))|fail)
 .have hp3:=hp3 h0
  subst hp3
  repeat' (first|refine zW ?_|refine zB ?_ ?_<;>intro h<;>try exact zk h|rfl|((exfalso;exact h0 (by simpa using ‹(e == 0)=true›)))|fail)
theorem allE1 (t:Int) (a:List Raw):allE t [a]=chkS t a:=by
 unfold allE;split
 .rename_i h;rw [h];rfl
 .rfl
theorem allE2 (t:Int) (a b:List Raw):allE t [a,b]=bothS t a b:=by
 unfold allE bothS;rw [allE1]
theorem cutE (t k:Int) (L:List Raw) (hl:L.length<=1048576) (h:rngS (chkS t L) k≠0):KnownCall Try.prog 40 [iI t,iI k,rws L] (.tup [.d .nilsl,.d (iI (rngS (chkS t L) k))]):=by
 have c1:=allR t [L] (by simp) (by simpa using hl) (by simp);rw [allE1] at c1;by_cases h0:chkS t L=0
 .rw [h0] at c1 h |-
  have c2:=aheadR k;generalize rngS 0 k=e at *;refine kF Try.func40 [11,23] fun w=>?_
  repeat' (first|refine zW ?_|refine zB ?_ ?_<;>intro h<;>try exact zk h|refine zX ?_|refine zC (c1) ?_|refine zC (c2) ?_|rfl|((exfalso;exact h (by simpa using ‹(e != 0)=false›)))|fail)
 .rw [show rngS (chkS t L) k=chkS t L by unfold rngS;rw [if_neg (fun h=>h0 h.1)]]
  generalize chkS t L=e at *;refine kF Try.func40 [11,23] fun w=>?_
  repeat' (first|refine zW ?_|refine zB ?_ ?_<;>intro h<;>try exact zk h|refine zX ?_|refine zC (c1) ?_|rfl|((exfalso;first|exact h0 (by simpa using ‹(e != 0)=false›)|exact h0 (by simpa using ‹(e == 0)=true›)))|fail)
theorem sumE (t k:Int) (a b:List Raw) (ha:a.length<=1048576) (hb:b.length<=1048576) (h:rngS (bothS t a b) k≠0):KnownCall Try.prog 37 [iI t,iI k,rws a,rws b] (.tup [.d .nilsl,.d (iI (rngS (bothS t a b) k))]):=by
 have c1:=allR t [a,b] (by simp) (by simp [ha,hb]) (by simp);rw [allE2] at c1;by_cases h0:bothS t a b=0
 .rw [h0] at c1 h |-
  have c2:=aheadR k;generalize rngS 0 k=e at *;refine kF Try.func37 [15,25] fun w=>?_
  repeat' (first|refine zW ?_|refine zB ?_ ?_<;>intro h<;>try exact zk h|refine zX ?_|refine zC (c1) ?_|refine zC (c2) ?_|rfl|((exfalso;exact h (by simpa using ‹(e != 0)=false›)))|fail)
 .rw [show rngS (bothS t a b) k=bothS t a b by unfold rngS;rw [if_neg (fun h=>h0 h.1)]]
  generalize bothS t a b=e at *;refine kF Try.func37 [15,25] fun w=>?_
  repeat' (first|refine zW ?_|refine zB ?_ ?_<;>intro h<;>try exact zk h|refine zX ?_|refine zC (c1) ?_|rfl|((exfalso;first|exact h0 (by simpa using ‹(e != 0)=false›)|exact h0 (by simpa using ‹(e == 0)=true›)))|fail)
theorem sameNil:KnownCall Try.prog 39 [.nilsl,.nilsl] (.d (.bool true)):=by
 refine kF Try.func39 [] fun w=>?_
 repeat' (first|refine zW ?_|refine zB ?_ ?_<;>intro h<;>try exact zk h|fail)
 refine Run.loop (fun _:Unit=>⟨PT.ofList [(0,.d .nilsl),(1,.d .nilsl),(5,.d (.int .i64 0))],[],[]⟩) (fun _=>(0:Nat)=0) (fun _=>0) () rfl (weak_of (by repeat' (first|exact trivial|refine⟨rfl,?_⟩))) (fun _ _=>?_)
 repeat' (first|refine zW ?_|refine zB ?_ ?_<;>intro h<;>try exact zk h|rfl|fail)
theorem sameRw (a:List Raw) (hl:a.length<=1048576):KnownCall Try.prog 39 [rws a,rws a] (.d (.bool true)):=by
 refine kF Try.func39 [] fun w=>?_
 repeat' (first|refine zW ?_|refine zB ?_ ?_<;>intro h<;>try exact zk h|exact zk h|fail)
 refine Run.loop (fun i:Nat=>⟨PT.ofList [(0,.d (rws a)),(1,.d (rws a)),(5,.d (.int .i64 i))],[],[]⟩) (fun i=>i<=a.length) (fun i=>a.length-i) 0 (Nat.zero_le _) (weak_of (by repeat' (first|exact trivial|refine⟨rfl,?_⟩))) (fun i hi=>?_);rcases Nat.lt_or_ge i a.length with hlt|hge
 .obtain⟨x,hx⟩:=get_ok hlt
  repeat' (first|refine zW ?_|refine zB ?_ ?_<;>intro h<;>try exact zk h|refine zI w (.d (.ep (rwC x))) hx ?_|(exact⟨i+1,hlt,by omega,weak_of (by repeat' (first|exact trivial|refine⟨rfl,?_⟩|refine⟨(inc_get (k:=i) (by kernel_rfl) (by omega)),?_⟩))⟩)|exact zk h|fail)
 .have hie:i=a.length:=by omega
  subst hie
  repeat' (first|refine zW ?_|refine zB ?_ ?_<;>intro h<;>try exact zk h|rfl|exact zk h|fail)
theorem ownRw (l:List Raw) (hl:l.length<=1048576):KnownCall Try.prog 36 [rws l] (.d (rws l)):=by
 have w:Fz []:=trivial;refine knownE2 Yo (fnB Try.func36 []) ?_
 repeat' (first|refine zW ?_|refine zB ?_ ?_<;>intro h<;>try exact zk h|refine zAp ?_|(refine Yt ?_;refine r2 ?_;first|done|(exact .refl))|fail)
def e0:List DV × AV:=([(.int .i64 3),(.sl 1 [(.sl 5 [(.agg [(.int .i64 0),(.int .i64 0),(.int .i64 0),(.int .i64 0),(.int .i64 0)]),(.agg [(.int .i64 1),(.int .i64 1),(.int .i64 0),(.int .i64 0),(.int .i64 0)])]),(.sl 5 [(.agg [(.int .i64 1),(.int .i64 0),(.int .i64 0),(.int .i64 0),(.int .i64 0)]),(.agg [(.int .i64 1),(.int .i64 1),(.int .i64 0),(.int .i64 0),(.int .i64 0)])])])],(.d (.int .i64 0)))
theorem k0:KnownCall Try.prog 71 e0.1 e0.2:=knownF T0_ok Yo (by kernel_rfl) Ft_ok (k:=100000) (n:=60) (by kernel_rfl)
def e1:List DV × AV:=([(.int .i64 3),(.sl 1 [(.sl 5 [(.agg [(.int .i64 0),(.int .i64 0),(.int .i64 0),(.int .i64 0),(.int .i64 0)]),(.agg [(.int .i64 1),(.int .i64 0),(.int .i64 0),(.int .i64 0),(.int .i64 0)])]),(.sl 5 [(.agg [(.int .i64 1),(.int .i64 1),(.int .i64 0),(.int .i64 0),(.int .i64 0)]),(.agg [(.int .i64 2),(.int .i64 1),(.int .i64 2),(.int .i64 0),(.int .i64 0)])])])],(.d (.int .i64 0)))
theorem k1:KnownCall Try.prog 71 e1.1 e1.2:=knownF T0_ok Yo (by kernel_rfl) Ft_ok (k:=100000) (n:=60) (by kernel_rfl)
def e3:List DV × AV:=([(.int .i64 3),(.sl 5 [(.agg [(.int .i64 2),(.int .i64 0),(.int .i64 1),(.int .i64 0),(.int .i64 0)]),(.agg [(.int .i64 2),(.int .i64 0),(.int .i64 2),(.int .i64 0),(.int .i64 0)]),(.agg [(.int .i64 1),(.int .i64 1),(.int .i64 0),(.int .i64 0),(.int .i64 0)])])],(.d (.int .i64 0)))
theorem k3:KnownCall Try.prog 48 e3.1 e3.2:=knownF T0_ok Yo (by kernel_rfl) Ft_ok (k:=100000) (n:=60) (by kernel_rfl)
def e4:List DV × AV:=([(.fn (.func 101) [] [(.ep [(.sl 5 [(.agg [(.int .i64 2),(.int .i64 0),(.int .i64 1),(.int .i64 0),(.int .i64 0)]),(.agg [(.int .i64 2),(.int .i64 0),(.int .i64 2),(.int .i64 0),(.int .i64 0)]),(.agg [(.int .i64 1),(.int .i64 1),(.int .i64 0),(.int .i64 0),(.int .i64 0)])])]),(.ep [(.sl 5 [(.agg [(.int .i64 0),(.int .i64 0),(.int .i64 0),(.int .i64 0),(.int .i64 0)])])]),(.ep [(.int .i64 2)])])],(.d (.sl 5 [(.agg [(.int .i64 2),(.int .i64 0),(.int .i64 1),(.int .i64 0),(.int .i64 0)]),(.agg [(.int .i64 2),(.int .i64 0),(.int .i64 2),(.int .i64 0),(.int .i64 0)]),(.agg [(.int .i64 1),(.int .i64 1),(.int .i64 0),(.int .i64 0),(.int .i64 0)])])))
theorem k4:KnownCall Try.prog 73 e4.1 e4.2:=knownF T0_ok Yo (by kernel_rfl) Ft_ok (k:=100000) (n:=60) (by kernel_rfl)
def e5:List DV × AV:=([(.fn (.func 101) [] [(.ep [(.sl 5 [(.agg [(.int .i64 0),(.int .i64 0),(.int .i64 0),(.int .i64 0),(.int .i64 0)]),(.agg [(.int .i64 1),(.int .i64 0),(.int .i64 0),(.int .i64 0),(.int .i64 0)])])]),(.ep [(.sl 5 [(.agg [(.int .i64 1),(.int .i64 1),(.int .i64 0),(.int .i64 0),(.int .i64 0)]),(.agg [(.int .i64 2),(.int .i64 1),(.int .i64 2),(.int .i64 0),(.int .i64 0)])])]),(.ep [(.int .i64 2)])])],(.d (.sl 5 [(.agg [(.int .i64 2),(.int .i64 0),(.int .i64 1),(.int .i64 0),(.int .i64 0)]),(.agg [(.int .i64 1),(.int .i64 1),(.int .i64 0),(.int .i64 0),(.int .i64 0)]),(.agg [(.int .i64 2),(.int .i64 1),(.int .i64 2),(.int .i64 0),(.int .i64 0)])])))
theorem k5:KnownCall Try.prog 73 e5.1 e5.2:=knownF T0_ok Yo (by kernel_rfl) Ft_ok (k:=100000) (n:=60) (by kernel_rfl)
def T1:Memo:=(.node (.node (.node (.node .nil none (.node (.node (.node .nil (some [e0,e1]) .nil) none .nil) none .nil)) none .nil) none (.node (.node .nil none (.node (.node (.node .nil (some [e4,e5]) .nil) none .nil) none .nil)) none .nil)) none (.node (.node (.node (.node .nil none (.node .nil (some [e3]) .nil)) none .nil) none .nil) none .nil))
theorem T1_ok:MemoOK Try.prog T1:=⟨trivial,⟨trivial,⟨trivial,⟨trivial,trivial,⟨trivial,⟨trivial,⟨⟨k0,k1,trivial⟩,trivial,trivial⟩,trivial⟩,trivial⟩⟩,trivial⟩,⟨trivial,⟨trivial,trivial,⟨trivial,⟨trivial,⟨⟨k4,k5,trivial⟩,trivial,trivial⟩,trivial⟩,trivial⟩⟩,trivial⟩⟩,⟨trivial,⟨trivial,⟨trivial,⟨trivial,trivial,⟨⟨k3,trivial⟩,trivial,trivial⟩⟩,trivial⟩,trivial⟩,trivial⟩⟩
def e2:List DV × AV:=([(.int .i64 3),(.int .i64 1),(.sl 5 [(.agg [(.int .i64 0),(.int .i64 0),(.int .i64 0),(.int .i64 0),(.int .i64 0)]),(.agg [(.int .i64 1),(.int .i64 0),(.int .i64 0),(.int .i64 0),(.int .i64 0)])]),(.sl 5 [(.agg [(.int .i64 1),(.int .i64 1),(.int .i64 0),(.int .i64 0),(.int .i64 0)]),(.agg [(.int .i64 2),(.int .i64 1),(.int .i64 2),(.int .i64 0),(.int .i64 0)])])],(.tup [(.d (.sl 5 [(.agg [(.int .i64 1),(.int .i64 0),(.int .i64 0),(.int .i64 0),(.int .i64 0)]),(.agg [(.int .i64 1),(.int .i64 1),(.int .i64 0),(.int .i64 0),(.int .i64 0)])])),(.d (.int .i64 0))]))
theorem k2:KnownCall Try.prog 37 e2.1 e2.2:=knownF T1_ok Yo (by kernel_rfl) Ft_ok (k:=100000) (n:=60) (by kernel_rfl)
def e6:List DV × AV:=([(.int .i64 3),(.int .i64 2),(.sl 5 [(.agg [(.int .i64 0),(.int .i64 0),(.int .i64 0),(.int .i64 0),(.int .i64 0)]),(.agg [(.int .i64 1),(.int .i64 0),(.int .i64 0),(.int .i64 0),(.int .i64 0)])]),(.sl 5 [(.agg [(.int .i64 1),(.int .i64 1),(.int .i64 0),(.int .i64 0),(.int .i64 0)]),(.agg [(.int .i64 2),(.int .i64 1),(.int .i64 2),(.int .i64 0),(.int .i64 0)])])],(.tup [(.d (.sl 5 [(.agg [(.int .i64 2),(.int .i64 0),(.int .i64 1),(.int .i64 0),(.int .i64 0)]),(.agg [(.int .i64 1),(.int .i64 1),(.int .i64 0),(.int .i64 0),(.int .i64 0)]),(.agg [(.int .i64 2),(.int .i64 1),(.int .i64 2),(.int .i64 0),(.int .i64 0)])])),(.d (.int .i64 0))]))
theorem k6:KnownCall Try.prog 37 e6.1 e6.2:=knownF T1_ok Yo (by kernel_rfl) Ft_ok (k:=100000) (n:=60) (by kernel_rfl)
def T2:Memo:=(.node (.node (.node (.node .nil none (.node (.node (.node .nil (some [e0,e1]) .nil) none .nil) none .nil)) none .nil) none (.node (.node .nil none (.node (.node (.node .nil (some [e4,e5]) .nil) none .nil) none .nil)) none (.node (.node (.node .nil (some [e2,e6]) .nil) none .nil) none .nil))) none (.node (.node (.node (.node .nil none (.node .nil (some [e3]) .nil)) none .nil) none .nil) none .nil))
theorem T2_ok:MemoOK Try.prog T2:=⟨trivial,⟨trivial,⟨trivial,⟨trivial,trivial,⟨trivial,⟨trivial,⟨⟨k0,k1,trivial⟩,trivial,trivial⟩,trivial⟩,trivial⟩⟩,trivial⟩,⟨trivial,⟨trivial,trivial,⟨trivial,⟨trivial,⟨⟨k4,k5,trivial⟩,trivial,trivial⟩,trivial⟩,trivial⟩⟩,⟨trivial,⟨trivial,⟨⟨k2,k6,trivial⟩,trivial,trivial⟩,trivial⟩,trivial⟩⟩⟩,⟨trivial,⟨trivial,⟨trivial,⟨trivial,trivial,⟨⟨k3,trivial⟩,trivial,trivial⟩⟩,trivial⟩,trivial⟩,trivial⟩⟩
def e7:List DV × AV:=([],(.d (.bool true)))
theorem k7:KnownCall Try.prog 33 e7.1 e7.2:=knownF T2_ok Yo (by kernel_rfl) Ft_ok (k:=100000) (n:=60) (by kernel_rfl)
def T3:Memo:=(.node (.node (.node (.node .nil none (.node (.node (.node .nil (some [e0,e1]) .nil) none .nil) none .nil)) none .nil) none (.node (.node (.node (.node .nil (some [e7]) .nil) none .nil) none (.node (.node (.node .nil (some [e4,e5]) .nil) none .nil) none .nil)) none (.node (.node (.node .nil (some [e2,e6]) .nil) none .nil) none .nil))) none (.node (.node (.node (.node .nil none (.node .nil (some [e3]) .nil)) none .nil) none .nil) none .nil))
theorem T3_ok:MemoOK Try.prog T3:=⟨trivial,⟨trivial,⟨trivial,⟨trivial,trivial,⟨trivial,⟨trivial,⟨⟨k0,k1,trivial⟩,trivial,trivial⟩,trivial⟩,trivial⟩⟩,trivial⟩,⟨trivial,⟨trivial,⟨trivial,⟨⟨k7,trivial⟩,trivial,trivial⟩,trivial⟩,⟨trivial,⟨trivial,⟨⟨k4,k5,trivial⟩,trivial,trivial⟩,trivial⟩,trivial⟩⟩,⟨trivial,⟨trivial,⟨⟨k2,k6,trivial⟩,trivial,trivial⟩,trivial⟩,trivial⟩⟩⟩,⟨trivial,⟨trivial,⟨trivial,⟨trivial,trivial,⟨⟨k3,trivial⟩,trivial,trivial⟩⟩,trivial⟩,trivial⟩,trivial⟩⟩
def e8:List DV × AV:=([],(.d (.bool true)))
theorem k8:KnownCall Try.prog 42 e8.1 e8.2:=knownF T3_ok Yo (by kernel_rfl) Ft_ok (k:=100000) (n:=60) (by kernel_rfl)
end Go.Av
end
noncomputable section
namespace Go.Av
open Go Go.Proofs
end Go.Av
end
noncomputable section
namespace Go.Av
open Go Go.Proofs
end Go.Av
end
noncomputable section
namespace Go.Av
open Go Go.Proofs
set_option maxRecDepth 10000
section
variable {H:Type} {enc:TypeId × Value->H} {w:World} {spare:Nat->Bool} {held:Bool} {fuel:Nat} {cs:List Value} {x:DataW H × List MemPlace}
end
structure MdS (a:List (List Nat)):Prop where
 ok:SetOK 3 a
 len:a.length<=16
theorem known33:KnownCall Try.prog 33 [] (.d (.bool true)):=k7
theorem rngS_0 {e k:Int} (h:rngS e k=0):e=0/\1<=k/\k<=4:=by
 unfold rngS at h;split at h<;>omega
theorem bothS_0 {t:Int} {a b:List Raw} (h:bothS t a b=0):chkS t a=0/\chkS t b=0:=by
 unfold bothS at h;split at h
 .exact⟨by assumption,h⟩
 .omega
set_option maxHeartbeats 2000000 in
theorem lawS (t k:Int) (a b:List Raw):KnownCall Try.prog 7 [iI t,iI k,rws a,rws b] (.d (.bool true)):=by
 have k0:=known33;have b1:=bndBound a;have b2:=bndBound14 a;by_cases hc:a.length<=40/\b.length<=40
 .obtain⟨hal,hbl⟩:=hc
  rw [if_neg (by omega)] at b1 b2;by_cases hs:rngS (bothS t a b) k=0
  .obtain⟨hs0,hk1,hk4⟩:=rngS_0 hs
   obtain⟨ca,cb⟩:=bothS_0 hs0;obtain⟨t1,t8,A,rfl,hA⟩:=chkS_ok ca;obtain⟨_,_,B,rfl,hB⟩:=chkS_ok cb;rw [List.length_map] at hal hbl;obtain⟨n,rfl⟩:∃ n:Nat,t=n:=⟨t.toNat,by omega⟩
   obtain⟨m,rfl⟩:∃ m:Nat,k=m:=⟨k.toNat,by omega⟩
   rw [Int.toNat_natCast] at hA hB;have hab:A.length*B.length<=1600:=Nat.le_trans (Nat.mul_le_mul hal hbl) (by decide);have o1:=ownLk A (by omega);have o2:=ownLk B (by omega);have s1:=sumSet n (by omega) (by omega) m (by omega) (by omega) A B hA hB (by omega);have s2:=sumRef0 n m (by omega) (by omega) n A B hA hB (by omega) hs0;have c1:=cutSet n (by omega) (by omega) m (by omega) (by omega) A hA;have c2:=cutRef0 n m (by omega) (by omega) n A hA ca;have hsl:=sumS_len m A B;have hcl:=cutS_len m A;have e1:=sameLk (sumS m A B) (sumS m A B) (fun x hx=>(prs_rt (by omega) (cutS_rt (by omega) hA.rt) (cutS_rt (by omega) hB.rt) x (mem_asc.1 hx)).len) (by omega);have e2:=sameLk (cutS m A) (cutS m A) (fun x hx=>(cutS_rt (by omega) hA.rt x hx).len) (by omega);have e3:=sameLk A A (fun x hx=>(hA.rt x hx).len) (by omega);have e4:=sameLk B B (fun x hx=>(hB.rt x hx).len) (by omega);rw [decide_eq_true rfl] at e1 e2 e3 e4;rw [rws_of] at b1 b2;rw [rws_of,rws_of];generalize sumS m A B=S at *;generalize cutS m A=C at *;clear hs hs0 ca cb hA hB;refine kF Try.func7 [] fun w=>?_
   repeat' (first|refine zW ?_|refine zB ?_ ?_<;>intro h<;>try exact zk h|refine zC (k0) ?_|refine zC (b1) ?_|refine zC (b2) ?_|refine zC (o1) ?_|refine zC (o2) ?_|refine zC (s1) ?_|refine zC (s2) ?_|refine zC (c1) ?_|refine zC (c2) ?_|refine zC (e1) ?_|refine zC (e2) ?_|refine zC (e3) ?_|refine zC (e4) ?_|rfl|((exfalso;first|(simp at h<;>fail)|(simp only [List.length_map,decide_eq_true_eq,decide_eq_false_iff_not] at *;omega)))|fail)
  .have s1:=sumE t k a b (by omega) (by omega) hs
   have s2:=sumRefE t k a b (by omega) (by omega) hs;have o2:=ownRw b (by omega);have e1:=sameNil;have e4:=sameRw b (by omega);generalize rngS (bothS t a b) k=E at *;by_cases hd:rngS (chkS t a) k=0
   .obtain⟨ca,hk1,hk4⟩:=rngS_0 hd
    obtain⟨t1,t8,A,rfl,hA⟩:=chkS_ok ca;rw [List.length_map] at hal;obtain⟨n,rfl⟩:∃ n:Nat,t=n:=⟨t.toNat,by omega⟩
    obtain⟨m,rfl⟩:∃ m:Nat,k=m:=⟨k.toNat,by omega⟩
    rw [Int.toNat_natCast] at hA;have o1:=ownLk A (by omega);have c1:=cutSet n (by omega) (by omega) m (by omega) (by omega) A hA;have c2:=cutRef0 n m (by omega) (by omega) n A hA ca;have hcl:=cutS_len m A;have e2:=sameLk (cutS m A) (cutS m A) (fun x hx=>(cutS_rt (by omega) hA.rt x hx).len) (by omega);have e3:=sameLk A A (fun x hx=>(hA.rt x hx).len) (by omega);rw [decide_eq_true rfl] at e2 e3;rw [rws_of] at b1 b2 s1 s2;rw [rws_of];generalize cutS m A=C at *;clear hs hd ca hA;refine kF Try.func7 [] fun w=>?_
    repeat' (first|refine zW ?_|refine zB ?_ ?_<;>intro h<;>try exact zk h|refine zC (k0) ?_|refine zC (b1) ?_|refine zC (b2) ?_|refine zC (o1) ?_|refine zC (o2) ?_|refine zC (s1) ?_|refine zC (s2) ?_|refine zC (c1) ?_|refine zC (c2) ?_|refine zC (e1) ?_|refine zC (e2) ?_|refine zC (e3) ?_|refine zC (e4) ?_|rfl|((exfalso;first|(simp at h<;>fail)|(simp only [List.length_map,decide_eq_true_eq,decide_eq_false_iff_not] at *;omega)))|fail)
   .have o1:=ownRw a (by omega)
    have e3:=sameRw a (by omega);have c1:=cutE t k a (by omega) hd;have c2:=cutRefE t k a (by omega) hd;generalize rngS (chkS t a) k=E2 at *;clear hs hd;refine kF Try.func7 [] fun w=>?_
    repeat' (first|refine zW ?_|refine zB ?_ ?_<;>intro h<;>try exact zk h|refine zC (k0) ?_|refine zC (b1) ?_|refine zC (b2) ?_|refine zC (o1) ?_|refine zC (o2) ?_|refine zC (s1) ?_|refine zC (s2) ?_|refine zC (c1) ?_|refine zC (c2) ?_|refine zC (e1) ?_|refine zC (e3) ?_|refine zC (e4) ?_|rfl|((exfalso;first|(simp at h<;>fail)|(simp only [List.length_map,decide_eq_true_eq,decide_eq_false_iff_not] at *;omega)))|fail)
 .generalize (if 600<a.length then(19:Int) else 0)=E at *
  refine kF Try.func7 [] fun w=>?_
  repeat' (first|refine zW ?_|refine zB ?_ ?_<;>intro h<;>try exact zk h|refine zC (k0) ?_|refine zC (b1) ?_|refine zC (b2) ?_|rfl|((exfalso;first|(simp at h<;>fail)|(simp only [List.length_map,decide_eq_true_eq,decide_eq_false_iff_not] at *;omega)))|fail)
end Go.Av
end

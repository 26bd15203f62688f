/-
  Parts of the way to the law, joined: rules for code over data, and what the functions return. Conditions stand at each.
-/
import Derived.Test.YtbbdpddeabojgaaLc2
import Derived.Test.YtbbdpddeabojgaaRows
import Derived.Shelf.SlSortCmp.NoneTotal
import Derived.Test.YtbbdpddeabojgaaProg
set_option linter.all false
namespace Go.Av
open Go Go.Proofs
def ty2:Ty:=⟨.int .i64,1,8,[(.int .i64 0)]⟩
def ty3:Ty:=⟨.int .i64,1,8,[(.int .i64 0)]⟩
def ty4:Ty:=⟨.bool,1,1,[(.bool false)]⟩
def ty5:Ty:=⟨.int .u8,1,1,[(.int .u8 0)]⟩
def ty9:Ty:=⟨.string,1,16,[(.str [])]⟩
def ty22:Ty:=⟨.slice 24,1,24,[.nilsl]⟩
def ty23:Ty:=⟨.slice 3,1,24,[.nilsl]⟩
def ty24:Ty:=⟨.slice 52,1,24,[.nilsl]⟩
def ty27:Ty:=⟨.slice 87,1,24,[.nilsl]⟩
def ty29:Ty:=⟨.struct #[⟨ "Nodes",27,0,false, "", "",0⟩],1,24,[.nilsl]⟩
def ty30:Ty:=⟨.int .i64,1,8,[(.int .i64 0)]⟩
def ty39:Ty:=⟨.struct #[⟨ "K",3,0,false, "", "",0⟩,⟨ "Terms",3,1,false, "", "",8⟩,⟨ "Prods",3,2,false, "", "",16⟩,⟨ "L",23,3,false, "", "",24⟩,⟨ "End",4,4,false, "", "",48⟩],5,56,[(.int .i64 0),(.int .i64 0),(.int .i64 0),.nilsl,(.bool false)]⟩
def ty50:Ty:=⟨.array 4 3,4,32,[(.int .i64 0),(.int .i64 0),(.int .i64 0),(.int .i64 0)]⟩
def ty52:Ty:=⟨.struct #[⟨ "N",3,0,false, "", "",0⟩,⟨ "S",50,1,false, "", "",8⟩],5,40,[(.int .i64 0),(.int .i64 0),(.int .i64 0),(.int .i64 0),(.int .i64 0)]⟩
def ty77:Ty:=⟨.pointer 82,1,8,[.nilptr]⟩
def ty80:Ty:=⟨.map 140 3,1,8,[.nilmap]⟩
def ty82:Ty:=⟨.struct #[⟨ "Trie",29,0,true, "", "",0⟩,⟨ "next",80,1,false, "", "stenotype/trie",24⟩],2,32,[.nilsl,.nilmap]⟩
def ty85:Ty:=⟨.array 9 3,9,72,[(.int .i64 0),(.int .i64 0),(.int .i64 0),(.int .i64 0),(.int .i64 0),(.int .i64 0),(.int .i64 0),(.int .i64 0),(.int .i64 0)]⟩
def ty87:Ty:=⟨.struct #[⟨ "Next",85,0,false, "", "",0⟩,⟨ "Prod",3,9,false, "", "",72⟩],10,80,[(.int .i64 0),(.int .i64 0),(.int .i64 0),(.int .i64 0),(.int .i64 0),(.int .i64 0),(.int .i64 0),(.int .i64 0),(.int .i64 0),(.int .i64 0)]⟩
def ty90:Ty:=⟨.slice 94,1,24,[.nilsl]⟩
def ty94:Ty:=⟨.struct #[⟨ "look",52,0,false, "", "stenotype/stenotyperef18",0⟩,⟨ "prod",3,5,false, "", "stenotype/stenotyperef18",40⟩],6,48,[(.int .i64 0),(.int .i64 0),(.int .i64 0),(.int .i64 0),(.int .i64 0),(.int .i64 0)]⟩
def ty96:Ty:=⟨.func #[3] #[4] false,1,8,[.nilfunc]⟩
def ty97:Ty:=⟨.func #[133] #[] false,1,8,[.nilfunc]⟩
def ty98:Ty:=⟨.func #[133] #[] false,1,8,[.nilfunc]⟩
def ty101:Ty:=⟨.struct #[⟨ "look",52,0,false, "", "stenotype/trie",0⟩,⟨ "prod",3,5,false, "", "stenotype/trie",40⟩],6,48,[(.int .i64 0),(.int .i64 0),(.int .i64 0),(.int .i64 0),(.int .i64 0),(.int .i64 0)]⟩
def ty103:Ty:=⟨.func #[87,87] #[4] false,1,8,[.nilfunc]⟩
def ty109:Ty:=⟨.func #[136] #[] false,1,8,[.nilfunc]⟩
def ty110:Ty:=⟨.func #[136] #[] false,1,8,[.nilfunc]⟩
def ty120:Ty:=⟨.func #[52,52] #[3] false,1,8,[.nilfunc]⟩
def ty121:Ty:=⟨.func #[4,4] #[4] false,1,8,[.nilfunc]⟩
def ty125:Ty:=⟨.func #[77,3,3] #[3] false,1,8,[.nilfunc]⟩
def ty129:Ty:=⟨.array 24 24,24,576,[.nilsl,.nilsl,.nilsl,.nilsl,.nilsl,.nilsl,.nilsl,.nilsl,.nilsl,.nilsl,.nilsl,.nilsl,.nilsl,.nilsl,.nilsl,.nilsl,.nilsl,.nilsl,.nilsl,.nilsl,.nilsl,.nilsl,.nilsl,.nilsl]⟩
def ty133:Ty:=⟨.func #[101] #[4] false,1,8,[.nilfunc]⟩
def ty134:Ty:=⟨.map 52 3,1,8,[.nilmap]⟩
def ty136:Ty:=⟨.func #[52] #[4] false,1,8,[.nilfunc]⟩
def ty140:Ty:=⟨.struct #[⟨ "node",3,0,false, "", "stenotype/trie",0⟩,⟨ "by",3,1,false, "", "stenotype/trie",8⟩],2,16,[(.int .i64 0),(.int .i64 0)]⟩
def ty144:Ty:=⟨.int .u64,1,8,[(.int .u64 0)]⟩
def ty149:Ty:=⟨.int .i64,1,8,[(.int .i64 0)]⟩
def ty156:Ty:=⟨.int .u32,1,4,[(.int .u32 0)]⟩
def ty158:Ty:=⟨.int .u64,1,8,[(.int .u64 0)]⟩
def ty159:Ty:=⟨.int .u64,1,8,[(.int .u64 0)]⟩
def ty163:Ty:=⟨.pointer 3,1,8,[.nilptr]⟩
def ty165:Ty:=⟨.pointer 159,1,8,[.nilptr]⟩
noncomputable def Et:PT Ty:=(.node (.node (.node (.node (.node (.node .nil none (.node (.node .nil (some ty159) .nil) none .nil)) none .nil) none (.node (.node .nil (some ty39) (.node .nil (some ty103) .nil)) (some ty23) (.node (.node .nil (some ty87) .nil) none .nil))) (some ty3) (.node (.node (.node .nil none (.node (.node .nil (some ty163) .nil) none .nil)) none .nil) none (.node .nil (some ty27) .nil))) none (.node (.node (.node (.node (.node (.node .nil (some ty129) .nil) none .nil) none (.node .nil (some ty97) .nil)) none .nil) (some ty9) (.node .nil none (.node .nil none (.node .nil (some ty121) .nil)))) (some ty5) (.node (.node (.node (.node (.node .nil (some ty133) .nil) none .nil) none (.node (.node .nil (some ty165) .nil) (some ty101) .nil)) none (.node (.node (.node .nil (some ty149) .nil) (some ty85) .nil) none .nil)) none (.node (.node (.node .nil (some ty77) .nil) none (.node .nil (some ty109) .nil)) (some ty29) (.node .nil none (.node .nil (some ty125) .nil)))))) none (.node (.node (.node (.node (.node .nil none (.node .nil (some ty96) .nil)) none (.node (.node (.node .nil (some ty144) .nil) (some ty80) .nil) none .nil)) none (.node (.node (.node (.node .nil (some ty136) .nil) none .nil) none .nil) (some ty24) (.node .nil none (.node .nil (some ty120) .nil)))) (some ty4) (.node (.node .nil none (.node .nil (some ty52) .nil)) none (.node (.node (.node (.node .nil (some ty140) .nil) none .nil) none .nil) none (.node (.node (.node .nil (some ty156) .nil) none .nil) none .nil)))) (some ty2) (.node (.node (.node (.node .nil none (.node .nil (some ty98) .nil)) none (.node (.node .nil (some ty82) .nil) (some ty50) .nil)) none (.node .nil none (.node (.node .nil (some ty90) .nil) none .nil))) none (.node (.node (.node (.node (.node .nil (some ty134) .nil) none .nil) none .nil) (some ty22) .nil) none (.node (.node .nil none (.node .nil (some ty110) .nil)) (some ty30) (.node (.node (.node .nil (some ty158) .nil) (some ty94) .nil) none .nil))))))
noncomputable def Ft:PT FnI:=(.node (.node (.node (.node (.node (.node (.node (.node .nil (some (mkFn Try.f127 [])) .nil) (some (mkFn Try.f63 [])) .nil) (some (mkFn Try.f31 [26,39,55,62,67])) (.node .nil (some (mkFn Try.f95 [30])) .nil)) (some (mkFn Try.f15 [2,3])) (.node (.node .nil (some (mkFn Try.f79 [4,5])) .nil) (some (mkFn Try.f47 [])) (.node .nil (some (mkFn Try.f111 [2])) .nil))) (some (mkFn Try.f7 [])) (.node (.node (.node .nil (some (mkFn Try.f71 [])) .nil) (some (mkFn Try.f39 [])) (.node .nil (some (mkFn Try.f103 [2,3])) .nil)) (some (mkFn Try.f23 [131114,6,7,48])) (.node (.node .nil (some (mkFn Try.f87 [])) .nil) (some (mkFn Try.f55 [65538,200000])) (.node .nil (some (mkFn Try.f119 [])) .nil)))) (some (mkFn Try.f3 [62])) (.node (.node (.node (.node (.node .nil (some (mkFn Try.f131 [])) .nil) (some (mkFn Try.f67 [])) .nil) (some (mkFn Try.f35 [])) (.node .nil (some (mkFn Try.f99 [])) .nil)) (some (mkFn Try.f19 [])) (.node (.node .nil (some (mkFn Try.f83 [58])) .nil) (some (mkFn Try.f51 [5,7,9,11,13,14,15])) (.node .nil (some (mkFn Try.f115 [2,3])) .nil))) (some (mkFn Try.f11 [15,26])) (.node (.node (.node .nil (some (mkFn Try.f75 [])) .nil) (some (mkFn Try.f43 [46])) (.node .nil (some (mkFn Try.f107 [])) .nil)) (some (mkFn Try.f27 [2,3])) (.node (.node .nil (some (mkFn Try.f91 [2,3,10])) .nil) (some (mkFn Try.f59 [6,7,54,67,71])) (.node .nil (some (mkFn Try.f123 [])) .nil))))) none (.node (.node (.node (.node (.node (.node .nil (some (mkFn Try.f129 [])) .nil) (some (mkFn Try.f65 [5,6,7,8,9])) .nil) (some (mkFn Try.f33 [4,6,9,11,21,23,25,30,32,34,41,43,45,47,49,51,53,55,57])) (.node .nil (some (mkFn Try.f97 [])) .nil)) (some (mkFn Try.f17 [1])) (.node (.node .nil (some (mkFn Try.f81 [])) .nil) (some (mkFn Try.f49 [])) (.node .nil (some (mkFn Try.f113 [2,3])) .nil))) (some (mkFn Try.f9 [74,84,179,200])) (.node (.node (.node .nil (some (mkFn Try.f73 [65557,65558])) .nil) (some (mkFn Try.f41 [])) (.node .nil (some (mkFn Try.f105 [])) .nil)) (some (mkFn Try.f25 [5,29,34])) (.node (.node .nil (some (mkFn Try.f89 [2])) .nil) (some (mkFn Try.f57 [])) (.node .nil (some (mkFn Try.f121 [])) .nil)))) (some (mkFn Try.f5 [67,167])) (.node (.node (.node (.node .nil (some (mkFn Try.f69 [])) .nil) (some (mkFn Try.f37 [15,25])) (.node .nil (some (mkFn Try.f101 [])) .nil)) (some (mkFn Try.f21 [7])) (.node (.node .nil (some (mkFn Try.f85 [])) .nil) (some (mkFn Try.f53 [])) (.node .nil (some (mkFn Try.f117 [])) .nil))) (some (mkFn Try.f13 [])) (.node (.node (.node .nil (some (mkFn Try.f77 [21])) .nil) (some (mkFn Try.f45 [12])) (.node .nil (some (mkFn Try.f109 [])) .nil)) (some (mkFn Try.f29 [35,41,47,53,59,68,70,72,74,79,111,113,114,116,117,118,123,124,125,130,132,133,135,136,137])) (.node (.node .nil (some (mkFn Try.f93 [2])) .nil) (some (mkFn Try.f61 [1])) (.node .nil (some (mkFn Try.f125 [])) .nil)))))) none (.node (.node (.node (.node (.node (.node (.node .nil (some (mkFn Try.f128 [])) .nil) (some (mkFn Try.f64 [])) .nil) (some (mkFn Try.f32 [])) (.node .nil (some (mkFn Try.f96 [4,6,48,51])) .nil)) (some (mkFn Try.f16 [1])) (.node (.node .nil (some (mkFn Try.f80 [])) .nil) (some (mkFn Try.f48 [])) (.node .nil (some (mkFn Try.f112 [1])) .nil))) (some (mkFn Try.f8 [131189,131187,62,69,76,84,109])) (.node (.node (.node .nil (some (mkFn Try.f72 [])) .nil) (some (mkFn Try.f40 [11,23])) (.node .nil (some (mkFn Try.f104 [4,5])) .nil)) (some (mkFn Try.f24 [7,76,83])) (.node (.node .nil (some (mkFn Try.f88 [])) .nil) (some (mkFn Try.f56 [6])) (.node .nil (some (mkFn Try.f120 [])) .nil)))) (some (mkFn Try.f4 [3,4,5])) (.node (.node (.node (.node .nil (some (mkFn Try.f68 [2,3])) .nil) (some (mkFn Try.f36 [])) (.node .nil (some (mkFn Try.f100 [])) .nil)) (some (mkFn Try.f20 [1])) (.node (.node .nil (some (mkFn Try.f84 [2,3])) .nil) (some (mkFn Try.f52 [3])) (.node .nil (some (mkFn Try.f116 [])) .nil))) (some (mkFn Try.f12 [])) (.node (.node (.node .nil (some (mkFn Try.f76 [])) .nil) (some (mkFn Try.f44 [])) (.node .nil (some (mkFn Try.f108 [2,3])) .nil)) (some (mkFn Try.f28 [2,3])) (.node (.node .nil (some (mkFn Try.f92 [37])) .nil) (some (mkFn Try.f60 [])) (.node .nil (some (mkFn Try.f124 [])) .nil))))) none (.node (.node (.node (.node (.node (.node .nil (some (mkFn Try.f130 [])) .nil) (some (mkFn Try.f66 [])) .nil) (some (mkFn Try.f34 [])) (.node .nil (some (mkFn Try.f98 [])) .nil)) (some (mkFn Try.f18 [])) (.node (.node .nil (some (mkFn Try.f82 [])) .nil) (some (mkFn Try.f50 [])) (.node .nil (some (mkFn Try.f114 [4,5])) .nil))) (some (mkFn Try.f10 [])) (.node (.node (.node .nil (some (mkFn Try.f74 [3,4,5])) .nil) (some (mkFn Try.f42 [19,21,23,25,27,32,53,55,57,67,69,80,85,87,89,95,97,99,101,103,105,107,109,114,116,120,122,124,126,139,141,143,160,162,164,183])) (.node .nil (some (mkFn Try.f106 [])) .nil)) (some (mkFn Try.f26 [5,41,77])) (.node (.node .nil (some (mkFn Try.f90 [1])) .nil) (some (mkFn Try.f58 [14])) (.node .nil (some (mkFn Try.f122 [])) .nil)))) (some (mkFn Try.f6 [83,94])) (.node (.node (.node (.node .nil (some (mkFn Try.f70 [])) .nil) (some (mkFn Try.f38 [72])) (.node .nil (some (mkFn Try.f102 [131100,4,5,11])) .nil)) (some (mkFn Try.f22 [7,61,68,72])) (.node (.node .nil (some (mkFn Try.f86 [])) .nil) (some (mkFn Try.f54 [])) (.node .nil (some (mkFn Try.f118 [])) .nil))) (some (mkFn Try.f14 [])) (.node (.node (.node .nil (some (mkFn Try.f78 [34,44])) .nil) (some (mkFn Try.f46 [12])) (.node .nil (some (mkFn Try.f110 [])) .nil)) (some (mkFn Try.f30 [])) (.node (.node .nil (some (mkFn Try.f94 [2,3])) .nil) (some (mkFn Try.f62 [])) (.node .nil (some (mkFn Try.f126 [])) .nil)))))))
theorem Yo:EnvOK Try.prog Et:=envOK_of ⟨trivial,⟨trivial,⟨⟨by kernel_rfl,by kernel_rfl⟩,⟨trivial,⟨trivial,⟨trivial,trivial,⟨trivial,⟨⟨by kernel_rfl,by kernel_rfl⟩,trivial,trivial⟩,trivial⟩⟩,trivial⟩,⟨⟨by kernel_rfl,by kernel_rfl⟩,⟨⟨by kernel_rfl,by kernel_rfl⟩,trivial,⟨⟨by kernel_rfl,by kernel_rfl⟩,trivial,trivial⟩⟩,⟨trivial,⟨⟨by kernel_rfl,by kernel_rfl⟩,trivial,trivial⟩,trivial⟩⟩⟩,⟨trivial,⟨trivial,⟨trivial,trivial,⟨trivial,⟨⟨by kernel_rfl,by kernel_rfl⟩,trivial,trivial⟩,trivial⟩⟩,trivial⟩,⟨⟨by kernel_rfl,by kernel_rfl⟩,trivial,trivial⟩⟩⟩,⟨⟨by kernel_rfl,by kernel_rfl⟩,⟨⟨by kernel_rfl,by kernel_rfl⟩,⟨trivial,⟨trivial,⟨trivial,⟨⟨by kernel_rfl,by kernel_rfl⟩,trivial,trivial⟩,trivial⟩,⟨⟨by kernel_rfl,by kernel_rfl⟩,trivial,trivial⟩⟩,trivial⟩,⟨trivial,trivial,⟨trivial,trivial,⟨⟨by kernel_rfl,by kernel_rfl⟩,trivial,trivial⟩⟩⟩⟩,⟨trivial,⟨trivial,⟨trivial,⟨trivial,⟨⟨by kernel_rfl,by kernel_rfl⟩,trivial,trivial⟩,trivial⟩,⟨⟨by kernel_rfl,by kernel_rfl⟩,⟨⟨by kernel_rfl,by kernel_rfl⟩,trivial,trivial⟩,trivial⟩⟩,⟨trivial,⟨⟨by kernel_rfl,by kernel_rfl⟩,⟨⟨by kernel_rfl,by kernel_rfl⟩,trivial,trivial⟩,trivial⟩,trivial⟩⟩,⟨⟨by kernel_rfl,by kernel_rfl⟩,⟨trivial,⟨⟨by kernel_rfl,by kernel_rfl⟩,trivial,trivial⟩,⟨⟨by kernel_rfl,by kernel_rfl⟩,trivial,trivial⟩⟩,⟨trivial,trivial,⟨⟨by kernel_rfl,by kernel_rfl⟩,trivial,trivial⟩⟩⟩⟩⟩⟩,⟨⟨by kernel_rfl,by kernel_rfl⟩,⟨⟨by kernel_rfl,by kernel_rfl⟩,⟨trivial,⟨trivial,⟨trivial,trivial,⟨⟨by kernel_rfl,by kernel_rfl⟩,trivial,trivial⟩⟩,⟨trivial,⟨⟨by kernel_rfl,by kernel_rfl⟩,⟨⟨by kernel_rfl,by kernel_rfl⟩,trivial,trivial⟩,trivial⟩,trivial⟩⟩,⟨⟨by kernel_rfl,by kernel_rfl⟩,⟨trivial,⟨trivial,⟨⟨by kernel_rfl,by kernel_rfl⟩,trivial,trivial⟩,trivial⟩,trivial⟩,⟨trivial,trivial,⟨⟨by kernel_rfl,by kernel_rfl⟩,trivial,trivial⟩⟩⟩⟩,⟨trivial,⟨trivial,trivial,⟨⟨by kernel_rfl,by kernel_rfl⟩,trivial,trivial⟩⟩,⟨trivial,⟨trivial,⟨trivial,⟨⟨by kernel_rfl,by kernel_rfl⟩,trivial,trivial⟩,trivial⟩,trivial⟩,⟨trivial,⟨trivial,⟨⟨by kernel_rfl,by kernel_rfl⟩,trivial,trivial⟩,trivial⟩,trivial⟩⟩⟩⟩,⟨trivial,⟨trivial,⟨trivial,⟨trivial,trivial,⟨⟨by kernel_rfl,by kernel_rfl⟩,trivial,trivial⟩⟩,⟨⟨by kernel_rfl,by kernel_rfl⟩,⟨⟨by kernel_rfl,by kernel_rfl⟩,trivial,trivial⟩,trivial⟩⟩,⟨trivial,trivial,⟨trivial,⟨⟨by kernel_rfl,by kernel_rfl⟩,trivial,trivial⟩,trivial⟩⟩⟩,⟨trivial,⟨⟨by kernel_rfl,by kernel_rfl⟩,⟨trivial,⟨trivial,⟨⟨by kernel_rfl,by kernel_rfl⟩,trivial,trivial⟩,trivial⟩,trivial⟩,trivial⟩,⟨⟨by kernel_rfl,by kernel_rfl⟩,⟨trivial,trivial,⟨⟨by kernel_rfl,by kernel_rfl⟩,trivial,trivial⟩⟩,⟨trivial,⟨⟨by kernel_rfl,by kernel_rfl⟩,⟨⟨by kernel_rfl,by kernel_rfl⟩,trivial,trivial⟩,trivial⟩,trivial⟩⟩⟩⟩⟩⟩
theorem Ft_ok:FnsOK Try.prog Ft.get?:=fnsOK_of ⟨trivial,⟨trivial,⟨(fnAt Try.func3 (by kernel_rfl) (by kernel_rfl)),⟨(fnAt Try.func7 (by kernel_rfl) (by kernel_rfl)),⟨(fnAt Try.func15 (by kernel_rfl) (by kernel_rfl)),⟨(fnAt Try.func31 (by kernel_rfl) (by kernel_rfl)),⟨(fnAt Try.func63 (by kernel_rfl) (by kernel_rfl)),⟨(fnAt Try.func127 (by kernel_rfl) (by kernel_rfl)),trivial,trivial⟩,trivial⟩,⟨(fnAt Try.func95 (by kernel_rfl) (by kernel_rfl)),trivial,trivial⟩⟩,⟨(fnAt Try.func47 (by kernel_rfl) (by kernel_rfl)),⟨(fnAt Try.func79 (by kernel_rfl) (by kernel_rfl)),trivial,trivial⟩,⟨(fnAt Try.func111 (by kernel_rfl) (by kernel_rfl)),trivial,trivial⟩⟩⟩,⟨(fnAt Try.func23 (by kernel_rfl) (by kernel_rfl)),⟨(fnAt Try.func39 (by kernel_rfl) (by kernel_rfl)),⟨(fnAt Try.func71 (by kernel_rfl) (by kernel_rfl)),trivial,trivial⟩,⟨(fnAt Try.func103 (by kernel_rfl) (by kernel_rfl)),trivial,trivial⟩⟩,⟨(fnAt Try.func55 (by kernel_rfl) (by kernel_rfl)),⟨(fnAt Try.func87 (by kernel_rfl) (by kernel_rfl)),trivial,trivial⟩,⟨(fnAt Try.func119 (by kernel_rfl) (by kernel_rfl)),trivial,trivial⟩⟩⟩⟩,⟨(fnAt Try.func11 (by kernel_rfl) (by kernel_rfl)),⟨(fnAt Try.func19 (by kernel_rfl) (by kernel_rfl)),⟨(fnAt Try.func35 (by kernel_rfl) (by kernel_rfl)),⟨(fnAt Try.func67 (by kernel_rfl) (by kernel_rfl)),⟨(fnAt Try.func131 (by kernel_rfl) (by kernel_rfl)),trivial,trivial⟩,trivial⟩,⟨(fnAt Try.func99 (by kernel_rfl) (by kernel_rfl)),trivial,trivial⟩⟩,⟨(fnAt Try.func51 (by kernel_rfl) (by kernel_rfl)),⟨(fnAt Try.func83 (by kernel_rfl) (by kernel_rfl)),trivial,trivial⟩,⟨(fnAt Try.func115 (by kernel_rfl) (by kernel_rfl)),trivial,trivial⟩⟩⟩,⟨(fnAt Try.func27 (by kernel_rfl) (by kernel_rfl)),⟨(fnAt Try.func43 (by kernel_rfl) (by kernel_rfl)),⟨(fnAt Try.func75 (by kernel_rfl) (by kernel_rfl)),trivial,trivial⟩,⟨(fnAt Try.func107 (by kernel_rfl) (by kernel_rfl)),trivial,trivial⟩⟩,⟨(fnAt Try.func59 (by kernel_rfl) (by kernel_rfl)),⟨(fnAt Try.func91 (by kernel_rfl) (by kernel_rfl)),trivial,trivial⟩,⟨(fnAt Try.func123 (by kernel_rfl) (by kernel_rfl)),trivial,trivial⟩⟩⟩⟩⟩,⟨(fnAt Try.func5 (by kernel_rfl) (by kernel_rfl)),⟨(fnAt Try.func9 (by kernel_rfl) (by kernel_rfl)),⟨(fnAt Try.func17 (by kernel_rfl) (by kernel_rfl)),⟨(fnAt Try.func33 (by kernel_rfl) (by kernel_rfl)),⟨(fnAt Try.func65 (by kernel_rfl) (by kernel_rfl)),⟨(fnAt Try.func129 (by kernel_rfl) (by kernel_rfl)),trivial,trivial⟩,trivial⟩,⟨(fnAt Try.func97 (by kernel_rfl) (by kernel_rfl)),trivial,trivial⟩⟩,⟨(fnAt Try.func49 (by kernel_rfl) (by kernel_rfl)),⟨(fnAt Try.func81 (by kernel_rfl) (by kernel_rfl)),trivial,trivial⟩,⟨(fnAt Try.func113 (by kernel_rfl) (by kernel_rfl)),trivial,trivial⟩⟩⟩,⟨(fnAt Try.func25 (by kernel_rfl) (by kernel_rfl)),⟨(fnAt Try.func41 (by kernel_rfl) (by kernel_rfl)),⟨(fnAt Try.func73 (by kernel_rfl) (by kernel_rfl)),trivial,trivial⟩,⟨(fnAt Try.func105 (by kernel_rfl) (by kernel_rfl)),trivial,trivial⟩⟩,⟨(fnAt Try.func57 (by kernel_rfl) (by kernel_rfl)),⟨(fnAt Try.func89 (by kernel_rfl) (by kernel_rfl)),trivial,trivial⟩,⟨(fnAt Try.func121 (by kernel_rfl) (by kernel_rfl)),trivial,trivial⟩⟩⟩⟩,⟨(fnAt Try.func13 (by kernel_rfl) (by kernel_rfl)),⟨(fnAt Try.func21 (by kernel_rfl) (by kernel_rfl)),⟨(fnAt Try.func37 (by kernel_rfl) (by kernel_rfl)),⟨(fnAt Try.func69 (by kernel_rfl) (by kernel_rfl)),trivial,trivial⟩,⟨(fnAt Try.func101 (by kernel_rfl) (by kernel_rfl)),trivial,trivial⟩⟩,⟨(fnAt Try.func53 (by kernel_rfl) (by kernel_rfl)),⟨(fnAt Try.func85 (by kernel_rfl) (by kernel_rfl)),trivial,trivial⟩,⟨(fnAt Try.func117 (by kernel_rfl) (by kernel_rfl)),trivial,trivial⟩⟩⟩,⟨(fnAt Try.func29 (by kernel_rfl) (by kernel_rfl)),⟨(fnAt Try.func45 (by kernel_rfl) (by kernel_rfl)),⟨(fnAt Try.func77 (by kernel_rfl) (by kernel_rfl)),trivial,trivial⟩,⟨(fnAt Try.func109 (by kernel_rfl) (by kernel_rfl)),trivial,trivial⟩⟩,⟨(fnAt Try.func61 (by kernel_rfl) (by kernel_rfl)),⟨(fnAt Try.func93 (by kernel_rfl) (by kernel_rfl)),trivial,trivial⟩,⟨(fnAt Try.func125 (by kernel_rfl) (by kernel_rfl)),trivial,trivial⟩⟩⟩⟩⟩⟩,⟨trivial,⟨(fnAt Try.func4 (by kernel_rfl) (by kernel_rfl)),⟨(fnAt Try.func8 (by kernel_rfl) (by kernel_rfl)),⟨(fnAt Try.func16 (by kernel_rfl) (by kernel_rfl)),⟨(fnAt Try.func32 (by kernel_rfl) (by kernel_rfl)),⟨(fnAt Try.func64 (by kernel_rfl) (by kernel_rfl)),⟨(fnAt Try.func128 (by kernel_rfl) (by kernel_rfl)),trivial,trivial⟩,trivial⟩,⟨(fnAt Try.func96 (by kernel_rfl) (by kernel_rfl)),trivial,trivial⟩⟩,⟨(fnAt Try.func48 (by kernel_rfl) (by kernel_rfl)),⟨(fnAt Try.func80 (by kernel_rfl) (by kernel_rfl)),trivial,trivial⟩,⟨(fnAt Try.func112 (by kernel_rfl) (by kernel_rfl)),trivial,trivial⟩⟩⟩,⟨(fnAt Try.func24 (by kernel_rfl) (by kernel_rfl)),⟨(fnAt Try.func40 (by kernel_rfl) (by kernel_rfl)),⟨(fnAt Try.func72 (by kernel_rfl) (by kernel_rfl)),trivial,trivial⟩,⟨(fnAt Try.func104 (by kernel_rfl) (by kernel_rfl)),trivial,trivial⟩⟩,⟨(fnAt Try.func56 (by kernel_rfl) (by kernel_rfl)),⟨(fnAt Try.func88 (by kernel_rfl) (by kernel_rfl)),trivial,trivial⟩,⟨(fnAt Try.func120 (by kernel_rfl) (by kernel_rfl)),trivial,trivial⟩⟩⟩⟩,⟨(fnAt Try.func12 (by kernel_rfl) (by kernel_rfl)),⟨(fnAt Try.func20 (by kernel_rfl) (by kernel_rfl)),⟨(fnAt Try.func36 (by kernel_rfl) (by kernel_rfl)),⟨(fnAt Try.func68 (by kernel_rfl) (by kernel_rfl)),trivial,trivial⟩,⟨(fnAt Try.func100 (by kernel_rfl) (by kernel_rfl)),trivial,trivial⟩⟩,⟨(fnAt Try.func52 (by kernel_rfl) (by kernel_rfl)),⟨(fnAt Try.func84 (by kernel_rfl) (by kernel_rfl)),trivial,trivial⟩,⟨(fnAt Try.func116 (by kernel_rfl) (by kernel_rfl)),trivial,trivial⟩⟩⟩,⟨(fnAt Try.func28 (by kernel_rfl) (by kernel_rfl)),⟨(fnAt Try.func44 (by kernel_rfl) (by kernel_rfl)),⟨(fnAt Try.func76 (by kernel_rfl) (by kernel_rfl)),trivial,trivial⟩,⟨(fnAt Try.func108 (by kernel_rfl) (by kernel_rfl)),trivial,trivial⟩⟩,⟨(fnAt Try.func60 (by kernel_rfl) (by kernel_rfl)),⟨(fnAt Try.func92 (by kernel_rfl) (by kernel_rfl)),trivial,trivial⟩,⟨(fnAt Try.func124 (by kernel_rfl) (by kernel_rfl)),trivial,trivial⟩⟩⟩⟩⟩,⟨(fnAt Try.func6 (by kernel_rfl) (by kernel_rfl)),⟨(fnAt Try.func10 (by kernel_rfl) (by kernel_rfl)),⟨(fnAt Try.func18 (by kernel_rfl) (by kernel_rfl)),⟨(fnAt Try.func34 (by kernel_rfl) (by kernel_rfl)),⟨(fnAt Try.func66 (by kernel_rfl) (by kernel_rfl)),⟨(fnAt Try.func130 (by kernel_rfl) (by kernel_rfl)),trivial,trivial⟩,trivial⟩,⟨(fnAt Try.func98 (by kernel_rfl) (by kernel_rfl)),trivial,trivial⟩⟩,⟨(fnAt Try.func50 (by kernel_rfl) (by kernel_rfl)),⟨(fnAt Try.func82 (by kernel_rfl) (by kernel_rfl)),trivial,trivial⟩,⟨(fnAt Try.func114 (by kernel_rfl) (by kernel_rfl)),trivial,trivial⟩⟩⟩,⟨(fnAt Try.func26 (by kernel_rfl) (by kernel_rfl)),⟨(fnAt Try.func42 (by kernel_rfl) (by kernel_rfl)),⟨(fnAt Try.func74 (by kernel_rfl) (by kernel_rfl)),trivial,trivial⟩,⟨(fnAt Try.func106 (by kernel_rfl) (by kernel_rfl)),trivial,trivial⟩⟩,⟨(fnAt Try.func58 (by kernel_rfl) (by kernel_rfl)),⟨(fnAt Try.func90 (by kernel_rfl) (by kernel_rfl)),trivial,trivial⟩,⟨(fnAt Try.func122 (by kernel_rfl) (by kernel_rfl)),trivial,trivial⟩⟩⟩⟩,⟨(fnAt Try.func14 (by kernel_rfl) (by kernel_rfl)),⟨(fnAt Try.func22 (by kernel_rfl) (by kernel_rfl)),⟨(fnAt Try.func38 (by kernel_rfl) (by kernel_rfl)),⟨(fnAt Try.func70 (by kernel_rfl) (by kernel_rfl)),trivial,trivial⟩,⟨(fnAt Try.func102 (by kernel_rfl) (by kernel_rfl)),trivial,trivial⟩⟩,⟨(fnAt Try.func54 (by kernel_rfl) (by kernel_rfl)),⟨(fnAt Try.func86 (by kernel_rfl) (by kernel_rfl)),trivial,trivial⟩,⟨(fnAt Try.func118 (by kernel_rfl) (by kernel_rfl)),trivial,trivial⟩⟩⟩,⟨(fnAt Try.func30 (by kernel_rfl) (by kernel_rfl)),⟨(fnAt Try.func46 (by kernel_rfl) (by kernel_rfl)),⟨(fnAt Try.func78 (by kernel_rfl) (by kernel_rfl)),trivial,trivial⟩,⟨(fnAt Try.func110 (by kernel_rfl) (by kernel_rfl)),trivial,trivial⟩⟩,⟨(fnAt Try.func62 (by kernel_rfl) (by kernel_rfl)),⟨(fnAt Try.func94 (by kernel_rfl) (by kernel_rfl)),trivial,trivial⟩,⟨(fnAt Try.func126 (by kernel_rfl) (by kernel_rfl)),trivial,trivial⟩⟩⟩⟩⟩⟩⟩
end Go.Av
noncomputable section
namespace Go.Av
open Go Go.Proofs
def Fz (_:List Nat):Prop:=True
section
variable {frz:List Nat} {nt m:Nat} {ro':Option Nat} {K:Ex->S->Prop} {ops:Array Oper} {l:List Oper} {o:Oper} {tm tm' tm1 tm0:PT AV} {objs objs':List Ob} {dl:List Dl} {b:Bool} {ob:Option (List Ob)} {fl:Bool} {s s0:S} {i:Nat} {acc:List Eff} {G:S->Prop} {P A B X Y Q:Prop} {g:FuncId} {ds:List DV} {r:AV}
theorem oXw (_:Fz frz) {v v':AV} (k:RunOps Try.prog nt m ro' ops l ⟨tm',objs',dl⟩ K) (hg:guardA ops (rd tm) o=some true:=by rfl) (hv:evAny Et H0 frz (rd tm) objs o=some (v',ob,fl):=by rfl) (hf:fl=true:=by rfl)
  (he:v'=v:=by first|(conv=>lhs;dsimp only)|rfl) (ho:ob.getD objs=objs':=by first|(conv=>lhs;dsimp only [Option.getD])|rfl) (hp:isPan v=false:=by rfl) (ht:setD nt tm o.dst v=some tm':=by rfl) :
  RunOps Try.prog nt m ro' ops (o :: l) ⟨tm,objs,dl⟩ K:=RunOps.x Yo hg hv hf he ho hp ht k
theorem oXn (_:Fz frz) {v v':AV} (k:RunOps Try.prog nt m ro' ops l ⟨tm',objs',dl⟩ K) (_:boolOp o.op=false:=by rfl) (hg:guardA ops (rd tm) o=some true:=by rfl) (hv:evAny Et H0 frz (rd tm) objs o=some (v',ob,fl):=by rfl) (hf:fl=true:=by rfl)
  (he:v'=v:=by first|(conv=>lhs;dsimp only)|rfl) (ho:ob.getD objs=objs':=by first|(conv=>lhs;dsimp only [Option.getD])|rfl) (hp:isPan v=false:=by rfl) (ht:setD nt tm o.dst v=some tm':=by rfl) :
  RunOps Try.prog nt m ro' ops (o :: l) ⟨tm,objs,dl⟩ K:=RunOps.x Yo hg hv hf he ho hp ht k
theorem eXn {v v':AV} (k:EvD Try.prog Et frz nt ops s0 (i+1) (acc++[effOf (rd tm) objs o ob]) l ⟨tm',objs',dl⟩ G) (_:boolOp o.op=false:=by rfl) (hg:guardA ops (rd tm) o=some true:=by rfl) (hv:evAny Et H0 frz (rd tm) objs o=some (v',ob,fl):=by rfl) (hf:fl=true:=by rfl)
  (he:v'=v:=by first|(conv=>lhs;dsimp only)|rfl) (ho:ob.getD objs=objs':=by first|(conv=>lhs;dsimp only [Option.getD])|rfl) (hp:isPan v=false:=by rfl) (ht:setD nt tm o.dst v=some tm':=by rfl) :
  EvD Try.prog Et frz nt ops s0 i acc (o :: l) ⟨tm,objs,dl⟩ G:=EvD.x hg hv hf he ho hp ht k
theorem oBw (_:Fz frz) (k1:b=true->RunOps Try.prog nt m ro' ops l ⟨tm1,objs',dl⟩ K) (k0:b=false->RunOps Try.prog nt m ro' ops l ⟨tm0,objs',dl⟩ K) (hb:boolOp o.op=true:=by rfl) (hg:guardA ops (rd tm) o=some true:=by rfl)
  (hv:evAny Et H0 frz (rd tm) objs o=some (.d (.bool b),ob,fl):=by rfl) (hf:fl=true:=by rfl) (ho:ob.getD objs=objs':=by first|(conv=>lhs;dsimp only [Option.getD])|rfl) (ht1:setD nt tm o.dst (.d (.bool true))=some tm1:=by rfl) (ht0:setD nt tm o.dst (.d (.bool false))=some tm0:=by rfl) :
  RunOps Try.prog nt m ro' ops (o :: l) ⟨tm,objs,dl⟩ K:=RunOps.xb Yo hb hg hv hf ho ht1 ht0 k1 k0
theorem dW (_:Fz frz) {id:Nat} (h:EvD Try.prog Et frz nt ops s 0 [] ops.toList s (fun s'=>K .normal s')):Run Try.prog nt m ro' (.region id ops true) s K:=Yd Yo (by kernel_rfl) h
theorem gD {α:Type} (l:List α) (i:Nat) (d:α):l.getD i d=l[i]?.getD d:=List.getD_eq_getElem?_getD
theorem ti {k:Nat} (l:List (Nat × AV)) (n:Nat) (ho:objs.take n=objs':=by rfl) (hn:Nat.ble k n=true:=by rfl) (h:allTidy tm l:=by repeat' (first|exact trivial|refine⟨(Or.inl rfl),?_⟩|refine⟨(Or.inr rfl),?_⟩|refine⟨(Or.inl (inc_get (by kernel_rfl) (by omega))),?_⟩|fail))
  (hl:allQ (refA 8 n) l:=by repeat' (first|exact trivial|refine⟨rfl,?_⟩|fail)) (hr:objs'.all (refOb n)=true:=by rfl) (hd:dl.all (refDl n)=true:=by rfl):Tidy k ⟨tm,objs,dl⟩ ⟨PT.ofList l,objs',dl⟩:=tidy_of l n ho hn h hl hr hd
theorem oV (k:RunOps Try.prog nt m ro' ops l ⟨tm',objs',dl⟩ K) {v v':AV} (_:Fz frz:=by assumption) (hg:guardA ops (rd tm) o=some true:=by rfl) (hv:evAny Et H0 frz (rd tm) objs o=some (v',ob,fl):=by rfl) (hf:fl=true:=by rfl)
  (he:v'=v:=by first|(conv=>lhs;dsimp only)|rfl) (ho:ob.getD objs=objs':=by first|(conv=>lhs;dsimp only [Option.getD])|rfl) (hp:isPan v=false:=by rfl) (ht:setD nt tm o.dst v=some tm':=by rfl) :
  RunOps Try.prog nt m ro' ops (o :: l) ⟨tm,objs,dl⟩ K:=RunOps.x Yo hg hv hf he ho hp ht k
theorem kF {n:Nat} {f:Func} {ds:List DV} {r:AV} (h1:Try.prog.funcs[n]?=some f) (l:List Nat) (h:Fz l->Run Try.prog (mkFn f l).nt 0 none (mkFn f l).body ⟨initTm 0 (ds.map .d) .nil,[],[]⟩ (EndK Et (mkFn f l).results r)) (h2:f.body.isSome=true:=by kernel_rfl)
  (h3:(f.name == "runtime.NumGoroutine")=false:=by kernel_rfl) (h4:xk l=none:=by rfl) (hlen:(ds.map AV.d).length=(mkFn f l).np:=by rfl) (hle:Nat.ble (mkFn f l).np (mkFn f l).nt=true:=by rfl):KnownCall Try.prog n ds r:=knownE Yo (fnAt h1 h2 h3 h4) (h trivial) hlen hle
theorem zX (q:Q) (h:Q->P:=by intro q;first|exact oXw (by assumption) q|exact eX q):P:=h q
theorem zW (q:Q) (h:Q->P:=by intro q;first|exact Yg q|exact Yq q|exact oXn (by assumption) q|exact oS q|exact Yn q|exact Yk q|exact cT q|exact cF q|exact Yb q|exact Ye q|exact dW (by assumption) q|exact eXn q|exact eS q|exact eN q|(refine Yt ?_;first|exact rB q|exact rI q|exact rA q|exact rII q|exact rSI q|exact rT q|exact rS q)):P:=h q
theorem zS (q:Q) (h:Q->P:=by intro q;first|exact Yq q|exact Yg q|exact Yn q|exact Yk q|exact cT q|exact cF q|exact Yb q|exact Ye q):P:=h q
theorem zA (q:Q) (h:Q->P:=by intro q;first|exact oXw (by assumption) q|exact oS q|exact Yn q|exact Yg q|exact Yq q|exact Yk q|exact Yb q|exact Ye q|exact dW (by assumption) q|exact eX q|exact eS q|exact eN q):P:=h q
theorem zB (x:A->X) (y:B->Y) (h:(A->X)->(B->Y)->P:=by intro x y;first|exact oBw (by assumption) x y|exact eB x y):P:=h x y
def Vx (_:AV):Prop:=True
theorem oVw (_:Fz frz) {v v':AV} (he:v'=v) (k:RunOps Try.prog nt m ro' ops l ⟨tm',objs',dl⟩ K) (hg:guardA ops (rd tm) o=some true:=by rfl) (hv:evAny Et H0 frz (rd tm) objs o=some (v',ob,fl):=by rfl) (hf:fl=true:=by rfl) (ho:ob.getD objs=objs':=by first|(conv=>lhs;dsimp only [Option.getD])|rfl) (hp:isPan v=false:=by rfl) (ht:setD nt tm o.dst v=some tm':=by rfl) :
  RunOps Try.prog nt m ro' ops (o :: l) ⟨tm,objs,dl⟩ K:=RunOps.x Yo hg hv hf he ho hp ht k
theorem eVw {v v':AV} (he:v'=v) (k:EvD Try.prog Et frz nt ops s0 (i+1) (acc++[effOf (rd tm) objs o ob]) l ⟨tm',objs',dl⟩ G) (hg:guardA ops (rd tm) o=some true:=by rfl) (hv:evAny Et H0 frz (rd tm) objs o=some (v',ob,fl):=by rfl) (hf:fl=true:=by rfl) (ho:ob.getD objs=objs':=by first|(conv=>lhs;dsimp only [Option.getD])|rfl) (hp:isPan v=false:=by rfl) (ht:setD nt tm o.dst v=some tm':=by rfl) :
  EvD Try.prog Et frz nt ops s0 i acc (o :: l) ⟨tm,objs,dl⟩ G:=EvD.x hg hv hf he ho hp ht k
theorem oIv (_:Fz frz) {v v':AV} (_:Vx v) (k:RunOps Try.prog nt m ro' ops l ⟨tm',objs',dl⟩ K) (hg:guardA ops (rd tm) o=some true:=by rfl) (hv:evAny Et H0 frz (rd tm) objs o=some (v',ob,fl):=by rfl) (he:v'=v) (hf:fl=true:=by first|(simp [inB]<;>fail)|(simp [inB];omega)) (ho:ob.getD objs=objs':=by first|(conv=>lhs;dsimp only [Option.getD])|rfl) (hp:isPan v=false:=by rfl) (ht:setD nt tm o.dst v=some tm':=by rfl) :
  RunOps Try.prog nt m ro' ops (o :: l) ⟨tm,objs,dl⟩ K:=RunOps.x Yo hg hv hf he ho hp ht k
theorem eIv {v v':AV} (_:Vx v) (k:EvD Try.prog Et frz nt ops s0 (i+1) (acc++[effOf (rd tm) objs o ob]) l ⟨tm',objs',dl⟩ G) (hg:guardA ops (rd tm) o=some true:=by rfl) (hv:evAny Et H0 frz (rd tm) objs o=some (v',ob,fl):=by rfl) (he:v'=v) (hf:fl=true:=by first|(simp [inB]<;>fail)|(simp [inB];omega)) (ho:ob.getD objs=objs':=by first|(conv=>lhs;dsimp only [Option.getD])|rfl) (hp:isPan v=false:=by rfl) (ht:setD nt tm o.dst v=some tm':=by rfl) :
  EvD Try.prog Et frz nt ops s0 i acc (o :: l) ⟨tm,objs,dl⟩ G:=EvD.x hg hv hf he ho hp ht k
theorem zAp (q:Q) (h:Q->P:=by intro q;first|exact oXw (by assumption) q (hv:=app1) (hf:=rfl) (he:=rfl)|exact eX q (hv:=app1) (hf:=rfl) (he:=rfl)|exact oXw (by assumption) q (hv:=app0) (hf:=rfl) (he:=rfl)|exact eX q (hv:=app0) (hf:=rfl) (he:=rfl)):P:=h q
theorem zV {v v':AV} (he:v'=v) (q:Q) (h:v'=v->Q->P:=by intro e q;first|exact oVw (by assumption) e q|exact eVw e q):P:=h he q
theorem zI {F:Prop} (w:Fz frz) (v:AV) (f:F) (q:Q) (h:Fz frz->Vx v->F->Q->P:=by intro w x f q;first|exact oIv w x q (he:=by first|(simp [gD,cellsD,f]<;>fail)|fail)|exact eIv x q (he:=by first|(simp [gD,cellsD,f]<;>fail)|fail)):P:=h w trivial f q
theorem zk (a:A) (h:A->P:=by intro h;exfalso;simp at h;first|done|omega):P:=h a
theorem zC (c:KnownCall Try.prog g ds r) (q:Q) (h:KnownCall Try.prog g ds r->Q->P:=by intro c q;first|exact oC c q|exact eC c q):P:=h c q
theorem zK (c:KnownCall Try.prog g ds (.d (.bool b))) (x:A->X) (y:B->Y) (h:KnownCall Try.prog g ds (.d (.bool b))->(A->X)->(B->Y)->P:=by intro c x y;first|exact oK c x y|exact eK c x y):P:=h c x y
theorem zL (c:KnownCall Try.prog g ds r) (q:Q) (h:KnownCall Try.prog g ds r->Q->P:=by intro c q;first|exact oL c q|exact eL c q):P:=h c q
theorem fnB {n:Nat} {f:Func} (h1:Try.prog.funcs[n]?=some f) (l:List Nat) (h2:f.body.isSome=true:=by kernel_rfl) (h3:(f.name == "runtime.NumGoroutine")=false:=by kernel_rfl) (h4:xk l=none:=by rfl):FnAt Try.prog n (mkFn f l):=fnAt h1 h2 h3 h4
end
set_option maxRecDepth 10000
abbrev ints (l:List Int):DV:=.sl 1 (l.map (.int .i64))
theorem get_ok {α:Type} {l:List α} {i:Nat} (h:i<l.length):∃ x,l[i]?=some x:=⟨l[i],by simp [h]⟩
abbrev nI (n:Nat):DV:=.int .i64 (n:Nat)
@[simp] theorem cellsD_nI (n:Nat):cellsD (nI n)=[nI n]:=rfl
abbrev nats (l:List Nat):DV:=.sl 1 (l.map nI)
abbrev lkC (l:List Nat):List DV:=[nI l.length,nI (l.getD 0 0),nI (l.getD 1 0),nI (l.getD 2 0),nI (l.getD 3 0)]
abbrev lk (l:List Nat):DV:=.agg (lkC l)
abbrev lks (L:List (List Nat)):DV:=.sl 5 (L.map lk)
structure Rt (l:List Nat):Prop where
 len:l.length<=4
 lt:∀ x ∈ l,x<8
theorem ofK (l:List Nat) (h:l.length<=4):KnownCall Try.prog 105 [nats l] (.d (lk l)):=by
 match l,h with
 |[],_ =>
  refine kF Try.func105 [] fun w=>?_
  repeat' (first|refine zW ?_|refine zB ?_ ?_<;>intro h<;>try exact zk h|refine zX ?_|rfl|fail)
 |[a],_ =>
  refine kF Try.func105 [] fun w=>?_
  repeat' (first|refine zW ?_|refine zB ?_ ?_<;>intro h<;>try exact zk h|refine zX ?_|rfl|fail)
 |[a,b],_ =>
  refine kF Try.func105 [] fun w=>?_
  repeat' (first|refine zW ?_|refine zB ?_ ?_<;>intro h<;>try exact zk h|refine zX ?_|rfl|fail)
 |[a,b,c],_ =>
  refine kF Try.func105 [] fun w=>?_
  repeat' (first|refine zW ?_|refine zB ?_ ?_<;>intro h<;>try exact zk h|refine zX ?_|rfl|fail)
 |[a,b,c,d],_ =>
  refine kF Try.func105 [] fun w=>?_
  repeat' (first|refine zW ?_|refine zB ?_ ?_<;>intro h<;>try exact zk h|refine zX ?_|rfl|fail)
theorem ofK5 (a b c d e:Nat) (r:List Nat):KnownCall Try.prog 105 [nats (a :: b :: c :: d :: e :: r)] (.d (lk [a,b,c,d])):=by
 refine kF Try.func105 [] fun w=>?_
 repeat' (first|refine zW ?_|refine zB ?_ ?_<;>intro h<;>try exact zk h|refine zX ?_|rfl|fail)
theorem of4 (l:List Nat):KnownCall Try.prog 105 [nats l] (.d (lk (l.take 4))):=by
 match l with
 |[]=>exact ofK [] (by simp)
 |[a]=>exact ofK [a] (by simp)
 |[a,b]=>exact ofK [a,b] (by simp)
 |[a,b,c]=>exact ofK [a,b,c] (by simp)
 |[a,b,c,d]=>exact ofK [a,b,c,d] (by simp)
 |a :: b :: c :: d :: e :: r=>exact ofK5 a b c d e r
section
variable {frz:List Nat} {nt m:Nat} {ro':Option Nat} {K:Ex->S->Prop} {ops:Array Oper} {l:List Oper} {o:Oper} {tm tm':PT AV} {objs objs':List Ob} {dl:List Dl} {ob:Option (List Ob)} {fl:Bool} {s0:S} {i:Nat} {acc:List Eff} {G:S->Prop} {P Q:Prop}
theorem flag4 {i:Nat} (h:i<4):(inB (i:Int) 4 && Nat.ble ((i:Int).toNat*1) 4)=true:=by
 simp [inB,Nat.ble_eq];omega
theorem oCw (_:Fz frz) {v v':AV} (he:v'=v) (k:RunOps Try.prog nt m ro' ops l ⟨tm',objs',dl⟩ K) (hg:guardA ops (rd tm) o=some true:=by rfl) (hv:evAny Et H0 frz (rd tm) objs o=some (v',ob,fl):=by rfl) (hf:fl=true:=by first|(simp [cutC,inB,maxC]<;>fail)|(simp [cutC,inB,maxC];omega)|exact flag4 (by omega)|fail) (ho:ob.getD objs=objs':=by first|(conv=>lhs;dsimp only [Option.getD])|rfl) (hp:isPan v=false:=by rfl) (ht:setD nt tm o.dst v=some tm':=by rfl) :
  RunOps Try.prog nt m ro' ops (o :: l) ⟨tm,objs,dl⟩ K:=RunOps.x Yo hg hv hf he ho hp ht k
theorem eCw {v v':AV} (he:v'=v) (k:EvD Try.prog Et frz nt ops s0 (i+1) (acc++[effOf (rd tm) objs o ob]) l ⟨tm',objs',dl⟩ G) (hg:guardA ops (rd tm) o=some true:=by rfl) (hv:evAny Et H0 frz (rd tm) objs o=some (v',ob,fl):=by rfl) (hf:fl=true:=by first|(simp [cutC,inB,maxC]<;>fail)|(simp [cutC,inB,maxC];omega)|exact flag4 (by omega)|fail) (ho:ob.getD objs=objs':=by first|(conv=>lhs;dsimp only [Option.getD])|rfl) (hp:isPan v=false:=by rfl) (ht:setD nt tm o.dst v=some tm':=by rfl) :
  EvD Try.prog Et frz nt ops s0 i acc (o :: l) ⟨tm,objs,dl⟩ G:=EvD.x hg hv hf he ho hp ht k
theorem zCut {v v':AV} (he:v'=v) (q:Q) (h:v'=v->Q->P:=by intro e q;first|exact oCw (by assumption) e q|exact eCw e q):P:=h he q
end
theorem cut4 (l:List Nat) (hl:l.length<=4) (n:Nat) (hn:n<=l.length):AV.d (.sl 1 (cutL none (some (n:Int)) [nI (l.getD 0 0),nI (l.getD 1 0),nI (l.getD 2 0),nI (l.getD 3 0)]))=.d (nats (l.take n)):=by
 congr 2
 simp only [cutL,Option.getD,Int.toNat_natCast,Int.toNat_zero,List.drop_zero]
 match l,hl,n,hn with
 |[],_,0,_=>rfl
 |[a],_,0,_=>rfl
 |[a],_,1,_=>rfl
 |[a,b],_,0,_=>rfl
 |[a,b],_,1,_=>rfl
 |[a,b],_,2,_=>rfl
 |[a,b,c],_,0,_=>rfl
 |[a,b,c],_,1,_=>rfl
 |[a,b,c],_,2,_=>rfl
 |[a,b,c],_,3,_=>rfl
 |[a,b,c,d],_,0,_=>rfl
 |[a,b,c,d],_,1,_=>rfl
 |[a,b,c,d],_,2,_=>rfl
 |[a,b,c,d],_,3,_=>rfl
 |[a,b,c,d],_,4,_=>rfl
theorem cut4' (l:List Nat) (hl:l.length<=4):AV.d (.sl 1 (cutL none (some (l.length:Int)) [nI (l.getD 0 0),nI (l.getD 1 0),nI (l.getD 2 0),nI (l.getD 3 0)]))=.d (nats l):=by
 have:=cut4 l hl l.length (Nat.le_refl _)
 rwa [List.take_length] at this
def chkL (l:List Nat) (terms:Int):Int:=if terms<1 then 2 else if 8<terms then 2 else if l.all (fun x=>decide ((x:Int)<terms)) then 0 else 14
theorem cutK (l:List Nat) (hl:l.length<=4) (k:Nat):KnownCall Try.prog 111 [lk l,nI k] (.d (lk (l.take k))):=by
 have hm:AV.d (.int .i64 (if(k:Int)<(l.length:Int) then(k:Int) else(l.length:Int)))=.d (nI (min k l.length)):=by
  congr 2;split<;>omega
 have h4:=cut4 l hl (min k l.length) (by omega);rw [show l.take (min k l.length)=l.take k by
  rcases Nat.le_total k l.length with h|h
  .rw [Nat.min_eq_left h]
  .rw [Nat.min_eq_right h,List.take_length,List.take_of_length_le h]] at h4
 have hk:=ofK (l.take k) (by rw [List.length_take];omega);refine kF Try.func111 [2] fun w=>?_
 repeat' (first|refine zV hm ?_|refine zW ?_|refine zB ?_ ?_<;>intro h<;>try exact zk h|refine zX ?_|refine zCut h4 ?_|refine zK (hk) ?_ ?_<;>intro h<;>try exact zk h|refine zC (hk) ?_|rfl|fail)
theorem checkK (l:List Nat) (hl:l.length<=4) (terms:Int):KnownCall Try.prog 89 [lk l,.int .i64 terms] (.d (.int .i64 (chkL l terms))):=by
 have h4:=cut4' l hl;refine kF Try.func89 [2] fun w=>?_
 repeat' (first|refine zW ?_|refine zB ?_ ?_<;>intro h<;>try exact zk h|refine zX ?_|refine zCut h4 ?_|refine zK (ofK l hl) ?_ ?_<;>intro h<;>try exact zk h|refine zC (ofK l hl) ?_|(show _=_;((simp only [chkL];repeat' split)<;>(first|rfl|(simp_all<;>fail)|(simp_all;omega))))|fail)
 have h1:¬ terms<1:=by rename_i a1 _ _ _;simpa using a1
 have h2:¬ 8<terms:=by rename_i a2 _ _;simpa using a2
 refine Run.loop (fun i:Nat=>⟨PT.ofList [(1,.d (.int .i64 terms)),(35,.d (nats l)),(36,.d (nI (l.map nI).length)),(37,.d (.int .i64 i))],[],[]⟩) (fun i=>i<=l.length/\∀ x ∈ l.take i,(x:Int)<terms) (fun i=>l.length-i) 0 ⟨Nat.zero_le _,by simp⟩ (weak_of (by repeat' (first|exact trivial|refine⟨rfl,?_⟩))) (fun i hi=>?_);rcases Nat.lt_or_ge i l.length with hlt|hge
 .obtain⟨x,hx⟩:=get_ok hlt
  have hgo:(x:Int)<terms->∀ y ∈ l.take (i+1),(y:Int)<terms:=fun h=>by
   rw [List.take_add_one,hx];intro y hy;rcases List.mem_append.1 hy with h1|h1
   .exact hi.2 y h1
   .simp at h1;subst h1;exact h
  have hbad:¬ (x:Int)<terms->chkL l terms=14:=fun h=>by
   unfold chkL;rw [if_neg h1,if_neg h2,if_neg];simp only [List.all_eq_true,decide_eq_true_eq];intro ha;exact h (ha x (List.mem_of_getElem? hx))
  repeat' (first|refine zW ?_|refine zB ?_ ?_<;>intro h<;>try exact zk h|refine zX ?_|refine zI w (.d (.ep [nI x])) hx ?_|(show _=_;rw [hbad (by simpa using h)])|(exact⟨i+1,⟨hlt,hgo (by simpa using h)⟩,by omega,weak_of (by repeat' (first|exact trivial|refine⟨rfl,?_⟩|refine⟨(inc_get (k:=i) (by kernel_rfl) (by omega)),?_⟩))⟩)|fail)
 .have hie:i=l.length:=by have:=hi.1;omega
  have hok:chkL l terms=0:=by
   unfold chkL;rw [if_neg h1,if_neg h2,if_pos];simp only [List.all_eq_true,decide_eq_true_eq];have:=hi.2;rwa [hie,List.take_length] at this
  subst hie
  repeat' (first|refine zW ?_|refine zB ?_ ?_<;>intro h<;>try exact zk h|refine zX ?_|(show _=_;rw [hok])|fail)
theorem chkL0 {l:List Nat} (h:Rt l):chkL l 8=0:=by
 unfold chkL;rw [if_neg (by omega),if_neg (by omega),if_pos];simp only [List.all_eq_true,decide_eq_true_eq];intro x hx;have:=h.lt x hx;omega
theorem rightK (x y:List Nat) (hx:Rt x) (hy:Rt y):KnownCall Try.prog 107 [.int .i64 8,.sl 5 [lk x,lk y]] (.d (.int .i64 0)):=by
 have h1:=checkK x hx.len 8;have h2:=checkK y hy.len 8;rw [chkL0 hx] at h1;rw [chkL0 hy] at h2;refine kF Try.func107 [] fun w=>?_
 repeat' (first|refine zW ?_|refine zB ?_ ?_<;>intro h<;>try exact zk h|refine zX ?_|fail)
 refine Run.loopT (fun i:Nat=>⟨PT.ofList [(0,.d (.int .i64 8)),(8,.d (.sl 5 [lk x,lk y])),(9,.d (.int .i64 2)),(10,.d (.int .i64 i))],[],[]⟩) (fun i=>i<=2) (fun i=>2-i) 0 (Nat.zero_le _) (ti _ 0) (fun i hi=>?_)
 match i,hi with
 |0,_ =>
  repeat' (first|refine zW ?_|refine zB ?_ ?_<;>intro h<;>try exact zk h|refine zX ?_|refine zC (h1) ?_|(exact⟨1,by omega,by omega,(ti _ 0)⟩)|fail)
 |1,_ =>
  repeat' (first|refine zW ?_|refine zB ?_ ?_<;>intro h<;>try exact zk h|refine zX ?_|refine zC (h2) ?_|(exact⟨2,by omega,by omega,(ti _ 0)⟩)|fail)
 |2,_ =>
  repeat' (first|refine zW ?_|refine zB ?_ ?_<;>intro h<;>try exact zk h|refine zX ?_|rfl|fail)
theorem listK (l:List Nat) (hl:l.length<=4):KnownCall Try.prog 112 [lk l] (.d (nats l)):=by
 have w:Fz [1]:=trivial;have h4:=cut4' l hl;refine knownE2 Yo (fnB Try.func112 [1]) ?_
 repeat' (first|refine zW ?_|refine zB ?_ ?_<;>intro h<;>try exact zk h|refine zX ?_|refine zCut h4 ?_|refine zAp ?_|(refine Yt ?_;refine r2 ?_;first|done|(exact .refl))|fail)
theorem listA (l:List Nat) (hl:l.length<=4):ACall Try.prog 112 [.d (lk l)] [] (.sr 0 1 ([]++l.map nI)) [.room (([]:List DV).length+(l.map nI).length) 1]:=by
 have w:Fz [1]:=trivial;have h4:=cut4' l hl;refine acall_of_run Yo (fnB Try.func112 [1]) rfl rfl ?_
 repeat' (first|refine zW ?_|refine zB ?_ ?_<;>intro h<;>try exact zk h|refine zX ?_|refine zCut h4 ?_|refine zAp ?_|fail)
 refine Yt ?_;exact⟨trivial,rfl,rfl⟩
theorem joinK (k:Nat) (hk1:1<=k) (hk:k<=4) (x y:List Nat) (hx:Rt x) (hy:Rt y):KnownCall Try.prog 102 [nI k,lk x,lk y] (.tup [.d (lk ((x++y).take k)),.d (.int .i64 0)]):=by
 have c0:=rightK x y hx hy;have c1:=fun O=>ACall.lift (ds:=[lk x]) (listA x hx.len) rfl O;have c2:=listK y hy.len;have c3:=of4 (x++y);rw [show nats (x++y)=.sl 1 ([]++x.map nI++y.map nI) by simp] at c3;have c4:=cutK ((x++y).take 4) (by rw [List.length_take];omega) k;rw [List.take_take,Nat.min_eq_left hk] at c4;have hl1:=hx.len;have hl2:=hy.len;refine kF Try.func102 [4,5,11] fun w=>?_
 repeat' (first|refine zW ?_|refine zB ?_ ?_<;>intro h<;>try exact zk h|refine zX ?_|refine zC (c0) ?_|refine eA (c1 _) ?_|refine zC (c2) ?_|refine zL (c3) ?_|refine zC (c4) ?_|refine zAp ?_|rfl|exact zk h|fail)
def cmpL:List Nat->List Nat->Int
 |[],[]=>0
 |[],_ :: _=>-1
 |_ :: _,[]=>1
 |a :: x,b :: y=>if a<b then -1 else if b<a then 1 else cmpL x y
theorem cmpL_self:∀ x,cmpL x x=0
 |[]=>rfl
 |a :: x=>by simp only [cmpL,Nat.lt_irrefl,if_false];exact cmpL_self x
theorem cmpL_at:∀ {i:Nat} {x y:List Nat} {a b:Nat},x.take i=y.take i->x[i]?=some a->y[i]?=some b->a≠b->cmpL x y=if a<b then -1 else 1
 |0,x :: xs,y :: ys,a,b,_,hx,hy,hne=>by
  simp at hx hy;subst hx hy;simp only [cmpL];by_cases h:x<y
  .rw [if_pos h,if_pos h]
  .rw [if_neg h,if_neg h,if_pos (by omega)]
 |i+1,x :: xs,y :: ys,a,b,ht,hx,hy,hne=>by
  simp at hx hy ht;obtain⟨rfl,ht⟩:=ht;simp only [cmpL,Nat.lt_irrefl,if_false];exact cmpL_at ht hx hy hne
 |0,[],_,_,_,_,hx,_,_=>by simp at hx
 |0,_ :: _,[],_,_,_,_,hy,_=>by simp at hy
 |i+1,[],_,_,_,_,hx,_,_=>by simp at hx
 |i+1,_ :: _,[],_,_,_,_,hy,_=>by simp at hy
theorem cmpL_end:∀ {i:Nat} {x y:List Nat},x.take i=y.take i->i=min x.length y.length->x≠y->cmpL x y=if x.length<y.length then -1 else 1
 |i,[],[],_,_,hne=>absurd rfl hne
 |i,[],y :: ys,_,_,_=>by simp [cmpL]
 |i,x :: xs,[],_,_,_=>by simp [cmpL]
 |i+1,x :: xs,y :: ys,ht,hi,hne=>by
  simp at ht hi hne;obtain⟨rfl,ht⟩:=ht;simp only [cmpL,Nat.lt_irrefl,if_false,List.length_cons,Nat.add_lt_add_iff_right];exact cmpL_end ht (by omega) (hne rfl)
 |0,x :: xs,y :: ys,_,hi,_=>by simp at hi
theorem lk_inj {x y:List Nat} (hx:x.length<=4) (hl:x.length=y.length) (h0:x.getD 0 0=y.getD 0 0) (h1:x.getD 1 0=y.getD 1 0) (h2:x.getD 2 0=y.getD 2 0) (h3:x.getD 3 0=y.getD 3 0):x=y:=by
 refine List.ext_getElem? fun i=>?_;rcases Nat.lt_or_ge i x.length with h|h
 .obtain⟨a,ha⟩:=get_ok h
  obtain⟨b,hb⟩:=get_ok (show i<y.length by omega);rw [ha,hb];have:x.getD i 0=y.getD i 0:=by
   match i,h with
   |0,_=>exact h0
   |1,_=>exact h1
   |2,_=>exact h2
   |3,_=>exact h3
   |i+4,h=>omega
  simpa [List.getD_eq_getElem?_getD,ha,hb] using this
 .rw [List.getElem?_eq_none h,List.getElem?_eq_none (by omega)]
theorem drop4 {x:List Nat} {i a:Nat} (hl:x.length<=4) (h:x[i]?=some a):∃ R,AV.d (.ep (List.drop ((i:Int).toNat*1) [nI (x.getD 0 0),nI (x.getD 1 0),nI (x.getD 2 0),nI (x.getD 3 0)]))=.d (.ep (nI a :: R)):=by
 have hi:=(List.getElem?_eq_some_iff.1 h).1;simp only [List.getD_eq_getElem?_getD,Int.toNat_natCast,Nat.mul_one]
 match i,hi,h with
 |0,_,h=>rw [h];exact⟨_,rfl⟩
 |1,_,h=>rw [h];exact⟨_,rfl⟩
 |2,_,h=>rw [h];exact⟨_,rfl⟩
 |3,_,h=>rw [h];exact⟨_,rfl⟩
 |i+4,hi,_=>omega
theorem compareK (x y:List Nat) (hx:Rt x) (hy:Rt y):KnownCall Try.prog 91 [lk x,lk y] (.tup [.d (.int .i64 (cmpL x y)),.d (.int .i64 0)]):=by
 have c0:=rightK x y hx hy;have hl1:=hx.len;have hl2:=hy.len;by_cases hxy:x=y
 .subst hxy
  rw [cmpL_self];refine kF Try.func91 [2,3,10] fun w=>?_
  repeat' (first|refine zW ?_|refine zB ?_ ?_<;>intro h<;>try exact zk h|refine zX ?_|refine zC (c0) ?_|rfl|fail)
 .have hm:AV.d (.int .i64 (if(y.length:Int)<(x.length:Int) then(y.length:Int) else(x.length:Int)))=.d (nI (min x.length y.length)):=by
   congr 2;split<;>omega
  refine kF Try.func91 [2,3,10] fun w=>?_
  repeat' (first|refine zV hm ?_|refine zW ?_|refine zB ?_ ?_<;>intro h<;>try exact zk h|refine zX ?_|refine zC (c0) ?_|((exfalso;simp only [Bool.and_eq_true,beq_iff_eq] at h;exact hxy (lk_inj hl1 (by omega) (by omega) (by omega) (by omega) (by omega))))|fail)
  refine Run.loop (fun i:Nat=>⟨PT.ofList [(2,.d (.ep (lkC x))),(3,.d (.ep (lkC y))),(24,.d (nI (min x.length y.length))),(25,.d (.int .i64 i))],[],[]⟩) (fun i=>i<=min x.length y.length/\x.take i=y.take i) (fun i=>min x.length y.length-i) 0 ⟨Nat.zero_le _,rfl⟩ (weak_of (by repeat' (first|exact trivial|refine⟨rfl,?_⟩))) (fun i hi=>?_);rcases Nat.lt_or_ge i (min x.length y.length) with hlt|hge
  .obtain⟨a,ha⟩:=get_ok (show i<x.length by omega)
   obtain⟨b,hb⟩:=get_ok (show i<y.length by omega);obtain⟨R1,r1⟩:=drop4 hl1 ha;obtain⟨R2,r2⟩:=drop4 hl2 hb;have hgo:a=b->x.take (i+1)=y.take (i+1):=fun h=>by rw [List.take_add_one,List.take_add_one,hi.2,ha,hb,h]
   have hne:=cmpL_at hi.2 ha hb
   repeat' (first|refine zW ?_|refine zB ?_ ?_<;>intro h<;>try exact zk h|refine zX ?_|refine zCut r1 ?_|refine zCut r2 ?_|(show _=_;(rw [hne (by intro e;subst e;simp_all)];split<;>simp_all<;>omega))|(exact⟨i+1,⟨hlt,hgo (by simp at h;omega)⟩,by omega,weak_of (by repeat' (first|exact trivial|refine⟨rfl,?_⟩|refine⟨(inc_get (k:=i) (by kernel_rfl) (by omega)),?_⟩))⟩)|fail)
  .have hie:i=min x.length y.length:=by have:=hi.1;omega
   have he:=cmpL_end hi.2 hie hxy;subst hie
   repeat' (first|refine zW ?_|refine zB ?_ ?_<;>intro h<;>try exact zk h|refine zX ?_|(show _=_;(rw [he];split<;>simp_all<;>omega))|fail)
def IterOK (f:DV) (L:List (List Nat)):Prop:=∃ g a b,f=.fn (.func g) a b/\∀ (yi:Nat) (B:Nat->List Ob),(∀ k,yi<(B k).length)->(∀ k,(B 0).length<=(B k).length)->(∀ k,(B k).all (refOb (B k).length)=true) ->
 (∀ k x,L[k]?=some x->AYield Try.prog yi [.d (lk x)] (B k) (.d (.bool true)) (B (k+1)))->ACall Try.prog g (a.map .d++[.yl yi]++b.map .d) (B 0) (.tup []) (B L.length)
theorem lt_true {a b:Nat} (h:a<b):AV.d (.bool (decide ((a:Int)<(b:Int))))=.d (.bool true):=by
 rw [decide_eq_true (by omega)]
theorem lt_false {a b:Nat} (h:b<=a):AV.d (.bool (decide ((a:Int)<(b:Int))))=.d (.bool false):=by
 rw [decide_eq_false (by omega)]
theorem valuesK (L:List (List Nat)):KnownCall Try.prog 90 [lks L] (.d (.fn (.func 106) [] [.ep [lks L]])):=by
 refine kF Try.func90 [1] fun w=>?_
 repeat' (first|refine zW ?_|refine zB ?_ ?_<;>intro h<;>try exact zk h|refine zX ?_|rfl|fail)
theorem valuesIt (L:List (List Nat)) (hl:L.length<=1048576):IterOK (.fn (.func 106) [] [.ep [lks L]]) L:=by
 have w:Fz []:=trivial;refine⟨_,_,_,rfl,fun yi B hyi hB0 hR hy=>?_⟩;have w:Fz []:=trivial
 show ACall _ _ [.yl yi,.d (.ep [lks L])] _ _ _
 refine acall_of_run Yo (fnB Try.func106 []) rfl rfl ?_
 repeat refine zA ?_
 refine Run.loop (fun k:Nat=>⟨PT.ofList [(0,.yl yi),(5,.d (lks L)),(6,.d (nI (L.map lk).length)),(7,.d (.int .i64 k))],B k,[]⟩) (fun k=>k<=L.length) (fun k=>L.length-k) 0 (Nat.zero_le _) (weak_of ⟨rfl,rfl,rfl,rfl,trivial⟩) (fun k hk=>?_);have hlen:(L.map lk).length=L.length:=by simp
 rcases Nat.lt_or_ge k L.length with hlt|hge
 .obtain⟨x,hx⟩:=get_ok hlt
  repeat refine zS ?_
  refine zV (lt_true (show k<(L.map lk).length by omega)) ?_
  repeat refine zS ?_
  refine zI w (.d (.ep (lkC x))) hx ?_;iterate 2 refine zX ?_
  refine oV ?_ (hv:=evAny_store_last);refine Yn ?_;refine Run.dropLast (ds:=lkC x) [(0,.yl yi),(5,.d (lks L)),(6,.d (nI (L.map lk).length)),(7,.d (.int .i64 k)),(4,.d (.ep (lkC x)))] ?_ (hB0 k) (hR k) (ofList_cases (by intro p hp;simp only [List.mem_cons,List.not_mem_nil,or_false] at hp;rcases hp with rfl|rfl|rfl|rfl|rfl;exact .inl (by kernel_rfl);exact .inl (by kernel_rfl);exact .inl (by kernel_rfl);exact .inl (by kernel_rfl);exact .inr ⟨0,Nat.zero_le _,by kernel_rfl,rfl⟩)) ⟨by simp [refA];exact hyi k,rfl,rfl,rfl,rfl,trivial⟩
  repeat refine zS ?_
  iterate 2 refine zX ?_
  refine RunOps.yield (by rfl) (by rfl) (hy k x hx) (by rfl) (by rfl) ?_
  repeat' (first|refine zW ?_|refine zB ?_ ?_<;>intro h<;>try exact zk h|refine zX ?_|(exact⟨k+1,hlt,by omega,weak_of (by repeat' (first|exact trivial|refine⟨rfl,?_⟩|refine⟨(inc_get (k:=k) (by kernel_rfl) (by omega)),?_⟩))⟩)|fail)
 .have hke:k=L.length:=by omega
  subst hke
  repeat refine zS ?_
  refine zV (lt_false (show(L.map lk).length<=L.length by omega)) ?_
  repeat' (first|refine zW ?_|refine zB ?_ ?_<;>intro h<;>try exact zk h|refine zX ?_|fail)
  exact⟨trivial,rfl,by kernel_rfl⟩
def prs (k:Nat) (a b:List (List Nat)):List (List Nat):=a.flatMap fun x=>b.map fun y=>(x++y).take k
theorem prs_len (k:Nat) (b:List (List Nat)):∀ a,(prs k a b).length=a.length*b.length
 |[]=>by simp [prs]
 |x :: a=>by
  have:prs k (x :: a) b=b.map (fun y=>(x++y).take k)++prs k a b:=by simp [prs]
  rw [this,List.length_append,prs_len k b a,List.length_map,List.length_cons,Nat.succ_mul,Nat.add_comm]
theorem prs_get (k:Nat) (b:List (List Nat)):∀ {a:List (List Nat)} {i j:Nat} {x y:List Nat},a[i]?=some x->b[j]?=some y->(prs k a b)[i*b.length+j]?=some ((x++y).take k)
 |[],i,j,x,y,h,_=>by simp at h
 |z :: a,0,j,x,y,h,hy=>by
  have e:prs k (z :: a) b=b.map (fun y=>(z++y).take k)++prs k a b:=by simp [prs]
  simp at h;subst h;rw [e,List.getElem?_append_left (by have:=(List.getElem?_eq_some_iff.1 hy).1;simp;omega),Nat.zero_mul,Nat.zero_add,List.getElem?_map,hy];rfl
 |z :: a,i+1,j,x,y,h,hy=>by
  have e:prs k (z :: a) b=b.map (fun y=>(z++y).take k)++prs k a b:=by simp [prs]
  simp at h;rw [e,List.getElem?_append_right (by simp [Nat.succ_mul];omega),List.length_map,show(i+1)*b.length+j-b.length=i*b.length+j by rw [Nat.succ_mul];omega];exact prs_get k b h hy
theorem pairsK (k:Nat) (a b:List (List Nat)):KnownCall Try.prog 74 [nI k,lks a,lks b] (.d (.fn (.func 101) [] [.ep [lks a],.ep [lks b],.ep [nI k]])):=by
 refine kF Try.func74 [3,4,5] fun w=>?_
 repeat' (first|refine zW ?_|refine zB ?_ ?_<;>intro h<;>try exact zk h|refine zX ?_|rfl|fail)
set_option maxHeartbeats 1000000 in
theorem pairsIt (k:Nat) (hk1:1<=k) (hk:k<=4) (a b:List (List Nat)) (ha:∀ x ∈ a,Rt x) (hb:∀ x ∈ b,Rt x) (hal:a.length<=1048576) (hbl:b.length<=1048576):IterOK (.fn (.func 101) [] [.ep [lks a],.ep [lks b],.ep [nI k]]) (prs k a b):=by
 have w:Fz []:=trivial;refine⟨_,_,_,rfl,fun yi B hyi hB0 hR hy=>?_⟩;have w:Fz []:=trivial
 show ACall _ _ [.yl yi,.d (.ep [lks a]),.d (.ep [lks b]),.d (.ep [nI k])] _ _ _
 refine acall_of_run Yo (fnB Try.func101 []) rfl rfl ?_
 repeat refine zA ?_
 have hla:(a.map lk).length=a.length:=by simp
 have hlb:(b.map lk).length=b.length:=by simp
 refine Run.loop (fun i:Nat=>⟨PT.ofList [(0,.yl yi),(2,.d (.ep [lks b])),(3,.d (.ep [nI k])),(11,.d (lks a)),(12,.d (nI (a.map lk).length)),(13,.d (.int .i64 i))],B (i*b.length),[]⟩) (fun i=>i<=a.length) (fun i=>a.length-i) 0 (Nat.zero_le _) (weak_of' (by simp) rfl ⟨rfl,rfl,rfl,rfl,rfl,rfl,trivial⟩) (fun i hi=>?_);rcases Nat.lt_or_ge i a.length with hlt|hge
 .obtain⟨x,hx⟩:=get_ok hlt
  repeat refine zS ?_
  refine zV (lt_true (show i<(a.map lk).length by omega)) ?_
  repeat refine zS ?_
  refine zI w (.d (.ep (lkC x))) hx ?_;iterate 2 refine zX ?_
  refine oV ?_ (hv:=evAny_store_last);refine Yn ?_;refine Run.dropLast (ds:=lkC x) [(0,.yl yi),(2,.d (.ep [lks b])),(3,.d (.ep [nI k])),(11,.d (lks a)),(12,.d (nI (a.map lk).length)),(13,.d (.int .i64 i)),(6,.d (.ep (lkC x)))] ?_ (hB0 _) (hR _) (ofList_cases (by intro p hp;simp only [List.mem_cons,List.not_mem_nil,or_false] at hp;rcases hp with rfl|rfl|rfl|rfl|rfl|rfl|rfl;exact .inl (by kernel_rfl);exact .inl (by kernel_rfl);exact .inl (by kernel_rfl);exact .inl (by kernel_rfl);exact .inl (by kernel_rfl);exact .inl (by kernel_rfl);exact .inr ⟨0,Nat.zero_le _,by kernel_rfl,rfl⟩)) ⟨by simp [refA];exact hyi _,rfl,rfl,rfl,rfl,rfl,rfl,trivial⟩
  repeat refine zA ?_
  refine Run.loop (fun j:Nat=>⟨PT.ofList [(0,.yl yi),(2,.d (.ep [lks b])),(3,.d (.ep [nI k])),(11,.d (lks a)),(12,.d (nI (a.map lk).length)),(13,.d (.int .i64 i)),(6,.d (.ep (lkC x))),(17,.d (lks b)),(18,.d (nI (b.map lk).length)),(19,.d (.int .i64 j))],B (i*b.length+j),[]⟩) (fun j=>j<=b.length) (fun j=>b.length-j) 0 (Nat.zero_le _) (weak_of' (by simp) rfl ⟨rfl,rfl,rfl,rfl,rfl,rfl,rfl,rfl,rfl,rfl,trivial⟩) (fun j hj=>?_);rcases Nat.lt_or_ge j b.length with hjl|hjg
  .obtain⟨y,hyj⟩:=get_ok hjl
   have hxy:=prs_get k b hx hyj;have hjn:=joinK k hk1 hk x y (ha x (List.mem_of_getElem? hx)) (hb y (List.mem_of_getElem? hyj))
   repeat refine zS ?_
   refine zV (lt_true (show j<(b.map lk).length by omega)) ?_
   repeat refine zS ?_
   refine zI w (.d (.ep (lkC y))) hyj ?_;iterate 2 refine zX ?_
   refine oV ?_ (hv:=evAny_store_last);refine Yn ?_;refine Run.dropLast (ds:=lkC y) [(0,.yl yi),(2,.d (.ep [lks b])),(3,.d (.ep [nI k])),(11,.d (lks a)),(12,.d (nI (a.map lk).length)),(13,.d (.int .i64 i)),(6,.d (.ep (lkC x))),(17,.d (lks b)),(18,.d (nI (b.map lk).length)),(19,.d (.int .i64 j)),(8,.d (.ep (lkC y)))] ?_ (hB0 _) (hR _) (ofList_cases (by intro p hp;simp only [List.mem_cons,List.not_mem_nil,or_false] at hp;rcases hp with rfl|rfl|rfl|rfl|rfl|rfl|rfl|rfl|rfl|rfl|rfl;exact .inl (by kernel_rfl);exact .inl (by kernel_rfl);exact .inl (by kernel_rfl);exact .inl (by kernel_rfl);exact .inl (by kernel_rfl);exact .inl (by kernel_rfl);exact .inl (by kernel_rfl);exact .inl (by kernel_rfl);exact .inl (by kernel_rfl);exact .inl (by kernel_rfl);exact .inr ⟨0,Nat.zero_le _,by kernel_rfl,rfl⟩)) ⟨by simp [refA];exact hyi _,rfl,rfl,rfl,rfl,rfl,rfl,rfl,rfl,rfl,rfl,trivial⟩
   repeat refine zS ?_
   iterate 3 refine zX ?_
   refine zC hjn ?_;iterate 4 refine zX ?_
   refine oV ?_ (hv:=evAny_store_last);refine zX ?_;refine Yn ?_;refine Run.dropLast (ds:=lkC ((x++y).take k)) [(0,.yl yi),(2,.d (.ep [lks b])),(3,.d (.ep [nI k])),(11,.d (lks a)),(12,.d (nI (a.map lk).length)),(13,.d (.int .i64 i)),(6,.d (.ep (lkC x))),(17,.d (lks b)),(18,.d (nI (b.map lk).length)),(19,.d (.int .i64 j)),(9,.d (.ep (lkC ((x++y).take k))))] ?_ (hB0 _) (hR _) (ofList_cases (by intro p hp;simp only [List.mem_cons,List.not_mem_nil,or_false] at hp;rcases hp with rfl|rfl|rfl|rfl|rfl|rfl|rfl|rfl|rfl|rfl|rfl;exact .inl (by kernel_rfl);exact .inl (by kernel_rfl);exact .inl (by kernel_rfl);exact .inl (by kernel_rfl);exact .inl (by kernel_rfl);exact .inl (by kernel_rfl);exact .inl (by kernel_rfl);exact .inl (by kernel_rfl);exact .inl (by kernel_rfl);exact .inl (by kernel_rfl);exact .inr ⟨0,Nat.zero_le _,by kernel_rfl,rfl⟩)) ⟨by simp [refA];exact hyi _,rfl,rfl,rfl,rfl,rfl,rfl,rfl,rfl,rfl,rfl,trivial⟩
   repeat refine zS ?_
   iterate 2 refine zX ?_
   refine RunOps.yield (by rfl) (by rfl) (hy _ _ hxy) (by rfl) (by rfl) ?_
   repeat' (first|refine zW ?_|refine zB ?_ ?_<;>intro h<;>try exact zk h|refine zX ?_|(exact⟨j+1,hjl,by omega,weak_of (by repeat' (first|exact trivial|refine⟨rfl,?_⟩|refine⟨(inc_get (k:=j) (by kernel_rfl) (by omega)),?_⟩))⟩)|fail)
  .have hje:j=b.length:=by omega
   subst hje
   repeat refine zS ?_
   refine zV (lt_false (show(b.map lk).length<=b.length by omega)) ?_
   repeat' (first|refine zW ?_|refine zB ?_ ?_<;>intro h<;>try exact zk h|refine zX ?_|fail)
   exact⟨i+1,hlt,by omega,weak_of' (by rw [Nat.succ_mul]) rfl (by repeat' (first|exact trivial|refine⟨rfl,?_⟩|refine⟨(inc_get (k:=i) (by kernel_rfl) (by omega)),?_⟩))⟩
 .have hke:i=a.length:=by omega
  subst hke;rw [prs_len]
  repeat refine zS ?_
  refine zV (lt_false (show(a.map lk).length<=a.length by omega)) ?_
  repeat' (first|refine zW ?_|refine zB ?_ ?_<;>intro h<;>try exact zk h|refine zX ?_|fail)
  exact⟨trivial,rfl,by kernel_rfl⟩
theorem compareS (x y:List Nat) (hx:Rt x) (hy:Rt y):KnownCall Try.prog 84 [lk x,lk y] (.d (.int .i64 (cmpL x y))):=by
 have c:=compareK x y hx hy;refine kF Try.func84 [2,3] fun w=>?_
 repeat' (first|refine zW ?_|refine zB ?_ ?_<;>intro h<;>try exact zk h|refine zX ?_|refine zC (c) ?_|rfl|fail)
theorem numbersK (n:Nat) (h:1<=n) (h8:n<=8):KnownCall Try.prog 88 [nI n] (.d (.int .i64 0)):=by
 refine kF Try.func88 [] fun w=>?_
 repeat' (first|refine zW ?_|refine zB ?_ ?_<;>intro h<;>try exact zk h|refine zX ?_|rfl|((exfalso;first|(simp at h<;>fail)|(simp_all;omega)|omega))|fail)
theorem aheadK (n:Nat) (h:1<=n) (h8:n<=4):KnownCall Try.prog 72 [nI n] (.d (.int .i64 0)):=by
 refine kF Try.func72 [] fun w=>?_
 repeat' (first|refine zW ?_|refine zB ?_ ?_<;>intro h<;>try exact zk h|refine zX ?_|rfl|((exfalso;first|(simp at h<;>fail)|(simp_all;omega)|omega))|fail)
structure SetOK (n:Nat) (L:List (List Nat)):Prop where
 len:L.length<=4681
 rt:∀ x ∈ L,Rt x
 lt:∀ x ∈ L,∀ t ∈ x,t<n
 asc:L.Pairwise fun x y=>cmpL x y<0
theorem chkL_ok {l:List Nat} {n:Nat} (h1:1<=n) (h8:n<=8) (h:∀ t ∈ l,t<n):chkL l n=0:=by
 unfold chkL;rw [if_neg (by omega),if_neg (by omega),if_pos];simp only [List.all_eq_true,decide_eq_true_eq];intro x hx;have:=h x hx;omega
theorem setOK_next {n:Nat} {L:List (List Nat)} (h:SetOK n L) {i:Nat} {x y:List Nat} (hx:L[i]?=some x) (hy:L[i+1]?=some y):cmpL x y<0:=by
 obtain⟨h1,e1⟩:=List.getElem?_eq_some_iff.1 hx;obtain⟨h2,e2⟩:=List.getElem?_eq_some_iff.1 hy;have:=List.pairwise_iff_getElem.1 h.asc i (i+1) h1 h2 (by omega)
 rwa [e1,e2] at this
theorem checkS (n:Nat) (h1:1<=n) (h8:n<=8) (L:List (List Nat)) (hS:SetOK n L):KnownCall Try.prog 48 [nI n,lks L] (.d (.int .i64 0)):=by
 have c0:=numbersK n h1 h8;have hlen:=hS.len;refine kF Try.func48 [7] fun w=>?_
 repeat' (first|refine zW ?_|refine zB ?_ ?_<;>intro h<;>try exact zk h|refine zX ?_|refine zC (c0) ?_|((exfalso;first|(simp at h<;>fail)|(simp_all;omega)|omega))|fail)
 refine Run.loopT (fun i:Nat=>⟨PT.ofList [(0,.d (nI n)),(1,.d (lks L)),(19,.d (lks L)),(20,.d (nI (L.map lk).length)),(21,.d (.int .i64 i))],[],[]⟩) (fun i=>i<=L.length) (fun i=>L.length-i) 0 (Nat.zero_le _) (ti _ 0) (fun i hi=>?_);rcases Nat.lt_or_ge i L.length with hlt|hge
 .obtain⟨x,hx⟩:=get_ok hlt
  have hxm:=List.mem_of_getElem? hx;have c1:=checkK x (hS.rt x hxm).len n;rw [chkL_ok h1 h8 (hS.lt x hxm)] at c1;rcases i with _|i
  .repeat' (first|refine zW ?_|refine zB ?_ ?_<;>intro h<;>try exact zk h|refine zX ?_|refine zC (c1) ?_|refine zI w (.d (.ep (lkC x))) hx ?_|rfl|(exact⟨1,by omega,by omega,(ti _ 0)⟩)|((exfalso;first|(simp at h<;>fail)|(simp_all;omega)|omega))|fail)
  .obtain⟨y,hy⟩:=get_ok (show i<L.length by omega)
   have c2:=compareS y x (hS.rt y (List.mem_of_getElem? hy)) (hS.rt x hxm);have hlt2:=setOK_next hS hy hx;have hsub:AV.d (.int .i64 (IntKind.i64.wrap (((i+1:Nat):Int)-1)))=.d (nI i):=by
    congr 2;rw [show((i+1:Nat):Int)-1=(i:Nat) by omega];exact wrap_nat (by omega)
   repeat' (first|refine zV hsub ?_|refine zW ?_|refine zB ?_ ?_<;>intro h<;>try exact zk h|refine zX ?_|refine zC (c1) ?_|refine zC (c2) ?_|refine zI w (.d (.ep (lkC x))) hx ?_|refine zI w (.d (.ep (lkC y))) hy ?_|rfl|(exact⟨i+2,by omega,by omega,(ti _ 0)⟩)|((exfalso;first|(simp at h<;>fail)|(simp_all;omega)|omega))|fail)
 .have hie:i=L.length:=by omega
  subst hie
  repeat' (first|refine zW ?_|refine zB ?_ ?_<;>intro h<;>try exact zk h|refine zX ?_|rfl|((exfalso;first|(simp at h<;>fail)|(simp_all;omega)|omega))|fail)
abbrev rows (l:List (List (List Nat))):DV:=.sl 1 (l.map lks)
theorem allS (n:Nat) (h1:1<=n) (h8:n<=8) (l:List (List (List Nat))) (hl:l.length<=1048576) (hS:∀ L ∈ l,SetOK n L):KnownCall Try.prog 71 [nI n,rows l] (.d (.int .i64 0)):=by
 have c0:=numbersK n h1 h8;refine kF Try.func71 [] fun w=>?_
 repeat' (first|refine zW ?_|refine zB ?_ ?_<;>intro h<;>try exact zk h|refine zX ?_|refine zC (c0) ?_|fail)
 refine Run.loop (fun i:Nat=>⟨PT.ofList [(0,.d (nI n)),(1,.d (rows l)),(5,.d (.int .i64 0)),(6,.d (.int .i64 i))],[],[]⟩) (fun i=>i<=l.length) (fun i=>l.length-i) 0 (Nat.zero_le _) (weak_of (by repeat' (first|exact trivial|refine⟨rfl,?_⟩))) (fun i hi=>?_);rcases Nat.lt_or_ge i l.length with hlt|hge
 .obtain⟨L,hL⟩:=get_ok hlt
  have c1:=checkS n h1 h8 L (hS L (List.mem_of_getElem? hL))
  repeat' (first|refine zW ?_|refine zB ?_ ?_<;>intro h<;>try exact zk h|refine zX ?_|refine zC (c1) ?_|refine zI w (.d (.ep [lks L])) hL ?_|rfl|(exact⟨i+1,hlt,by omega,weak_of (by repeat' (first|exact trivial|refine⟨rfl,?_⟩|refine⟨(inc_get (k:=i) (by kernel_rfl) (by omega)),?_⟩))⟩)|((exfalso;first|(simp at h<;>fail)|(simp_all;omega)|omega))|fail)
 .have hie:i=l.length:=by omega
  subst hie
  repeat' (first|refine zW ?_|refine zB ?_ ?_<;>intro h<;>try exact zk h|refine zX ?_|rfl|((exfalso;first|(simp at h<;>fail)|(simp_all;omega)|omega))|fail)
abbrev cmpF:DV:=.fn (.func 84) [] []
end Go.Av
end
namespace Go.Proofs
open Go.Shelf
def Try.sortLk_ren:Go.Shelf.Ren:=⟨fun|6=>100|15=>110|14=>109|28=>124|29=>125|20=>116|21=>117|22=>118|23=>119|24=>120|25=>121|26=>122|27=>123|46=>126|47=>127|48=>128|49=>129|50=>130|57=>131|n=>n,fun|22=>24|24=>52|25=>120|3=>3|39=>144|0=>0|53=>156|55=>158|4=>4|46=>150|45=>149|50=>141|5=>5|9=>9|66=>159|70=>163|76=>165|77=>166|n=>n,fun|n=>n⟩
theorem Try.sortLk:Go.Proofs.SlLaysF0.n6 Try.prog Try.sortLk_ren:={
 mixed:=by kernel_rfl
 f6:=⟨Try.f100.name,by decide,Try.func100.trans (congrArg some (by kernel_rfl))⟩
 f14:=⟨Try.f109.name,by decide,Try.func109.trans (congrArg some (by kernel_rfl))⟩
 f15:=Try.func110.trans (congrArg some (by kernel_rfl))
 f20:=⟨Try.f116.name,by decide,Try.func116.trans (congrArg some (by kernel_rfl))⟩
 f21:=⟨Try.f117.name,by decide,Try.func117.trans (congrArg some (by kernel_rfl))⟩
 f22:=⟨Try.f118.name,by decide,Try.func118.trans (congrArg some (by kernel_rfl))⟩
 f23:=⟨Try.f119.name,by decide,Try.func119.trans (congrArg some (by kernel_rfl))⟩
 f24:=⟨Try.f120.name,by decide,Try.func120.trans (congrArg some (by kernel_rfl))⟩
 f25:=⟨Try.f121.name,by decide,Try.func121.trans (congrArg some (by kernel_rfl))⟩
 f26:=⟨Try.f122.name,by decide,Try.func122.trans (congrArg some (by kernel_rfl))⟩
 f27:=⟨Try.f123.name,by decide,Try.func123.trans (congrArg some (by kernel_rfl))⟩
 f28:=Try.func124.trans (congrArg some (by kernel_rfl))
 f29:=Try.func125.trans (congrArg some (by kernel_rfl))
 f46:=⟨Try.f126.name,by decide,Try.func126.trans (congrArg some (by kernel_rfl))⟩
 f47:=Try.func127.trans (congrArg some (by kernel_rfl))
 f48:=Try.func128.trans (congrArg some (by kernel_rfl))
 f49:=⟨Try.f129.name,by decide,Try.func129.trans (congrArg some (by kernel_rfl))⟩
 f50:=⟨Try.f130.name,by decide,Try.func130.trans (congrArg some (by kernel_rfl))⟩
 f57:=⟨Try.f131.name,by decide,Try.func131.trans (congrArg some (by kernel_rfl))⟩
 t0:=Try.underlying0
 a0:=Try.isAgg0
 z0:=Try.sizeOf0
 v0:=Try.zeroValue0
 t3:=Try.underlying3
 a3:=Try.isAgg3
 z3:=Try.sizeOf3
 v3:=Try.zeroValue3
 t4:=Try.underlying4
 a4:=Try.isAgg4
 z4:=Try.sizeOf4
 v4:=Try.zeroValue4
 t5:=Try.underlying5
 a5:=Try.isAgg5
 z5:=Try.sizeOf5
 v5:=Try.zeroValue5
 t9:=Try.underlying9
 a9:=Try.isAgg9
 z9:=Try.sizeOf9
 v9:=Try.zeroValue9
 t22:=Try.underlying24
 a22:=Try.isAgg24
 z22:=Try.sizeOf24
 v22:=Try.zeroValue24
 t25:=Try.underlying120
 a25:=Try.isAgg120
 z25:=Try.sizeOf120
 v25:=Try.zeroValue120
 t39:=Try.underlying144
 a39:=Try.isAgg144
 z39:=Try.sizeOf144
 v39:=Try.zeroValue144
 t45:=Try.underlying149
 a45:=Try.isAgg149
 z45:=Try.sizeOf149
 v45:=Try.zeroValue149
 t46:=Try.underlying150
 a46:=Try.isAgg150
 z46:=Try.sizeOf150
 v46:=Try.zeroValue150
 t50:=Try.underlying141
 a50:=Try.isAgg141
 z50:=Try.sizeOf141
 v50:=Try.zeroValue141
 t53:=Try.underlying156
 a53:=Try.isAgg156
 z53:=Try.sizeOf156
 v53:=Try.zeroValue156
 t55:=Try.underlying158
 a55:=Try.isAgg158
 z55:=Try.sizeOf158
 v55:=Try.zeroValue158
 t66:=Try.underlying159
 a66:=Try.isAgg159
 z66:=Try.sizeOf159
 v66:=Try.zeroValue159
 t70:=Try.underlying163
 a70:=Try.isAgg163
 z70:=Try.sizeOf163
 v70:=Try.zeroValue163
 t76:=Try.underlying165
 a76:=Try.isAgg165
 z76:=Try.sizeOf165
 v76:=Try.zeroValue165
 t77:=Try.underlying166
 a77:=Try.isAgg166
 z77:=Try.sizeOf166
 v77:=Try.zeroValue166 }
end Go.Proofs
noncomputable section
namespace Go.Av
open Go Go.Proofs
set_option maxRecDepth 10000
theorem cmpL_neg:∀ x y,cmpL y x=-cmpL x y
 |[],[]=>rfl
 |[],_ :: _=>rfl
 |_ :: _,[]=>rfl
 |a :: x,b :: y=>by
  simp only [cmpL];rcases Nat.lt_trichotomy a b with h|h|h
  .rw [if_neg (by omega),if_pos h,if_pos h];rfl
  .subst h;simp only [Nat.lt_irrefl,if_false];exact cmpL_neg x y
  .rw [if_pos h,if_neg (by omega),if_pos h]
theorem cmpL_eq:∀ {x y},cmpL x y=0->x=y
 |[],[],_=>rfl
 |[],_ :: _,h=>by simp [cmpL] at h
 |_ :: _,[],h=>by simp [cmpL] at h
 |a :: x,b :: y,h=>by
  simp only [cmpL] at h;split at h
  .simp at h
  .split at h
   .simp at h
   .rw [cmpL_eq h,show a=b by omega]
theorem cmpL_trans:∀ {x y z},cmpL x y<0->cmpL y z<0->cmpL x z<0
 |[],[],_,h,_=>by simp [cmpL] at h
 |_ :: _,[],_,h,_=>by simp [cmpL] at h
 |[],_ :: _,[],_,h=>by simp [cmpL] at h
 |_ :: _,_ :: _,[],_,h=>by simp [cmpL] at h
 |[],_ :: _,_ :: _,_,_=>by simp [cmpL]
 |a :: x,b :: y,c :: z,h,k=>by
  simp only [cmpL] at h k |-;by_cases h1:a<b
  .by_cases k1:b<c
   .rw [if_pos (by omega)];decide
   .by_cases k2:c<b
    .rw [if_neg k1,if_pos k2] at k;simp at k
    .rw [if_pos (by omega)];decide
  .by_cases h2:b<a
   .rw [if_neg h1,if_pos h2] at h;simp at h
   .rw [if_neg h1,if_neg h2] at h
    by_cases k1:b<c
    .rw [if_pos (by omega)];decide
    .by_cases k2:c<b
     .rw [if_neg k1,if_pos k2] at k;simp at k
     .rw [if_neg k1,if_neg k2] at k
      rw [if_neg (by omega),if_neg (by omega)];exact cmpL_trans h k
abbrev LkT:={l:List Nat // Rt l}
instance:Inhabited LkT:=⟨⟨[],⟨by simp,by simp⟩⟩⟩
abbrev vI (n:Nat):Value:=.int .i64 (n:Nat)
def encL (x:LkT):List Value:=[vI x.1.length,vI (x.1.getD 0 0),vI (x.1.getD 1 0),vI (x.1.getD 2 0),vI (x.1.getD 3 0)]
def cfL (x y:LkT):Int:=cmpL x.1 y.1
theorem cfL_swo:Go.Sort.SWO (ltOf cfL) where
 irrefl x:=by simp [ltOf,cfL,cmpL_self]
 trans x y z h k:=by
  simp only [ltOf,decide_eq_true_eq] at h k |-;exact cmpL_trans h k
 ntrans x y z h k:=by
  have h:¬ cmpL x.1 y.1<0:=of_decide_eq_false h;have k:¬ cmpL y.1 z.1<0:=of_decide_eq_false k;refine decide_eq_false fun hc:cmpL x.1 z.1<0=>?_;by_cases h0:cmpL x.1 y.1=0
  .rw [cmpL_eq h0] at hc;exact k hc
  .have h1:cmpL y.1 x.1<0:=by rw [cmpL_neg];omega
   exact k (cmpL_trans h1 hc)
theorem cfL_total (x y:LkT) (h:ltOf cfL x y=false) (k:ltOf cfL y x=false):x=y:=by
 have h:¬ cmpL x.1 y.1<0:=of_decide_eq_false h;have k:¬ cmpL y.1 x.1<0:=of_decide_eq_false k;have:=cmpL_neg x.1 y.1;exact Subtype.ext (cmpL_eq (by omega))
theorem heap0 (w:World):Heap (fun _=>none) [] [] w:=⟨fun _ _ h=>(by cases h),rfl,fun i bi ob h=>(by simp at h),fun i j bi bj oi oj b h=>(by simp at h)⟩
theorem world_grown {D':DMap} {β':List Bi} {o':List Ob} {w w':World} (h:Step (fun _=>none) [] [] w D' β' o' w'):∃ q os',w'=Go.Sort.grow (w.drewN q) os':=by
 refine⟨w'.drawn-w.drawn,w'.heap.extract w.heap.size w'.heap.size,?_⟩;have hh:w'.heap=w.heap++w'.heap.extract w.heap.size w'.heap.size:=by
  refine Array.ext_getElem? fun k=>?_;rcases Nat.lt_or_ge k w.heap.size with hk|hk
  .rw [h.keep k hk not_own_nil,Array.getElem?_append_left hk]
  .rw [Array.getElem?_append_right hk,Array.getElem?_extract]
   have hs:=h.size;rcases Nat.lt_or_ge k w'.heap.size with h2|h2
   .rw [if_pos (by omega),show w.heap.size+(k-w.heap.size)=k by omega]
   .rw [Array.getElem?_eq_none h2,if_neg (by omega)]
 have h1:=h.os;have h2:=h.tape;have h3:=h.output.1;have h4:=h.output.2;cases w with
 |mk a b c d e =>
  cases w' with
  |mk a' b' c' d' e' =>
   simp only [Go.Sort.grow,World.drewN] at *;subst h1 h2 h3
   congr 1
   omega
theorem cmpLaysK (blk off size:Nat) (w:World):CmpLays Try.prog 84 #[] encL 5 cfL blk off size w:=by
 intro m os dk _ x y;generalize sortWorldK encL 5 w blk off m dk os=W;have hK:=(compareS x.1 y.1 x.2 y.2 []).2 (fun _=>none) [] W (#[.agg (encL x).toArray,.agg (encL y).toArray]++#[]) (heap0 W) ⟨rfl,fun j c v hc hv=>?_⟩
 .refine callsIn_wide.1 (hK.mono fun e w' he=>?_)
  rcases he with⟨v,D',β',rfl,hs,hr⟩|⟨z,v,D',β',hz,_⟩
  .cases hr with
   |d hr=>cases hr;exact⟨rfl,world_grown hs⟩
  .cases hz
 .have key:∀ z:LkT,RepA (fun _=>none) [] (.d (lk z.1)) (.agg (encL z).toArray):=fun z=>by
   refine .d (.agg rfl (fun j v hv=>?_) fun j c v hc hv=>?_)
   .match j,hv with
    |0,hv|1,hv|2,hv|3,hv|4,hv=>simp [encL] at hv;subst hv;rfl
    |j+5,hv=>simp [encL] at hv
   .match j,hc,hv with
    |0,hc,hv|1,hc,hv|2,hc,hv|3,hc,hv|4,hc,hv=>simp [encL,lkC] at hc hv;subst hc hv;exact .int
    |j+5,hc,hv=>simp [lkC] at hc
  match j,hc,hv with
  |0,hc,hv=>simp at hc hv;subst hc hv;exact key x
  |1,hc,hv=>simp at hc hv;subst hc hv;exact key y
  |j+2,hc,hv=>simp at hc
abbrev vecL (L:List (List Nat)):Ob:=.vec 52 true 5 L.length ((flatD (L.map lk)).map .d)
theorem flat_len (L:List (List Nat)):(flatD (L.map lk)).length=L.length*5:=by
 induction L with
 |nil=>rfl
 |cons a L ih =>
  have:(flatD ((a :: L).map lk)).length=(cellsD (lk a)).length+(flatD (L.map lk)).length:=by simp [flatD]
  rw [this,ih];simp only [cellsD,List.length_cons,List.length_nil];omega
theorem flat_at:∀ (L:List (List Nat)) (j:Nat) (x:List Nat),L[j / 5]?=some x->(flatD (L.map lk))[j]?=(lkC x)[j % 5]?
 |[],j,x,h=>by simp at h
 |a :: L,j,x,h=>by
  have e:flatD ((a :: L).map lk)=lkC a++flatD (L.map lk):=by simp [flatD,cellsD]
  rw [e];rcases Nat.lt_or_ge j 5 with hj|hj
  .rw [show j / 5=0 by omega] at h
   simp only [List.getElem?_cons_zero,Option.some.injEq] at h;subst h;rw [List.getElem?_append_left (by simpa using hj),Nat.mod_eq_of_lt hj]
  .rw [show j / 5=(j-5) / 5+1 by omega] at h
   simp only [List.getElem?_cons_succ] at h;rw [List.getElem?_append_right (by simpa using hj),show(lkC a).length=5 from rfl,flat_at L (j-5) x h,show(j-5) % 5=j % 5 by omega]
theorem encL_get (x:LkT) (c:Nat) (hc:c<5):∃ n,(lkC x.1)[c]?=some (nI n)/\(encL x)[c]! = vI n:=by
 match c,hc with
 |0,_|1,_|2,_|3,_|4,_=>exact⟨_,rfl,rfl⟩
theorem step_sorted {D:DMap} {β:List Bi} {objs:List Ob} {w:World} (h:Heap D β objs w) {i b:Nat} {bi:Bi} {ob ob':Ob} {o':Obj} (hb:β[i]?=some bi) (ho:objs[i]?=some ob)
  (hown:ownOf bi ob=some b) (hown':∀ b',ownOf bi ob'=some b'->b'=b) (hD:∀ ad,ad.block=b->D ad=none) (n:Nat) (os:Array Obj) (hnew:HoldsOb D β (putB (Go.Sort.ahead w n) b o') bi ob') :
  Step D β objs w D β (objs.set i ob') (Go.Sort.grow (putB (Go.Sort.ahead w n) b o') os):=by
 have s1:Step D β objs w D β objs (Go.Sort.ahead w n) :=
  { Step.refl (h.same (w':=Go.Sort.ahead w n) rfl) with size:=Nat.le_refl _,keep:=fun _ _ _=>rfl,os:=rfl,tape:=rfl,output:=⟨rfl,Nat.le_add_right _ _⟩ }
 have s2:=Step.put s1.heap hb ho hown hown' hD hnew;have s3:Step D β (objs.set i ob') (putB (Go.Sort.ahead w n) b o') D β (objs.set i ob') (Go.Sort.grow (putB (Go.Sort.ahead w n) b o') os) :=
  Step.ext s2.heap (fun k hk=>Go.Sort.heap_grow_old _ _ hk) (by simp) rfl rfl ⟨rfl,Nat.le_refl _⟩ (fun _ _ h=>h) (fun ad v h1 h2=>by rw [h2] at h1;cases h1)
 exact(s1.trans s2).trans s3
theorem sortA (L:List (List Nat)) (hR:∀ x ∈ L,Rt x) (hl:L.length<=100000):∃ L':List (List Nat),L'.Perm L/\L'.Pairwise (fun x y=>¬ cmpL y x<0) /\
  ∀ (objs:List Ob) (i:Nat),objs[i]?=some (vecL L)->ACall Try.prog 100 [.vs i 5 0 L.length,.d cmpF] objs (.tup []) (objs.set i (vecL L')):=by
 obtain⟨d,hd⟩:∃ d:List LkT,d.map (·.1)=L:=⟨L.attachWith Rt hR,by simp⟩
 have hds:d.length=L.length:=by rw [<- hd];simp
 refine⟨(d.mergeSort fun x y=>!ltOf cfL y x).map (·.1),?_,?_,fun objs i hi=>⟨enters_of Try.func100 (by kernel_rfl) rfl,fun D β w vs hp hr=>?_⟩⟩
 .rw [<- hd];exact(List.mergeSort_perm d _).map _
 .have:=List.pairwise_mergeSort (le:=fun x y=>!ltOf cfL y x) (fun a b c h1 h2=>by
   simp only [Bool.not_eq_true'] at h1 h2 |-;exact cfL_swo.ntrans _ _ _ h2 h1) (fun a b=>by
   cases h1:ltOf cfL b a with
   |false=>rfl
   |true =>
    cases h2:ltOf cfL a b with
    |false=>rfl
    |true=>have:=cfL_swo.trans _ _ _ h1 h2;rw [cfL_swo.irrefl] at this;cases this) d
  rw [List.pairwise_map];refine this.imp fun {a b} h=>?_;simp only [Bool.not_eq_true'] at h;exact of_decide_eq_false h
 .generalize hM:(d.mergeSort fun x y=>!ltOf cfL y x)=M
  have hMl:M.length=L.length:=by rw [<- hM,List.length_mergeSort];exact hds
  obtain⟨v0,v1,rfl,h0,h1⟩:∃ v0 v1,vs=#[v0,v1]/\RepA D β (.vs i 5 0 L.length) v0/\RepA D β (.d cmpF) v1:=by
   obtain⟨l⟩:=vs;obtain⟨h1,h2⟩:=hr
   match l,h1 with
   |[a,b],_=>exact⟨a,b,rfl,h2 0 _ a rfl rfl,h2 1 _ b rfl rfl⟩
  obtain rfl:v1=.func (.func 84) #[] #[]:=by
   cases h1 with
   |d h1 =>
    cases h1 with
    |@fn _ _ _ a b h1 h2 _ _ =>
     obtain rfl:a=#[]:=Array.size_eq_zero_iff.1 h1;obtain rfl:b=#[]:=Array.size_eq_zero_iff.1 h2
     rfl
  cases h0 with
  |@vs _ _ _ _ cap c bi a ad hb hh hc hm hn hx =>
   obtain⟨e1,e2⟩:=hx (.inl rfl);rcases Nat.eq_zero_or_pos L.length with hz|hz
   .have hL:L=[]:=List.length_eq_zero_iff.1 hz
    have hM0:M=[]:=List.length_eq_zero_iff.1 (by omega);have hset:objs.set i (vecL (M.map (·.1)))=objs:=by
     rw [hM0];refine List.ext_getElem? fun k=>?_;by_cases hk:i=k
     .subst hk
      rw [List.getElem?_set_self (List.getElem?_eq_some_iff.1 hi).1,hi,hL];rfl
     .rw [List.getElem?_set_ne hk]
    rw [hset,hz];refine(callsIn_wide (n:=0)).2 ((AnyF.slices_SortFunc_none { Try.sortLk with } ad c _ w).mono fun e w' he=>?_);obtain⟨rfl,rfl⟩:=he;exact .inl ⟨_,D,β,rfl,Step.refl hp,.tup rfl (fun j c v hc=>by simp at hc)⟩
   .obtain⟨a',cap',g1,g2,g3,g4,g5,g6⟩:=hp.hold i bi _ hb hi
    rw [hh] at g1;cases g1;cases a with
    |none=>have:=g5 rfl;omega
    |some a0 =>
     obtain⟨rfl,us,T,⟨k1,k2⟩,k3,k4,k5,k6⟩:=g6 a0 rfl;simp only [Option.map_some,Nat.zero_mul] at e1;subst e1;have hblk:bi.blk<w.heap.size:=(Array.getElem?_eq_some_iff.1 k1).1;have hsz:d.toArray.size=L.length:=by simpa using hds
     have hH:Go.Sort.HoldsK encL 5 w bi.blk 0 d.toArray:=by
      intro j hj;rw [Go.Sort.size_flatK,hsz] at hj;have hjd:j / 5<d.length:=by omega
      have hx:L[j / 5]?=some (d[j / 5]).1:=by rw [<- hd];simp [hjd]
      obtain⟨n,n1,n2⟩:=encL_get d[j / 5] (j % 5) (Nat.mod_lt _ (by decide));have hju:j<us.size:=by have:=Nat.mul_le_mul_right 5 g2;omega
      have hv:=k4 j (.d (nI n)) us[j] (by rw [List.getElem?_map,flat_at L j _ hx,n1];rfl) (by simp [hju]);rw [Go.Sort.get_flatK _ _ _ _ (by rw [hsz];exact hj)];have e3:d.toArray[j / 5]! = d[j / 5]:=by simp [hjd]
      rw [e3,n2];refine⟨?_,?_⟩
      .simp only [World.cell?,k1,Nat.zero_add]
       rw [show us[j]?=some us[j] by simp [hju]];generalize us[j]=u at hv |-;cases hv with
       |d hv=>cases hv;rfl
      .simp only [World.frozen?,k1];simp
     have eg:∀ args w,(callFunc 84 args).run Try.prog w=.ok (.enter 84 args) w:=enters_of Try.func84 (by kernel_rfl) rfl;have hcon:=AnyQ.slices_SortFunc_total Try.sortLk 5 Try.isAgg52 Try.sizeOf52 encL (fun _=>rfl) (fun x v hv=>by simp [encL] at hv;rcases hv with rfl|rfl|rfl|rfl|rfl<;>rfl) cfL cfL_swo 84 #[] bi.blk 0 c d.toArray w eg (cmpLaysK bi.blk 0 _ w) hH hblk (by omega) cfL_total;rw [hsz] at hcon;refine(callsIn_wide (n:=0)).2 (hcon.mono fun e w' he=>?_);obtain⟨rfl,n,os,rfl⟩:=he;refine .inl ⟨_,D,β,rfl,?_,.tup rfl (fun j c v hc=>by simp at hc)⟩;have hMt:(d.toArray.toList.mergeSort fun x y=>!ltOf cfL y x)=M:=by rw [<- hM]
     rw [hMt]
     show Step D β objs w D β _ (Go.Sort.grow (Go.Sort.putRowK encL 5 (Go.Sort.ahead w n) bi.blk 0 M.toArray) os)
     have hMs:M.toArray.size=L.length:=by simpa using hMl
     have hput:Go.Sort.putRowK encL 5 (Go.Sort.ahead w n) bi.blk 0 M.toArray=putB (Go.Sort.ahead w n) bi.blk (.cells (Go.Sort.putCells id 0 (Go.Sort.flatK encL 5 M.toArray) us) T (0,0)):=by
      unfold Go.Sort.putRowK Go.Sort.putRow Go.Sort.mapBlock putB
      congr 1
      refine Array.ext_getElem? fun k=>?_;rw [Array.getElem?_modify,Array.getElem?_setIfInBounds];have kw:(Go.Sort.ahead w n).heap=w.heap:=rfl;rw [kw];by_cases hk:bi.blk=k
      .subst hk
       rw [if_pos rfl,if_pos rfl,if_pos hblk,k1];rfl
      .rw [if_neg hk,if_neg hk]
     rw [hput];have own:∀ Q,ownOf bi (vecL Q)=some bi.blk:=fun Q=>by simp only [ownOf,hh,Option.bind_some,Option.map_some]
     have hflat:∀ j,j<L.length*5->∃ m,(flatD ((M.map (·.1)).map lk))[j]?=some (nI m)/\(Go.Sort.flatK encL 5 M.toArray)[j]! = vI m:=fun j hj=>by
      have hjd:j / 5<M.length:=by omega
      obtain⟨m,n1,n2⟩:=encL_get M[j / 5] (j % 5) (Nat.mod_lt _ (by decide));refine⟨m,?_,?_⟩
      .rw [flat_at (M.map (·.1)) j M[j / 5].1 (by simp [hjd]),n1]
      .rw [Go.Sort.get_flatK _ _ _ _ (by rw [hMs];exact hj)]
       have e3:M.toArray[j / 5]! = M[j / 5]:=by simp [hjd]
       rw [e3,n2]
     refine step_sorted hp hb hi (own L) (fun b' hb'=>by rw [own] at hb';cases hb';rfl) (fun ad had=>k6 ad had) n os ?_;refine⟨_,cap,hh,by simpa [hMl] using g2,g3,by rw [List.length_map,flat_len],g5,fun ad e=>?_⟩;cases e;have hus:(Go.Sort.putCells id 0 (Go.Sort.flatK encL 5 M.toArray) us).size=us.size:=by simp [Go.Sort.putCells]
     have hget:∀ j,(Go.Sort.putCells id 0 (Go.Sort.flatK encL 5 M.toArray) us)[j]?=us[j]?.map fun x=>if j<L.length*5 then(Go.Sort.flatK encL 5 M.toArray)[j]! else x:=fun j=>by
      simp only [Go.Sort.putCells,Array.getElem?_mapIdx,Go.Sort.size_flatK,hMs,Nat.zero_le,true_and,Nat.zero_add,Nat.sub_zero,id]
     refine⟨rfl,_,T,⟨putB_eq hblk,k2⟩,by rw [hus];exact k3,fun j c v hc hv=>?_,fun j v hv=>?_,k6⟩
     .rw [List.getElem?_map,Option.map_eq_some_iff] at hc
      obtain⟨c',hc',rfl⟩:=hc;have hj:j<L.length*5:=by
       have:=(List.getElem?_eq_some_iff.1 hc').1;rw [flat_len,List.length_map,hMl] at this;exact this
      obtain⟨m,m1,m2⟩:=hflat j hj;rw [m1] at hc';cases hc';rw [hget,Option.map_eq_some_iff] at hv;obtain⟨u,_,hv⟩:=hv;rw [if_pos hj,m2] at hv;subst hv;exact .d .int
     .rw [hget,Option.map_eq_some_iff] at hv
      obtain⟨u,hu,hv⟩:=hv;by_cases hj:j<L.length*5
      .obtain⟨m,m1,m2⟩:=hflat j hj
       rw [if_pos hj,m2] at hv;subst hv;rfl
      .rw [if_neg hj] at hv
       subst hv;exact k5 j u hu
theorem sortNil:KnownCall Try.prog 100 [.nilsl,cmpF] (.tup []):=by
 intro o;refine⟨enters_of Try.func100 (by kernel_rfl) rfl,fun D β w vs hp hr=>?_⟩;obtain⟨v0,v1,rfl,h0⟩:∃ v0 v1,vs=#[v0,v1]/\RepA D β (.d .nilsl) v0:=by
  obtain⟨l⟩:=vs;obtain⟨h1,h2⟩:=hr
  match l,h1 with
  |[a,b],_=>exact⟨a,b,rfl,h2 0 _ a rfl rfl⟩
 cases h0 with
 |d h0 =>
  cases h0;refine(callsIn_wide (n:=0)).2 ((AnyF.slices_SortFunc_none { Try.sortLk with } none 0 v1 w).mono fun e w' he=>?_);obtain⟨rfl,rfl⟩:=he;exact .inl ⟨_,D,β,rfl,Step.refl hp,.tup rfl (fun j c v hc=>by simp at hc)⟩
theorem chunk5:∀ (L:List (List Nat)),chunk true 5 L.length (flatD (L.map lk))=L.map lk
 |[]=>rfl
 |x :: L=>by
  have e:flatD ((x :: L).map lk)=lkC x++flatD (L.map lk):=by simp [flatD,cellsD]
  rw [e]
  show elemA true 5 (lkC x++flatD (L.map lk)) :: chunk true 5 L.length ((lkC x++flatD (L.map lk)).drop 5)=_
  rw [show(lkC x++flatD (L.map lk)).drop 5=flatD (L.map lk) from rfl,chunk5 L]
  rfl
theorem allM_d (objs:List Ob) (k:Nat):∀ l:List DV,allM (dvOf objs k) (l.map AV.d)=some l
 |[]=>rfl
 |x :: l=>by simp only [List.map_cons,allM,allM_d objs k l,dvOf]
theorem close_vec {objs:List Ob} {i:Nat} {L:List (List Nat)} (h:objs[i]?=some (vecL L)):closeA objs 8 (.vs i 5 0 L.length)=some (.d (lks L)):=by
 have e:List.take (L.length*5) (List.drop (0*5) ((flatD (L.map lk)).map AV.d))=(flatD (L.map lk)).map AV.d:=by
  rw [Nat.zero_mul,List.drop_zero];exact List.take_of_length_le (by rw [List.length_map,flat_len];exact Nat.le_refl _)
 have h1:(Nat.beq 5 5 && Nat.ble (0+L.length) L.length && Nat.ble 1 5 && (true || Nat.beq 5 1))=true:=by
  rw [Nat.zero_add,Nat.ble_eq_true_of_le (Nat.le_refl L.length)];rfl
 have h2:dvOf objs 8 (.vs i 5 0 L.length)=some (lks L):=by
  simp only [dvOf,h];rw [if_pos h1,e,allM_d,Option.map_some,chunk5]
 simp only [closeA,h2,Option.map_some]
section
variable {E:PT Ty} {H:Hd} {frz:List Nat} {rd:Operand->AV} {objs:List Ob} {o:Oper} {t kt et:TypeId} {y:Ty} {yt:Ty} {m k st v:Operand} {i j:Nat} {kk d z:DV} {kvs:List (DV × DV)} {r:Option (Nat × DV)}
theorem evK_lookup (hop:o.op=.lookup t m k false) (h1:E.get? t=some yt) (h2:yt.desc=.map kt et) (h3:E.get? et=some y) (hkt:keyT E kt kk=true) (hm:rd m=.mp i) (hi:objs[i]?=some (.map kvs)) (hk:rd k=.d kk)
  (hf:findKV (eqKey E kt) kk kvs=some r) (hz:zeroD y=some z):evAny E H frz rd objs o=some (.d (match r with|some p=>p.2|none=>z),none,true):=by
 obtain⟨dst,op,ty,pos,after,guard⟩:=o;obtain⟨desc,size,bytes,zero⟩:=yt;simp only at hop h2;subst hop h2;simp only [evAny,quiet,evOp,lookupR,h1,hk,h3,hkt,kvsOf,hm,hi,hf];cases r with
 |none=>simp only [hz,pureR,Option.map_some]
 |some p=>obtain⟨j,v⟩:=p;simp only [pureR,Option.map_some]
theorem evK_lookupOp (h1:E.get? t=some yt) (h2:yt.desc=.map kt et) (h3:E.get? et=some y) (hkt:keyT E kt kk=true) (hm:rd m=.mp i) (hi:objs[i]?=some (.map kvs)) (hk:rd k=.d kk)
  (hf:findKV (eqKey E kt) kk kvs=some r) (hz:zeroD y=some z):evOp E rd objs (.lookup t m k false)=some (.d (r.elim z (·.2)),objs,true):=by
 obtain⟨desc,size,bytes,zero⟩:=yt;simp only at h2;subst h2;simp only [evOp,lookupR,h1,hk,h3,hkt,kvsOf,hm,hi,hf];cases r with
 |none=>simp only [hz,pureR,Option.elim]
 |some p=>obtain⟨j,v⟩:=p;simp only [pureR,Option.elim]
theorem evK_entry (hop:o.op=.mapEntry t m k) (h1:E.get? t=some yt) (h2:yt.desc=.map kt et) (h3:E.get? et=some y) (hkt:keyT E kt kk=true) (hm:rd m=.mp i) (hi:objs[i]?=some (.map kvs)) (hk:rd k=.d kk)
  (hf:findKV (eqKey E kt) kk kvs=some (some (j,d))):evAny E H frz rd objs o=some (.tup [.d d,.d (.int .i64 (j:Nat))],some (objs.set i (.map kvs)),true):=by
 obtain⟨dst,op,ty,pos,after,guard⟩:=o;obtain⟨desc,size,bytes,zero⟩:=yt;simp only at hop h2;subst hop h2;simp only [evAny,quiet,evOp,mapEntryR,h1,hk,h3,hkt,hm,hi,hf,pureR,Option.map_some]
theorem evK_entryNew (hop:o.op=.mapEntry t m k) (h1:E.get? t=some yt) (h2:yt.desc=.map kt et) (h3:E.get? et=some y) (hkt:keyT E kt kk=true) (hm:rd m=.mp i) (hi:objs[i]?=some (.map kvs)) (hk:rd k=.d kk)
  (hf:findKV (eqKey E kt) kk kvs=some none) (hz:zeroD y=some z):evAny E H frz rd objs o=some (.tup [.d z,.d (.int .i64 (kvs.length:Nat))],some (objs.set i (.map (kvs++[(kk,z)]))),true):=by
 obtain⟨dst,op,ty,pos,after,guard⟩:=o;obtain⟨desc,size,bytes,zero⟩:=yt;simp only at hop h2;subst hop h2;simp only [evAny,quiet,evOp,mapEntryR,h1,hk,h3,hkt,hm,hi,hf,hz,pureR,Option.map_some]
theorem evK_store (hop:o.op=.entryStore t m st v) (hm:rd m=.mp i) (hi:objs[i]?=some (.map kvs)) (hs:rd st=.d (.int .i64 (j:Nat))) (hv:rd v=.d d) (hj:j<kvs.length) :
  evAny E H frz rd objs o=some (.d .any,some (objs.set i (.map (kvs.modify j fun p=>(p.1,d)))),true):=by
 obtain⟨dst,op,ty,pos,after,guard⟩:=o;simp only at hop;subst hop;have hb:inB (j:Int) kvs.length=true:=by simp only [inB,Bool.and_eq_true,decide_eq_true_eq];omega
 simp only [evAny,quiet,evOp,entryStoreR,hm,hs,hv,hi,hb,Int.toNat_natCast,Option.map_some]
end
abbrev CM:=List (List Nat × Nat)
abbrev kvM (M:CM):List (DV × DV):=M.map fun p=>(lk p.1,nI p.2)
theorem eqKeyL (x y:List Nat) (hx:x.length<=4):eqKey Et 52 (lk x) (lk y)=some (decide (x=y)):=by
 have e1:eqAgg Et 52 (lkC x) (lkC y)=some (((x.length:Int) == (y.length:Int)) && ((((x.getD 0 0:Nat):Int) == ((y.getD 0 0:Nat):Int)) && ((((x.getD 1 0:Nat):Int) == ((y.getD 1 0:Nat):Int)) && ((((x.getD 2 0:Nat):Int) == ((y.getD 2 0:Nat):Int)) && ((((x.getD 3 0:Nat):Int) == ((y.getD 3 0:Nat):Int)) && true))) && true)):=rfl;have e2:eqCells (lkC x) (lkC y)=some (((x.length:Int) == (y.length:Int)) && ((((x.getD 0 0:Nat):Int) == ((y.getD 0 0:Nat):Int)) && ((((x.getD 1 0:Nat):Int) == ((y.getD 1 0:Nat):Int)) && ((((x.getD 2 0:Nat):Int) == ((y.getD 2 0:Nat):Int)) && ((((x.getD 3 0:Nat):Int) == ((y.getD 3 0:Nat):Int)) && true))))):=rfl
 show(match eqAgg Et 52 (lkC x) (lkC y),eqCells (lkC x) (lkC y) with
  |some true,some true=>some true
  |some false,some false=>some false
  |_,_=>none)=_
 rw [e1,e2];clear e1 e2;by_cases h:x=y
 .subst h;simp
 .have hb:∀ b:Bool,(b=true->x=y)->b=false:=fun b hb=>by
   cases b with
   |false=>rfl
   |true=>exact absurd (hb rfl) h
  generalize hB1:(((x.length:Int) == (y.length:Int)) && ((((x.getD 0 0:Nat):Int) == ((y.getD 0 0:Nat):Int)) && ((((x.getD 1 0:Nat):Int) == ((y.getD 1 0:Nat):Int)) && ((((x.getD 2 0:Nat):Int) == ((y.getD 2 0:Nat):Int)) && ((((x.getD 3 0:Nat):Int) == ((y.getD 3 0:Nat):Int)) && true))) && true))=B1;generalize hB2:(((x.length:Int) == (y.length:Int)) && ((((x.getD 0 0:Nat):Int) == ((y.getD 0 0:Nat):Int)) && ((((x.getD 1 0:Nat):Int) == ((y.getD 1 0:Nat):Int)) && ((((x.getD 2 0:Nat):Int) == ((y.getD 2 0:Nat):Int)) && ((((x.getD 3 0:Nat):Int) == ((y.getD 3 0:Nat):Int)) && true)))))=B2;obtain rfl:B1=false:=hb _ fun he=>by
   rw [he] at hB1;simp only [Bool.and_eq_true,beq_iff_eq] at hB1;exact lk_inj hx (by omega) (by omega) (by omega) (by omega) (by omega)
  obtain rfl:B2=false:=hb _ fun he=>by
   rw [he] at hB2;simp only [Bool.and_eq_true,beq_iff_eq] at hB2;exact lk_inj hx (by omega) (by omega) (by omega) (by omega) (by omega)
  simp [h]
theorem keyTL (x:List Nat):keyT Et 52 (lk x)=true:=rfl
theorem findM_none {x:List Nat} (hx:x.length<=4):∀ {M:CM},x ∉ M.map (·.1)->findKV (eqKey Et 52) (lk x) (kvM M)=some none
 |[],_=>rfl
 |p :: M,h=>by
  simp only [List.map_cons,List.mem_cons,not_or] at h;simp only [kvM,List.map_cons,findKV,eqKeyL x p.1 hx,decide_eq_false h.1];have:=findM_none hx h.2;simp only [kvM] at this;rw [this];rfl
theorem findM_at {x:List Nat} (hx:x.length<=4) {c:Nat} {R:CM}:∀ {A:CM},x ∉ A.map (·.1)->findKV (eqKey Et 52) (lk x) (kvM (A++(x,c) :: R))=some (some (A.length,nI c))
 |[],_=>by
  simp only [kvM,List.nil_append,List.map_cons,findKV,eqKeyL x x hx,decide_eq_true,List.length_nil]
 |p :: A,h=>by
  simp only [List.map_cons,List.mem_cons,not_or] at h;simp only [kvM,List.cons_append,List.map_cons,findKV,eqKeyL x p.1 hx,decide_eq_false h.1];have:=findM_at hx (c:=c) (R:=R) h.2;simp only [kvM] at this;rw [this];rfl
def incM:CM->List Nat->CM
 |[],x=>[(x,1)]
 |p :: M,x=>if p.1=x then(p.1,p.2+1) :: M else p :: incM M x
theorem incM_new {x:List Nat}:∀ {M:CM},x ∉ M.map (·.1)->incM M x=M++[(x,1)]
 |[],_=>rfl
 |p :: M,h=>by
  simp only [List.map_cons,List.mem_cons,not_or] at h;rw [incM,if_neg (fun e=>h.1 e.symm),incM_new h.2];rfl
theorem incM_at {x:List Nat} {c:Nat} {R:CM}:∀ {A:CM},x ∉ A.map (·.1)->incM (A++(x,c) :: R) x=A++(x,c+1) :: R
 |[],_=>by simp [incM]
 |p :: A,h=>by
  simp only [List.map_cons,List.mem_cons,not_or] at h;rw [List.cons_append,incM,if_neg (fun e=>h.1 e.symm),incM_at h.2];rfl
theorem split_key {x:List Nat}:∀ {M:CM},x ∈ M.map (·.1)->∃ A c R,M=A++(x,c) :: R/\x ∉ A.map (·.1)
 |[],h=>by simp at h
 |p :: M,h=>by
  by_cases e:p.1=x
  .exact⟨[],p.2,M,by rw [<- e];rfl,by simp⟩
  .simp only [List.map_cons,List.mem_cons] at h
   obtain⟨A,c,R,h1,h2⟩:=split_key (h.resolve_left (fun h=>e h.symm));exact⟨p :: A,c,R,by rw [h1];rfl,by simp only [List.map_cons,List.mem_cons,not_or];exact⟨fun h=>e h.symm,h2⟩⟩
def cntM (L:List (List Nat)):CM:=L.foldl incM []
theorem cntM_succ {L:List (List Nat)} {k:Nat} {x:List Nat} (h:L[k]?=some x):cntM (L.take (k+1))=incM (cntM (L.take k)) x:=by
 unfold cntM;rw [List.take_add_one,h,List.foldl_append];rfl
def dst (L:List (List Nat)):List (List Nat):=(cntM L).map (·.1)
theorem incM_keys {M:CM} {x:List Nat}:(incM M x).map (·.1)=if x ∈ M.map (·.1) then M.map (·.1) else M.map (·.1)++[x]:=by
 by_cases h:x ∈ M.map (·.1)
 .obtain⟨A,c,R,rfl,h2⟩:=split_key h
  rw [if_pos h,incM_at h2];simp
 .rw [if_neg h,incM_new h];simp
theorem dst_succ {L:List (List Nat)} {k:Nat} {x:List Nat} (h:L[k]?=some x):dst (L.take (k+1))=if x ∈ dst (L.take k) then dst (L.take k) else dst (L.take k)++[x]:=by
 unfold dst;rw [cntM_succ h];exact incM_keys
theorem incM_pos {M:CM} {x:List Nat} (h:∀ p ∈ M,1<=p.2):∀ p ∈ incM M x,1<=p.2:=by
 by_cases hx:x ∈ M.map (·.1)
 .obtain⟨A,c,R,rfl,h2⟩:=split_key hx
  rw [incM_at h2];intro p hp;simp only [List.mem_append,List.mem_cons] at hp;rcases hp with hp|rfl|hp
  .exact h p (by simp [hp])
  .simp
  .exact h p (by simp [hp])
 .rw [incM_new hx]
  intro p hp;simp only [List.mem_append,List.mem_cons,List.not_mem_nil,or_false] at hp;rcases hp with hp|rfl
  .exact h p hp
  .simp
theorem cntM_inv (L:List (List Nat)):∀ k,k<=L.length->(∀ p ∈ cntM (L.take k),1<=p.2/\p.2<=k)/\(dst (L.take k)).Nodup/\(dst (L.take k)).length<=k/\∀ x,x ∈ dst (L.take k) ↔ x ∈ L.take k
 |0,_=>by simp [cntM,dst]
 |k+1,hk=>by
  obtain⟨h1,h2,h3,h4⟩:=cntM_inv L k (by omega);obtain⟨x,hx⟩:=get_ok (show k<L.length by omega);rw [dst_succ hx,cntM_succ hx];have ht:L.take (k+1)=L.take k++[x]:=by rw [List.take_add_one,hx];rfl
  refine⟨?_,?_,?_,fun y=>?_⟩
  .intro p hp
   refine⟨incM_pos (fun p hp=>(h1 p hp).1) p hp,?_⟩;by_cases hm:x ∈ (cntM (L.take k)).map (·.1)
   .obtain⟨A,c,R,e,e2⟩:=split_key hm
    rw [e,incM_at e2] at hp;simp only [List.mem_append,List.mem_cons] at hp;rcases hp with hp|rfl|hp
    .have:=(h1 p (by rw [e];simp [hp])).2;omega
    .have:=(h1 (x,c) (by rw [e];simp)).2;simp only at this |-;omega
    .have:=(h1 p (by rw [e];simp [hp])).2;omega
   .rw [incM_new hm] at hp
    simp only [List.mem_append,List.mem_cons,List.not_mem_nil,or_false] at hp;rcases hp with hp|rfl
    .have:=(h1 p hp).2;omega
    .simp
  .by_cases hm:x ∈ dst (L.take k)
   .rw [if_pos hm];exact h2
   .rw [if_neg hm,List.nodup_append]
    exact⟨h2,by simp,fun a ha b hb=>by simp at hb;subst hb;exact fun e=>hm (e ▸ ha)⟩
  .by_cases hm:x ∈ dst (L.take k)
   .rw [if_pos hm];omega
   .rw [if_neg hm,List.length_append];simp;omega
  .rw [ht]
   by_cases hm:x ∈ dst (L.take k)
   .rw [if_pos hm,h4]
    simp only [List.mem_append,List.mem_cons,List.not_mem_nil,or_false];refine⟨.inl,fun h=>h.elim id fun e=>?_⟩;subst e;exact(h4 _).1 hm
   .rw [if_neg hm]
    simp only [List.mem_append,h4]
theorem Run.rangeIt {nt m:Nat} {frz:List Nat} {K:Ex->S->Prop} {tm:PT AV} {dl:List Dl} {f:Operand} {qs:Array Tmp} {assign body:Code} (L:Nat) (Bs Xs:Nat->List Ob) {F:DV} {E:List (List Nat)} (hit:IterOK F E)
  (hf:rd tm f=.d F) (hX0:Xs 0=[]) (hBL:∀ k,(Bs k).length=L) (hBr:∀ k,(Bs k).all (refOb (L+2+(Xs k).length))=true) (hXr:∀ k,(Xs k).all (refOb (L+2+(Xs k).length))=true) (hT:∀ n,ptAll (refA 8 (L+2+n)) tm=true)
  (hround:∀ k x,E[k]?=some x->AYield Try.prog (L+1) [.d (lk x)] (rangeObs (Bs k) tm nt frz qs assign body .ready none++Xs k) (.d (.bool true)) (rangeObs (Bs (k+1)) tm nt frz qs assign body .ready none++Xs (k+1)))
  (hend:K .normal ⟨tm,rangeObs (Bs E.length) tm nt frz qs assign body .exhausted none++Xs E.length,.mark L :: dl⟩) :
  Run Try.prog nt m none (.rangeFunc f qs assign body) ⟨tm,Bs 0,dl⟩ K:=by
 obtain⟨g,a,b,rfl,hA0⟩:=hit;have hlen:∀ k,(rangeObs (Bs k) tm nt frz qs assign body .ready none++Xs k).length=L+2+(Xs k).length:=fun k=>by simp [rangeObs,hBL k];omega
 have hrefs:∀ k,(rangeObs (Bs k) tm nt frz qs assign body .ready none++Xs k).all (refOb (rangeObs (Bs k) tm nt frz qs assign body .ready none++Xs k).length)=true:=fun k=>by
  rw [hlen k];simp only [rangeObs,List.all_append,hBr k,hXr k,Bool.true_and,List.all_cons,List.all_nil,Bool.and_true];simp only [refOb,hT,Bool.and_self]
 have hget:∀ k,(rangeObs (Bs k) tm nt frz qs assign body .ready none++Xs k)[L+1]?=some (.loop tm nt frz qs assign body .ready none):=fun k=>by
  have:=hBL k;subst this;simp [rangeObs]
 have hset:∀ k,(rangeObs (Bs k) tm nt frz qs assign body .ready none++Xs k).set (L+1) (.loop tm nt frz qs assign body .exhausted none)=rangeObs (Bs k) tm nt frz qs assign body .exhausted none++Xs k:=fun k=>by
  have:=hBL k;subst this;rw [List.set_append_left _ _ (by simp [rangeObs])]
  congr 1
  unfold rangeObs;rw [List.set_append_right _ _ (by simp)]
  simp
 have hm:Try.prog.follows .mixedOrders=true:=by kernel_rfl
 have hA:=hA0 (L+1) (fun k=>rangeObs (Bs k) tm nt frz qs assign body .ready none++Xs k) (fun k=>by rw [hlen k];omega) (fun k=>by rw [hlen 0,hlen k,hX0];simp) hrefs hround;simp only [hX0,List.append_nil] at hA;rw [<- hBL 0] at hA;have:=Run.range (m:=m) (s:=⟨tm,Bs 0,dl⟩) (K:=K) Yo hm hf hA rfl (by rw [hBL 0];exact hget _) (by simp) (by
  simp only [hBL 0];rw [hset];exact hend)
 exact this
def outV:List (List Nat)->AV
 |[]=>.d .nilsl
 |_ :: r=>.vs (r.length+5) 5 0 (r.length+1)
def outX:List (List Nat)->List Ob
 |[]=>[]
 |x :: r=>List.replicate r.length .gone++[vecL (x :: r)]
theorem outX_len:∀ D,(outX D).length=D.length
 |[]=>rfl
 |x :: r=>by simp [outX]
abbrev srB (M:CM):List Ob:=[.map (kvM M),.box [.mp 0],.box [outV (M.map (·.1))]]
theorem ref_vec (D:List (List Nat)) (n:Nat):refOb n (vecL D)=true:=by
 simp only [refOb,List.all_map,List.all_eq_true];intro x _;rfl
theorem outX_ref (n:Nat):∀ D,(outX D).all (refOb n)=true
 |[]=>rfl
 |x :: r=>by
  simp only [outX,List.all_append,List.all_cons,List.all_nil,ref_vec,Bool.and_true,List.all_eq_true];intro o ho;rw [(List.mem_replicate.1 ho).2];rfl
theorem srB_ref (M:CM):(srB M).all (refOb (3+2+(outX (M.map (·.1))).length))=true:=by
 cases M with
 |nil=>rfl
 |cons p M =>
  simp only [List.all_cons,List.all_nil,Bool.and_true];rw [outX_len];have h:refOb (3+2+((p :: M).map (·.1)).length) (.box [outV ((p :: M).map (·.1))])=true:=by
   simp only [List.map_cons,outV,refOb,refA,List.all_cons,List.all_nil,Bool.and_true,List.length_cons,List.length_map];rw [Nat.blt_eq];omega
  rw [h];rfl
section
variable {frz:List Nat} {rd:Operand->AV} {objs:List Ob} {o:Oper}
theorem evAny_appV {args:Array Operand} {tys:Array TypeId} {a b:Operand} {x:List Nat} {i:Nat} {D:List (List Nat)} (hop:o.op=.call ⟨.builtin .append,args,tys⟩) (ha:args.toList=[a,b]) (ht:tys.toList=[24,24]) (hv:hintV o.dst frz=true)
  (hb:rd b=.d (.sl 5 [lk x])) (h7:rd a=.vs i 5 0 D.length) (h8:objs[i]?=some (vecL D)) (hlen:D.length<=16777215) :
  evAny Et H0 frz rd objs o=some (.vs objs.length 5 0 (D.length+1),some (objs.set i .gone++[vecL (D++[x])]),true):=by
 obtain⟨dst,op,ty,pos,after,guard⟩:=o;simp only at hop hv;subst hop;have hs:appSrc0 Et 52 24 (.d (.sl 5 [lk x])) objs=some (5,[lk x]):=rfl;have e1:Et.get? 24=some ty24:=rfl;have e2:Et.get? 52=some ty52:=rfl;have hf:flatD ((D++[x]).map lk)=flatD (D.map lk)++flatD [lk x]:=by simp [flatD]
 have ht2:List.take (D.length*5) ((flatD (D.map lk)).map AV.d)=(flatD (D.map lk)).map AV.d:=List.take_of_length_le (by rw [List.length_map,flat_len];exact Nat.le_refl _);have hm:Nat.ble ((D.length+1)*ty52.bytes) 1099511627776=true:=Nat.ble_eq_true_of_le (Nat.le_trans (Nat.mul_le_mul (show D.length+1<=16777216 by omega) (Nat.le_refl _)) (by decide));have hn:Nat.ble D.length D.length=true:=Nat.ble_eq_true_of_le (Nat.le_refl _);simp only [evAny,ha,ht,hv,hb,h7,appendR,e1]
 show Option.map _ (match some ty52,appSrc0 Et 52 24 (.d (.sl 5 [lk x])) objs with
  |some z,some (szx,ys)=>_
  |_,_=>none)=_
 rw [hs];simp only [h8];rw [if_pos (by rfl),if_pos (by rfl)];have e3:(List.take (D.length*5) ((flatD (D.map lk)).map AV.d)++(flatD [lk x]).map AV.d)=(flatD ((D++[x]).map lk)).map AV.d:=by rw [ht2,hf,List.map_append]
 have e4:(D++[x]).length=D.length+1:=by simp
 have e5:vecL (D++[x])=.vec 52 true 5 (D.length+1) (List.take (D.length*5) ((flatD (D.map lk)).map AV.d)++(flatD [lk x]).map AV.d):=by rw [e3,vecL,e4]
 rw [e5];simp only [Option.map_some,List.length_cons,List.length_nil,Nat.zero_add,hn,hm,Bool.and_self]
end
theorem get_vec (a b c d e:Ob) (x:List Nat) (r:List (List Nat)):([a,b,c]++[d,e]++outX (x :: r))[r.length+5]?=some (vecL (x :: r)):=by
 show(outX (x :: r))[r.length]?=_
 rw [outX,List.getElem?_append_right (by simp)];simp
theorem set_vec (a b c d e:Ob) (x y:List Nat) (r:List (List Nat)):([a,b,c]++[d,e]++outX (x :: r)).set (r.length+5) .gone++[vecL (x :: (r++[y]))]=[a,b,c]++[d,e]++outX (x :: (r++[y])):=by
 show a :: b :: c :: d :: e :: ((outX (x :: r)).set r.length .gone++[vecL (x :: (r++[y]))])=a :: b :: c :: d :: e :: outX (x :: (r++[y]))
 congr 5
 rw [outX,outX,List.set_append_right _ _ (by simp)];simp only [List.length_replicate,Nat.sub_self,List.set_cons_zero,List.length_append,List.length_cons,List.length_nil,List.replicate_succ',List.append_assoc]
theorem mod_at {x:List Nat} {c d:Nat} {R:CM}:∀ A:CM,(kvM (A++(x,c) :: R)).modify A.length (fun p=>(p.1,nI d))=kvM (A++(x,d) :: R)
 |[]=>by simp [kvM]
 |p :: A=>by
  have:=mod_at (x:=x) (c:=c) (d:=d) (R:=R) A;simp only [kvM,List.cons_append,List.map_cons,List.length_cons,List.modify_succ_cons] at this |-;rw [this]
set_option maxHeartbeats 2000000 in
theorem sortedK (F:DV) (E:List (List Nat)) (hit:IterOK F E) (hR:∀ x ∈ E,Rt x) (hl:E.length<=100000):∃ L':List (List Nat),L'.Perm (dst E)/\L'.Pairwise (fun x y=>¬ cmpL y x<0)/\KnownCall Try.prog 73 [F] (.d (lks L')):=by
 have w:Fz [21,65558]:=trivial;have hinv:=cntM_inv E;have hfin:=hinv E.length (Nat.le_refl _);rw [List.take_length] at hfin;obtain⟨L',hp,hs,hA⟩:=sortA (dst E) (fun x hx=>hR x ((hfin.2.2.2 x).1 hx)) (by omega);refine⟨L',hp,hs,?_⟩;have hLl:L'.length=(dst E).length:=hp.length_eq;have w:Fz [21,65558]:=trivial;refine knownE2 Yo (fnB Try.func73 [21,65558]) ?_
 repeat' (first|refine zW ?_|refine zB ?_ ?_<;>intro h<;>try exact zk h|refine zX ?_|(refine Yt ?_;refine r2 ?_;first|done|(skip))|fail)
 refine Run.tidy (s':=⟨PT.ofList [(3,.bp 1 0),(4,.bp 2 0),(7,.d F)],[.map [],.box [.mp 0],.box [.d .nilsl]],[]⟩) (ti _ 3) ?_;refine Run.rangeIt (frz:=[21,65558]) 3 (fun k=>srB (cntM (E.take k))) (fun k=>outX (dst (E.take k))) hit rfl rfl (fun _=>rfl) (fun k=>srB_ref _) (fun k=>outX_ref _ _) (fun n=>by rw [show 3+2+n=n+5 by omega];rfl) (fun k x hx=>?_) ?_
 .have hk:=(List.getElem?_eq_some_iff.1 hx).1
  obtain⟨i1,i2,i3,i4⟩:=hinv k (by omega);have hxR:=(hR x (List.mem_of_getElem? hx)).len;have e1:=cntM_succ hx;have e2:=dst_succ hx;rw [e1,e2];unfold dst at *;generalize cntM (E.take k)=M at *;refine ayield_box (L:=3) (lkC x) [(3,.bp 1 0),(4,.bp 2 0),(5,.d (.ep (lkC x)))] rfl rfl rfl rfl (srB_ref _) (outX_ref _ _) (by rw [show 3+2+(outX (M.map (·.1))).length=(outX (M.map (·.1))).length+5 by omega];rfl) ⟨by simp [refA];omega,by simp [refA];omega,rfl,trivial⟩ ?_ (fun a b ha hb=>?_)
  .repeat' (first|refine zW ?_|refine zB ?_ ?_<;>intro h<;>try exact zk h|refine zX ?_|refine oV ?_ (hv:=evAny_store_last)|(refine Yt ?_;refine r2 ?_;first|done|(skip))|(fail)|fail)
   exact⟨rfl,_,rfl,ofList_cases (by intro q hq;simp only [List.mem_cons,List.not_mem_nil,or_false] at hq;rcases hq with rfl|rfl|rfl;exact .inl (by kernel_rfl);exact .inl (by kernel_rfl);exact .inr ⟨0,Nat.zero_le _,by kernel_rfl,rfl⟩)⟩
  .by_cases hm:x ∈ M.map (·.1)
   .obtain⟨A,c,R,rfl,hxA⟩:=split_key hm
    have hc:=i1 (x,c) (by simp);simp only at hc;rw [if_pos hm,incM_at hxA];have f1:=findM_at hxR (c:=c) (R:=R) hxA;have f2:=findM_at hxR (c:=c+1) (R:=R) hxA;have hmo:=mod_at (x:=x) (c:=c) (d:=c+1) (R:=R) A;have hAl:A.length<(kvM (A++(x,c) :: R)).length:=by simp [kvM]
    have hw:AV.d (.int .i64 (IntKind.i64.wrap ((c:Int)+1)))=.d (nI (c+1)):=by
     congr 2
     have:=wrap_nat (n:=c+1) (by omega);rw [<- this];congr 1
    have hkeys:(A++(x,c+1) :: R).map (·.1)=(A++(x,c) :: R).map (·.1):=by simp
    have hne:AV.d (.bool (((c+1:Nat):Int) == 1))=.d (.bool false):=by
     have:(((c+1:Nat):Int) == 1)=false:=by simp;omega
     rw [this]
    rw [show srB (A++(x,c+1) :: R)=[.map (kvM (A++(x,c+1) :: R)),.box [.mp 0],.box [outV ((A++(x,c) :: R).map (·.1))]] by rw [srB,hkeys],show srB (A++(x,c) :: R)=[.map (kvM (A++(x,c) :: R)),.box [.mp 0],.box [outV ((A++(x,c) :: R).map (·.1))]] from rfl];generalize (A++(x,c) :: R).map (·.1)=D at *;have cf:∀ (B:CM) (c:Nat) (rd:Operand->AV) (X:List Ob),rd (.tmp 9)=.mp 0->rd (.tmp 10)=.d (lk x)->findKV (eqKey Et 52) (lk x) (kvM B)=some (some (A.length,nI c))->evOp Et rd (.map (kvM B) :: X) (.lookup 134 (.tmp 9) (.tmp 10) false)=some (.d (nI c),.map (kvM B) :: X,true):=fun B c rd X h1 h2 h3 =>
     evK_lookupOp (by rfl) (by rfl) (by rfl) (keyTL x) h1 (by rfl) h2 h3 (by rfl)
    repeat refine zS ?_
    refine Run.drawC (frz:=[21,65558]) Yo (by kernel_rfl) [(2,4)] ?_;iterate 2 refine cX ?_
    refine cX (v:=.d (nI c)) ?_ (hv:=evK_lookup (by rfl) (by rfl) (by rfl) (by rfl) (keyTL x) (by rfl) (by rfl) (by rfl) f1 (by rfl));refine cX (v:=.d (nI (c+1))) ?_ (he:=hw);refine cX (objs':=[.map (kvM (A++(x,c) :: R)),.box [.mp 0],.box [outV D]]++[a,b]++outX D) ?_ (hv:=evK_entry (by rfl) (by rfl) (by rfl) (by rfl) (keyTL x) (by rfl) (by rfl) (by rfl) f1) (ho:=rfl);refine cX ?_;refine cX (objs':=[.map (kvM (A++(x,c+1) :: R)),.box [.mp 0],.box [outV D]]++[a,b]++outX D) ?_ (hv:=evK_store (by rfl) (by rfl) (by rfl) (by rfl) (by rfl) hAl) (ho:=by rw [hmo];rfl);refine EvC.nil ⟨by kernel_rfl,⟨⟨_,_,_,_,_,_,_,rfl,rfl,rfl,rfl,cf _ _ _ _ rfl rfl f1,cf _ _ _ _ rfl rfl f1⟩,trivial⟩,?_⟩
    repeat refine zS ?_
    iterate 2 refine zX ?_
    refine oV (v:=.d (nI (c+1))) ?_ (hv:=evK_lookup (by rfl) (by rfl) (by rfl) (by rfl) (keyTL x) (by rfl) (by rfl) (by rfl) f2 (by rfl));refine zV hne ?_
    repeat' (first|refine zW ?_|refine zB ?_ ?_<;>intro h<;>try exact zk h|refine zX ?_|(refine Yt ?_;refine r2 ?_;first|done|(skip))|(fail)|fail)
    exact⟨rfl,rfl⟩
   .rw [if_neg hm,incM_new hm]
    have f0:=findM_none hxR hm;have f1:=findM_at hxR (c:=0) (R:=[]) hm;have f2:=findM_at hxR (c:=1) (R:=[]) hm;have hap:kvM M++[(lk x,nI 0)]=kvM (M++[(x,0)]):=by simp [kvM]
    have hmo:(kvM (M++[(x,0)])).modify (kvM M).length (fun p=>(p.1,nI 1))=kvM (M++[(x,1)]):=by
     have:=mod_at (x:=x) (c:=0) (d:=1) (R:=[]) M
     rwa [show M.length=(kvM M).length by simp [kvM]] at this
    have hAl:(kvM M).length<(kvM (M++[(x,0)])).length:=by simp [kvM]
    have hkeys:((M++[(x,1)]:CM)).map (·.1)=M.map (·.1)++[x]:=by simp
    rw [show srB (M++[(x,1)])=[.map (kvM (M++[(x,1)])),.box [.mp 0],.box [outV (M.map (·.1)++[x])]] by rw [srB,hkeys],show srB M=[.map (kvM M),.box [.mp 0],.box [outV (M.map (·.1))]] from rfl];have hDk:(M.map (·.1)).length<=100000:=by omega
    generalize M.map (·.1)=D at *;have cf:∀ (kvs:List (DV × DV)) (r:Option (Nat × DV)) (v:DV) (rd:Operand->AV) (X:List Ob),rd (.tmp 9)=.mp 0->rd (.tmp 10)=.d (lk x)->findKV (eqKey Et 52) (lk x) kvs=some r->r.elim (nI 0) (·.2)=v->evOp Et rd (.map kvs :: X) (.lookup 134 (.tmp 9) (.tmp 10) false)=some (.d v,.map kvs :: X,true):=fun kvs r v rd X h1 h2 h3 h4=>by
     rw [<- h4];exact evK_lookupOp (by rfl) (by rfl) (by rfl) (keyTL x) h1 (by rfl) h2 h3 (by rfl)
    repeat refine zS ?_
    refine Run.drawC (frz:=[21,65558]) Yo (by kernel_rfl) [(2,4)] ?_;iterate 2 refine cX ?_
    refine cX (v:=.d (nI 0)) ?_ (hv:=evK_lookup (by rfl) (by rfl) (by rfl) (by rfl) (keyTL x) (by rfl) (by rfl) (by rfl) f0 (by rfl)) (he:=rfl);refine cX (v:=.d (nI 1)) ?_ (he:=rfl);refine cX (objs':=[.map (kvM (M++[(x,0)])),.box [.mp 0],.box [outV D]]++[a,b]++outX D) ?_ (hv:=evK_entryNew (by rfl) (by rfl) (by rfl) (by rfl) (keyTL x) (by rfl) (by rfl) (by rfl) f0 (by rfl)) (ho:=by rw [<- hap];rfl);refine cX ?_;refine cX (objs':=[.map (kvM (M++[(x,1)])),.box [.mp 0],.box [outV D]]++[a,b]++outX D) ?_ (hv:=evK_store (j:=(kvM M).length) (by rfl) (by rfl) (by rfl) (by rfl) (by rfl) hAl) (ho:=by rw [hmo];rfl);refine EvC.nil ⟨by kernel_rfl,⟨⟨_,_,_,_,_,_,_,rfl,rfl,rfl,rfl,cf _ _ _ _ _ rfl rfl f0 rfl,cf _ _ _ _ _ rfl rfl f1 rfl⟩,trivial⟩,?_⟩
    repeat refine zS ?_
    iterate 2 refine zX ?_
    refine oV (v:=.d (nI 1)) ?_ (hv:=evK_lookup (by rfl) (by rfl) (by rfl) (by rfl) (keyTL x) (by rfl) (by rfl) (by rfl) f2 (by rfl));refine zV (show AV.d (.bool (((1:Nat):Int) == 1))=.d (.bool true) from rfl) ?_;cases D with
    |nil =>
     repeat' (first|refine zW ?_|refine zB ?_ ?_<;>intro h<;>try exact zk h|refine zX ?_|(refine Yt ?_;refine r2 ?_;first|done|(skip))|(fail)|fail)
     exact⟨rfl,rfl⟩
    |cons y r =>
     repeat refine zS ?_
     iterate 3 refine zX ?_
     refine oV (v:=outV (y :: (r++[x]))) (objs':=[.map (kvM (M++[(x,1)])),.box [.mp 0],.box [outV (y :: r)]]++[a,b]++outX (y :: (r++[x]))) ?_ (hv:=evAny_appV (D:=y :: r) (i:=r.length+5) (by rfl) (by rfl) (by rfl) (by rfl) (by rfl) (by rfl) (get_vec _ _ _ _ _ _ _) (by omega)) (he:=?_) (ho:=by exact set_vec _ _ _ _ _ _ _ _)
     .repeat' (first|refine zW ?_|refine zB ?_ ?_<;>intro h<;>try exact zk h|refine zX ?_|(refine Yt ?_;refine r2 ?_;first|done|(skip))|(fail)|fail)
      exact⟨rfl,rfl⟩
     .simp [outV,outX_len]
 .rw [List.take_length]
  unfold dst at *;generalize cntM E=M at *;rw [show srB M=[.map (kvM M),.box [.mp 0],.box [outV (M.map (·.1))]] from rfl];generalize M.map (·.1)=D at *;cases D with
  |nil =>
   obtain rfl:L'=[]:=List.length_eq_zero_iff.1 hLl
   repeat' (first|refine zW ?_|refine zB ?_ ?_<;>intro h<;>try exact zk h|refine zX ?_|refine zC (sortNil) ?_|(refine Yt ?_;refine r2 ?_;first|done|(exact .d .nil))|(fail)|fail)
  |cons y r =>
   repeat refine zS ?_
   refine zX ?_;refine oA (hA _ (r.length+5) (get_vec _ _ _ _ _ _ _)) ?_
   repeat refine zS ?_
   iterate 2 refine zX ?_
   refine Yn ?_;refine Yt ?_;have hLl':L'.length=r.length+1:=hLl;have hc:=fun(O:List Ob) (h:O[r.length+5]?=some (vecL L'))=>close_vec h;rw [hLl'] at hc;refine⟨trivial,_,_,_,rfl,rfl,hc _ ?_,.refl⟩;rw [List.getElem?_set_ne (by omega)];rw [List.getElem?_set_self];have:=get_vec (.map (kvM M)) (.box [.mp 0]) (.box [outV (y :: r)]) (.raw (.deferred (some []))) (.gone) y r;have:=(List.getElem?_eq_some_iff.1 this).1;simp [rangeObs] at this |-;exact this
section
set_option maxRecDepth 10000
end
abbrev Asc (L:List (List Nat)):Prop:=L.Pairwise fun x y=>cmpL x y<0
theorem cmp_irr {x:List Nat}:¬ cmpL x x<0:=by rw [cmpL_self];decide
theorem cmp_tri (x y:List Nat):cmpL x y<0\/x=y\/cmpL y x<0:=by
 by_cases h:cmpL x y=0
 .exact .inr (.inl (cmpL_eq h))
 .have:=cmpL_neg x y;omega
theorem cmp_as {x y:List Nat} (h:cmpL x y<0) (k:cmpL y x<0):False:=by
 have:=cmpL_neg x y;omega
def ins (x:List Nat):List (List Nat)->List (List Nat)
 |[]=>[x]
 |y :: L=>if cmpL x y<0 then x :: y :: L else if cmpL y x<0 then y :: ins x L else y :: L
theorem mem_ins {x z:List Nat}:∀ {L:List (List Nat)},z ∈ ins x L ↔ z=x\/z ∈ L
 |[]=>by simp [ins]
 |y :: L=>by
  unfold ins;split
  .simp
  .rename_i h1
   split
   .simp only [List.mem_cons,mem_ins (L:=L)]
    constructor
    .rintro(h|h|h)<;>simp [h]
    .rintro(h|h|h)<;>simp [h]
   .rename_i h2
    have:x=y:=(cmp_tri x y).elim (fun h=>absurd h h1) fun h=>h.elim id fun h=>absurd h h2;subst this
    simp
theorem asc_ins {x:List Nat}:∀ {L:List (List Nat)},Asc L->Asc (ins x L)
 |[],_=>by simp [ins]
 |y :: L,h=>by
  have hc:=List.pairwise_cons.1 h;unfold ins;split
  .rename_i h1
   refine List.pairwise_cons.2 ⟨fun z hz=>?_,h⟩;rcases List.mem_cons.1 hz with rfl|hz
   .exact h1
   .exact cmpL_trans h1 (hc.1 z hz)
  .split
   .rename_i h2
    refine List.pairwise_cons.2 ⟨fun z hz=>?_,asc_ins hc.2⟩;rcases mem_ins.1 hz with rfl|hz
    .exact h2
    .exact hc.1 z hz
   .exact h
def ascOf (E:List (List Nat)):List (List Nat):=E.foldr ins []
theorem mem_asc {z:List Nat}:∀ {E:List (List Nat)},z ∈ ascOf E ↔ z ∈ E
 |[]=>by simp [ascOf]
 |x :: E=>by
  show z ∈ ins x (ascOf E) ↔ _
  rw [mem_ins,mem_asc,List.mem_cons]
theorem asc_asc:∀ E:List (List Nat),Asc (ascOf E)
 |[]=>List.Pairwise.nil
 |x :: E=>asc_ins (asc_asc E)
theorem ins_len (x:List Nat):∀ L:List (List Nat),(ins x L).length<=L.length+1
 |[]=>by simp [ins]
 |y :: L=>by
  unfold ins;split
  .simp
  .split
   .simp only [List.length_cons];have:=ins_len x L;omega
   .simp
theorem asc_len:∀ E:List (List Nat),(ascOf E).length<=E.length
 |[]=>by simp [ascOf]
 |x :: E=>by
  have:=ins_len x (ascOf E);have:=asc_len E
  show(ins x (ascOf E)).length<=_
  simp only [List.length_cons];omega
theorem asc_ext:∀ {A B:List (List Nat)},Asc A->Asc B->(∀ z,z ∈ A ↔ z ∈ B)->A=B
 |[],[],_,_,_=>rfl
 |[],y :: B,_,_,h=>by have:=(h y).2 (by simp);simp at this
 |x :: A,[],_,_,h=>by have:=(h x).1 (by simp);simp at this
 |x :: A,y :: B,ha,hb,h=>by
  have ca:=List.pairwise_cons.1 ha;have cb:=List.pairwise_cons.1 hb;have hxy:x=y:=by
   rcases List.mem_cons.1 ((h x).1 (by simp)) with h1|h1
   .exact h1
   .rcases List.mem_cons.1 ((h y).2 (by simp)) with h2|h2
    .exact h2.symm
    .exact(cmp_as (ca.1 y h2) (cb.1 x h1)).elim
  subst hxy
  congr 1
  refine asc_ext ca.2 cb.2 fun z=>?_;constructor
  .intro hz
   rcases List.mem_cons.1 ((h z).1 (by simp [hz])) with h1|h1
   .subst h1;exact(cmp_irr (ca.1 _ hz)).elim
   .exact h1
  .intro hz
   rcases List.mem_cons.1 ((h z).2 (by simp [hz])) with h1|h1
   .subst h1;exact(cmp_irr (cb.1 _ hz)).elim
   .exact h1
theorem asc_of_sorted {L:List (List Nat)} (h1:L.Pairwise fun x y=>¬ cmpL y x<0) (h2:L.Nodup):Asc L:=by
 refine(h1.and h2).imp fun {a b} h=>?_;rcases cmp_tri a b with h3|h3|h3
 .exact h3
 .exact absurd h3 h.2
 .exact absurd h3 h.1
theorem sortedS (F:DV) (E:List (List Nat)) (hit:IterOK F E) (hR:∀ x ∈ E,Rt x) (hl:E.length<=100000):KnownCall Try.prog 73 [F] (.d (lks (ascOf E))):=by
 obtain⟨L',hp,hs,hK⟩:=sortedK F E hit hR hl;have hi:=cntM_inv E E.length (Nat.le_refl _);rw [List.take_length] at hi;have:L'=ascOf E:=asc_ext (asc_of_sorted hs (hp.nodup_iff.2 hi.2.1)) (asc_asc E) fun z=>by rw [hp.mem_iff,hi.2.2.2,mem_asc]
 rwa [this] at hK
theorem ofSet (n:Nat) (h1:1<=n) (h8:n<=8) (l:List (List Nat)) (hl:l.length<=20000) (hR:∀ x ∈ l,Rt x) (ht:∀ x ∈ l,∀ t ∈ x,t<n):KnownCall Try.prog 47 [nI n,lks l] (.tup [.d (lks (ascOf l)),.d (.int .i64 0)]):=by
 have c0:=numbersK n h1 h8;have c1:=valuesK l;have c2:=sortedS _ l (valuesIt l (by omega)) hR (by omega);refine kF Try.func47 [] fun w=>?_
 repeat' (first|refine zW ?_|refine zB ?_ ?_<;>intro h<;>try exact zk h|refine zX ?_|refine zC (c0) ?_|exact zk h|fail)
 refine Run.loop (fun i:Nat=>⟨PT.ofList [(0,.d (nI n)),(1,.d (lks l)),(6,.d (.int .i64 0)),(7,.d (.int .i64 i))],[],[]⟩) (fun i=>i<=l.length) (fun i=>l.length-i) 0 (Nat.zero_le _) (weak_of (by repeat' (first|exact trivial|refine⟨rfl,?_⟩))) (fun i hi=>?_);rcases Nat.lt_or_ge i l.length with hlt|hge
 .obtain⟨x,hx⟩:=get_ok hlt
  have hxm:=List.mem_of_getElem? hx;have c3:=checkK x (hR x hxm).len n;rw [chkL_ok h1 h8 (ht x hxm)] at c3
  repeat' (first|refine zW ?_|refine zB ?_ ?_<;>intro h<;>try exact zk h|refine zX ?_|refine zC (c3) ?_|refine zI w (.d (.ep (lkC x))) hx ?_|rfl|(exact⟨i+1,hlt,by omega,weak_of (by repeat' (first|exact trivial|refine⟨rfl,?_⟩|refine⟨(inc_get (k:=i) (by kernel_rfl) (by omega)),?_⟩))⟩)|exact zk h|fail)
 .have hie:i=l.length:=by omega
  subst hie
  repeat' (first|refine zW ?_|refine zB ?_ ?_<;>intro h<;>try exact zk h|refine zX ?_|refine zC (c1) ?_|refine zC (c2) ?_|rfl|exact zk h|fail)
theorem setOK_asc {n:Nat} {E:List (List Nat)} (hl:E.length<=4681) (hR:∀ x ∈ E,Rt x) (ht:∀ x ∈ E,∀ t ∈ x,t<n):SetOK n (ascOf E) :=
 ⟨Nat.le_trans (asc_len E) hl,fun x hx=>hR x (mem_asc.1 hx),fun x hx=>ht x (mem_asc.1 hx),asc_asc E⟩
theorem mem_prs {k:Nat} {a b:List (List Nat)} {z:List Nat}:z ∈ prs k a b ↔ ∃ x ∈ a,∃ y ∈ b,z=(x++y).take k:=by
 simp only [prs,List.mem_flatMap,List.mem_map];constructor
 .rintro⟨x,hx,y,hy,rfl⟩;exact⟨x,hx,y,hy,rfl⟩
 .rintro⟨x,hx,y,hy,rfl⟩;exact⟨x,hx,y,hy,rfl⟩
theorem rt_take {k:Nat} (hk:k<=4) {x y:List Nat} (hx:∀ t ∈ x,t<8) (hy:∀ t ∈ y,t<8):Rt ((x++y).take k) :=
 ⟨by rw [List.length_take];omega,fun t ht=>(List.mem_append.1 (List.mem_of_mem_take ht)).elim (hx t) (hy t)⟩
theorem prs_rt {k:Nat} (hk:k<=4) {a b:List (List Nat)} (ha:∀ x ∈ a,Rt x) (hb:∀ x ∈ b,Rt x):∀ z ∈ prs k a b,Rt z:=fun z hz=>by
 obtain⟨x,hx,y,hy,rfl⟩:=mem_prs.1 hz;exact rt_take hk (ha x hx).lt (hb y hy).lt
theorem prs_lt {k n:Nat} {a b:List (List Nat)} (ha:∀ x ∈ a,∀ t ∈ x,t<n) (hb:∀ x ∈ b,∀ t ∈ x,t<n):∀ z ∈ prs k a b,∀ t ∈ z,t<n:=fun z hz t ht=>by
 obtain⟨x,hx,y,hy,rfl⟩:=mem_prs.1 hz;exact(List.mem_append.1 (List.mem_of_mem_take ht)).elim (ha x hx t) (hb y hy t)
theorem rt_nil:∀ x ∈ [([]:List Nat)],Rt x:=fun x hx=>by simp at hx;subst hx;exact⟨by simp,by simp⟩
def cutS (k:Nat) (a:List (List Nat)):List (List Nat):=ascOf (prs k a [[]])
def sumS (k:Nat) (a b:List (List Nat)):List (List Nat):=ascOf (prs k (cutS k a) (cutS k b))
theorem cutS_len (k:Nat) (a:List (List Nat)):(cutS k a).length<=a.length:=by
 have:=asc_len (prs k a [[]]);rw [prs_len] at this;simpa [cutS] using this
theorem cutS_rt {k:Nat} (hk:k<=4) {a:List (List Nat)} (ha:∀ x ∈ a,Rt x):∀ z ∈ cutS k a,Rt z:=fun z hz=>prs_rt hk ha rt_nil z (mem_asc.1 hz)
theorem cutS_lt {k n:Nat} {a:List (List Nat)} (ha:∀ x ∈ a,∀ t ∈ x,t<n):∀ z ∈ cutS k a,∀ t ∈ z,t<n:=fun z hz=>prs_lt ha (by simp) z (mem_asc.1 hz)
theorem sumS_len (k:Nat) (a b:List (List Nat)):(sumS k a b).length<=a.length*b.length:=by
 have:=asc_len (prs k (cutS k a) (cutS k b));rw [prs_len] at this;exact Nat.le_trans this (Nat.mul_le_mul (cutS_len k a) (cutS_len k b))
theorem cutSet (n:Nat) (h1:1<=n) (h8:n<=8) (k:Nat) (hk1:1<=k) (hk:k<=4) (a:List (List Nat)) (ha:SetOK n a):KnownCall Try.prog 40 [nI n,nI k,lks a] (.tup [.d (lks (cutS k a)),.d (.int .i64 0)]):=by
 have c0:=allS n h1 h8 [a] (by simp) (by simp [ha]);have hal:=ha.len;have c1:=aheadK k hk1 hk;have c2:=pairsK k a [[]];have c3:=sortedS _ _ (pairsIt k hk1 hk a [[]] ha.rt rt_nil (by omega) (by simp)) (prs_rt hk ha.rt rt_nil) (by rw [prs_len];simp;omega);change KnownCall _ _ _ (.d (lks (cutS k a))) at c3;refine kF Try.func40 [11,23] fun w=>?_
 repeat' (first|refine zW ?_|refine zB ?_ ?_<;>intro h<;>try exact zk h|refine zX ?_|refine zC (c0) ?_|refine zC (c1) ?_|refine zC (c2) ?_|refine zC (c3) ?_|rfl|exact zk h|fail)
theorem sumSet (n:Nat) (h1:1<=n) (h8:n<=8) (k:Nat) (hk1:1<=k) (hk:k<=4) (a b:List (List Nat)) (ha:SetOK n a) (hb:SetOK n b) (hab:a.length*b.length<=100000):KnownCall Try.prog 37 [nI n,nI k,lks a,lks b] (.tup [.d (lks (sumS k a b)),.d (.int .i64 0)]):=by
 have c0:=allS n h1 h8 [a,b] (by simp) (by simp [ha,hb]);have hal:=ha.len;have hbl:=hb.len;have c1:=aheadK k hk1 hk;have c2:=pairsK k a [[]];have c3:=sortedS _ _ (pairsIt k hk1 hk a [[]] ha.rt rt_nil (by omega) (by simp)) (prs_rt hk ha.rt rt_nil) (by rw [prs_len];simp;omega);change KnownCall _ _ _ (.d (lks (cutS k a))) at c3;have c4:=pairsK k b [[]];have c5:=sortedS _ _ (pairsIt k hk1 hk b [[]] hb.rt rt_nil (by omega) (by simp)) (prs_rt hk hb.rt rt_nil) (by rw [prs_len];simp;omega);change KnownCall _ _ _ (.d (lks (cutS k b))) at c5;have e1:=cutS_len k a;have e2:=cutS_len k b;have c6:=pairsK k (cutS k a) (cutS k b);have c7:=sortedS _ _ (pairsIt k hk1 hk (cutS k a) (cutS k b) (cutS_rt hk ha.rt) (cutS_rt hk hb.rt) (by omega) (by omega)) (prs_rt hk (cutS_rt hk ha.rt) (cutS_rt hk hb.rt)) (by rw [prs_len];exact Nat.le_trans (Nat.mul_le_mul e1 e2) hab);change KnownCall _ _ _ (.d (lks (sumS k a b))) at c7;generalize cutS k a=ca at *;generalize cutS k b=cb at *;generalize sumS k a b=sab at *;refine kF Try.func37 [15,25] fun w=>?_
 repeat' (first|refine zW ?_|refine zB ?_ ?_<;>intro h<;>try exact zk h|refine zX ?_|refine zC (c0) ?_|refine zC (c1) ?_|refine zC (c2) ?_|refine zC (c3) ?_|refine zC (c4) ?_|refine zC (c5) ?_|refine zC (c6) ?_|refine zC (c7) ?_|rfl|exact zk h|fail)
theorem wrap64 {n:Int} (h1:-9223372036854775808<=n) (h2:n<=9223372036854775807):IntKind.i64.wrap n=n:=IntWalk.i64_in n ⟨h1,h2⟩
def W64 (n:Int):Prop:=-9223372036854775808<=n/\n<=9223372036854775807
def mdN (m:Nat) (n:Int):Nat:=(n % m).toNat
theorem mdN_lt {m:Nat} (h:0<m) (n:Int):mdN m n<m:=by unfold mdN;have:=Int.emod_lt_of_pos n (show(0:Int)<m by omega);have:=Int.emod_nonneg n (show(m:Int)≠0 by omega);omega
theorem mod1048576 (n:Int) (hn:W64 n):KnownCall Try.prog 30 [.int .i64 n,.int .i64 1048576] (.d (nI (mdN 1048576 n))):=by
 have hw:=hn;unfold W64 at hw;have hm:((mdN 1048576 n:Nat):Int)=n % 1048576:=by unfold mdN;omega
 have ht:n.tmod 1048576=if 0<=n\/(1048576:Int) ∣ n then n % 1048576 else n % 1048576-1048576:=by
  rw [Int.tmod_eq_emod];by_cases h:0<=n\/(1048576:Int) ∣ n
  .rw [if_pos h,if_pos h];simp
  .rw [if_neg h,if_neg h];rfl
 show KnownCall _ _ _ (.d (.int .i64 ((mdN 1048576 n:Nat):Int)))
 by_cases h:0<=n\/(1048576:Int) ∣ n
 .rw [if_pos h] at ht
  rw [hm];refine kF Try.func30 [] fun w=>?_
  repeat' (first|refine oV (v:=.d (.int .i64 (n % 1048576))) ?_ (he:=(congrArg (fun x=>AV.d (.int .i64 x)) ht))|refine eX (v:=.d (.int .i64 (n % 1048576))) ?_ (he:=(congrArg (fun x=>AV.d (.int .i64 x)) ht))|refine zW ?_|refine zB ?_ ?_<;>intro h<;>try exact zk h|refine zX ?_|rfl|exact zk h|fail)
 .rw [if_neg h] at ht
  rw [hm];have hneg:n % 1048576-1048576<0:=by omega
  have hadd:AV.d (.int .i64 (IntKind.i64.wrap (n % 1048576-1048576+1048576)))=.d (.int .i64 (n % 1048576)):=congrArg (fun x=>AV.d (.int .i64 x)) ((wrap64 (by omega) (by omega)).trans (by omega));have hrem:AV.d (.int .i64 (n.tmod 1048576))=.d (.int .i64 (n % 1048576-1048576)):=congrArg (fun x=>AV.d (.int .i64 x)) ht;refine kF Try.func30 [] fun w=>?_
  repeat' (first|refine zV hadd ?_|refine zV hrem ?_|refine zW ?_|refine zB ?_ ?_<;>intro h<;>try exact zk h|refine zX ?_|rfl|exact zk h|fail)
theorem mod4 (n:Int) (hn:W64 n):KnownCall Try.prog 30 [.int .i64 n,.int .i64 4] (.d (nI (mdN 4 n))):=by
 have hw:=hn;unfold W64 at hw;have hm:((mdN 4 n:Nat):Int)=n % 4:=by unfold mdN;omega
 have ht:n.tmod 4=if 0<=n\/(4:Int) ∣ n then n % 4 else n % 4-4:=by
  rw [Int.tmod_eq_emod];by_cases h:0<=n\/(4:Int) ∣ n
  .rw [if_pos h,if_pos h];simp
  .rw [if_neg h,if_neg h];rfl
 show KnownCall _ _ _ (.d (.int .i64 ((mdN 4 n:Nat):Int)))
 by_cases h:0<=n\/(4:Int) ∣ n
 .rw [if_pos h] at ht
  rw [hm];refine kF Try.func30 [] fun w=>?_
  repeat' (first|refine oV (v:=.d (.int .i64 (n % 4))) ?_ (he:=(congrArg (fun x=>AV.d (.int .i64 x)) ht))|refine eX (v:=.d (.int .i64 (n % 4))) ?_ (he:=(congrArg (fun x=>AV.d (.int .i64 x)) ht))|refine zW ?_|refine zB ?_ ?_<;>intro h<;>try exact zk h|refine zX ?_|rfl|exact zk h|fail)
 .rw [if_neg h] at ht
  rw [hm];have hneg:n % 4-4<0:=by omega
  have hadd:AV.d (.int .i64 (IntKind.i64.wrap (n % 4-4+4)))=.d (.int .i64 (n % 4)):=congrArg (fun x=>AV.d (.int .i64 x)) ((wrap64 (by omega) (by omega)).trans (by omega));have hrem:AV.d (.int .i64 (n.tmod 4))=.d (.int .i64 (n % 4-4)):=congrArg (fun x=>AV.d (.int .i64 x)) ht;refine kF Try.func30 [] fun w=>?_
  repeat' (first|refine zV hadd ?_|refine zV hrem ?_|refine zW ?_|refine zB ?_ ?_<;>intro h<;>try exact zk h|refine zX ?_|rfl|exact zk h|fail)
theorem sameLk (a b:List (List Nat)) (ha:∀ x ∈ a,x.length<=4) (hl:a.length<=1048576):KnownCall Try.prog 39 [lks a,lks b] (.d (.bool (decide (a=b)))):=by
 by_cases hab:a.length=b.length
 .refine kF Try.func39 [] fun w=>?_
  repeat' (first|refine zW ?_|refine zB ?_ ?_<;>intro h<;>try exact zk h|refine zX ?_|exact zk h|fail)
  refine Run.loop (fun i:Nat=>⟨PT.ofList [(0,.d (lks a)),(1,.d (lks b)),(5,.d (.int .i64 i))],[],[]⟩) (fun i=>i<=a.length/\a.take i=b.take i) (fun i=>a.length-i) 0 ⟨Nat.zero_le _,rfl⟩ (weak_of (by repeat' (first|exact trivial|refine⟨rfl,?_⟩))) (fun i hi=>?_);rcases Nat.lt_or_ge i a.length with hlt|hge
  .obtain⟨x,hx⟩:=get_ok hlt
   obtain⟨y,hy⟩:=get_ok (show i<b.length by omega);have hxl:=ha x (List.mem_of_getElem? hx);by_cases hxy:x=y
   .subst hxy
    have hnx:a.take (i+1)=b.take (i+1):=by rw [List.take_add_one,List.take_add_one,hi.2,hx,hy]
    repeat' (first|refine zW ?_|refine zB ?_ ?_<;>intro h<;>try exact zk h|refine zX ?_|refine zI w (.d (.ep (lkC x))) hx ?_|refine zI w (.d (.ep (lkC x))) hy ?_|(exact⟨i+1,⟨hlt,hnx⟩,by omega,weak_of (by repeat' (first|exact trivial|refine⟨rfl,?_⟩|refine⟨(inc_get (k:=i) (by kernel_rfl) (by omega)),?_⟩))⟩)|exact zk h|fail)
   .have hne:a≠b:=fun e=>by subst e;rw [hx] at hy;cases hy;exact hxy rfl
    rw [decide_eq_false hne]
    repeat' (first|refine zW ?_|refine zB ?_ ?_<;>intro h<;>try exact zk h|refine zX ?_|refine zI w (.d (.ep (lkC x))) hx ?_|refine zI w (.d (.ep (lkC y))) hy ?_|rfl|((exfalso;simp only [Bool.not_eq_eq_eq_not,Bool.not_false,bne,Bool.and_eq_true,beq_iff_eq] at h;exact hxy (lk_inj hxl (by omega) (by omega) (by omega) (by omega) (by omega))))|exact zk h|fail)
  .have hie:i=a.length:=by have:=hi.1;omega
   have he:a=b:=by
    have:=hi.2
    rwa [hie,List.take_length,hab,List.take_length] at this
   rw [decide_eq_true he];subst hie
   repeat' (first|refine zW ?_|refine zB ?_ ?_<;>intro h<;>try exact zk h|refine zX ?_|rfl|exact zk h|fail)
 .have hne:a≠b:=fun e=>hab (by rw [e])
  rw [decide_eq_false hne];refine kF Try.func39 [] fun w=>?_
  repeat' (first|refine zW ?_|refine zB ?_ ?_<;>intro h<;>try exact zk h|refine zX ?_|rfl|exact zk h|fail)
def mkL (v:Nat):List Nat:=[v / 4 % 3,v / 4 / 4 % 3,v / 4 / 4 / 4 % 3].take (v % 4)
theorem mkL_lt (v:Nat):∀ t ∈ mkL v,t<3:=fun t ht=>by
 have:=List.mem_of_mem_take ht;simp at this;rcases this with rfl|rfl|rfl<;>omega
theorem mkL_rt (v:Nat):Rt (mkL v):=⟨by unfold mkL;rw [List.length_take];simp;omega,fun t ht=>by have:=mkL_lt v t ht;omega⟩
def numsL (nums:List Int):List (List Nat):=(nums.take 16).map fun n=>mkL (mdN 1048576 n)
theorem quo4 (v:Nat) (h:v<1048576):AV.d (.int .i64 (IntKind.i64.wrap (Int.tdiv (v:Int) 4)))=.d (nI (v / 4)):=by
 have:Int.tdiv (v:Int) 4=((v / 4:Nat):Int):=by rw [Int.tdiv_eq_ediv_of_nonneg (by omega)];omega
 rw [this,wrap_nat (by omega)]
theorem rem4 (v:Nat):AV.d (.int .i64 (Int.tmod (v:Int) 4))=.d (nI (v % 4)):=by
 have:Int.tmod (v:Int) 4=((v % 4:Nat):Int):=by rw [Int.tmod_eq_emod_of_nonneg (by omega)];omega
 rw [this]
theorem rem3 (v:Nat):AV.d (.int .i64 (Int.tmod (v:Int) 3))=.d (nI (v % 3)):=by
 have:Int.tmod (v:Int) 3=((v % 3:Nat):Int):=by rw [Int.tmod_eq_emod_of_nonneg (by omega)];omega
 rw [this]
def kvN (v:Nat):Nat->Nat
 |0=>v
 |1=>v / 4
 |2=>v / 4 / 4
 |_=>v / 4 / 4 / 4
def bxN (v:Nat):Nat->List AV
 |0=>[.d (nI 0),.d (nI 0),.d (nI 0),.d (nI 0),.d (nI 0)]
 |1=>[.d (nI 1),.d (nI (v / 4 % 3)),.d (nI 0),.d (nI 0),.d (nI 0)]
 |2=>[.d (nI 2),.d (nI (v / 4 % 3)),.d (nI (v / 4 / 4 % 3)),.d (nI 0),.d (nI 0)]
 |_=>[.d (nI 3),.d (nI (v / 4 % 3)),.d (nI (v / 4 / 4 % 3)),.d (nI (v / 4 / 4 / 4 % 3)),.d (nI 0)]
set_option maxHeartbeats 1000000 in
theorem madeK (nums:List Int) (hn:∀ n ∈ nums,W64 n):KnownCall Try.prog 43 [.sl 1 (nums.map (.int .i64)),] (.tup [.d (lks (ascOf (numsL nums))),.d (.bool true)]):=by
 have hlen:(numsL nums).length<=16:=by unfold numsL;simp;omega
 have hRt:∀ x ∈ numsL nums,Rt x:=fun x hx=>by
  unfold numsL at hx;obtain⟨n,_,rfl⟩:=List.mem_map.1 hx;exact mkL_rt _
 have hlt:∀ x ∈ numsL nums,∀ t ∈ x,t<3:=fun x hx=>by
  unfold numsL at hx;obtain⟨n,_,rfl⟩:=List.mem_map.1 hx;exact mkL_lt _
 have cO:=ofSet 3 (by omega) (by omega) (numsL nums) (by omega) hRt hlt;have cC:=checkS 3 (by omega) (by omega) (ascOf (numsL nums)) (setOK_asc (by omega) hRt hlt);refine kF Try.func43 [46] fun w=>?_
 repeat' (first|refine zW ?_|refine zB ?_ ?_<;>intro h<;>try exact zk h|refine zX ?_|fail)
 refine Run.mkRoom 4 5 [(0,.d (.sl 1 (nums.map (.int .i64)))),(4,.sr 0 5 []),(5,.d (.int .i64 0))] rfl (ofList_cases (by intro p hp;simp only [List.mem_cons,List.not_mem_nil,or_false] at hp;rcases hp with rfl|rfl|rfl;exact .inr (by kernel_rfl);exact .inl ⟨rfl,rfl⟩;exact .inr (by kernel_rfl))) ?_;refine Run.loopT (fun y:Nat × List DV=>⟨PT.ofList [(0,.d (.sl 1 (nums.map (.int .i64)))),(4,.sr 0 5 y.2),(5,.d (.int .i64 y.1))],[.room y.2.length 5],[]⟩) (fun y=>y.1<=nums.length/\y.1<=16/\y.2=((nums.take y.1).map fun n=>lk (mkL (mdN 1048576 n)))) (fun y=>nums.length-y.1) (0,[]) ⟨Nat.zero_le _,Nat.zero_le _,rfl⟩ (ti _ 1) (fun y hy=>?_);obtain⟨i,acc⟩:=y;obtain⟨h1,h2,h3⟩:=hy;simp only at h1 h2 h3 |-;have hal:acc.length<=i:=by rw [h3];simp;omega
 by_cases hgo:i<nums.length/\i<16
 .obtain⟨n,hx⟩:=get_ok hgo.1
  have hnx:acc++[lk (mkL (mdN 1048576 n))]=(nums.take (i+1)).map fun n=>lk (mkL (mdN 1048576 n)):=by rw [List.take_add_one,hx,h3];simp
  have cM:=mod1048576 n (hn n (List.mem_of_getElem? hx));have hv:=mdN_lt (show 0<1048576 by decide) n;generalize mdN 1048576 n=v at *;have q1:=quo4 v hv;have q2:=quo4 (v / 4) (by omega);have q3:=quo4 (v / 4 / 4) (by omega);have r0:=rem4 v;have r1:=rem3 (v / 4);have r2:=rem3 (v / 4 / 4);have r3:=rem3 (v / 4 / 4 / 4);have hm3:v % 4<=3:=by omega
  repeat' (first|refine zV r0 ?_|refine zW ?_|refine zB ?_ ?_<;>intro h<;>try exact zk h|refine zX ?_|refine zC (cM) ?_|refine zI w (.d (.ep [.int .i64 n])) hx ?_|exact zk h|fail)
  refine Run.loopT (fun j:Nat=>⟨PT.ofList [(0,.d (.sl 1 (nums.map (.int .i64)))),(4,.sr 0 5 acc),(5,.d (.int .i64 i)),(6,.d (nI (kvN v j))),(7,.bp 1 0),(8,.d (nI (v % 4-j)))],[.room acc.length 5,.box (bxN v j)],[]⟩) (fun j=>j<=v % 4) (fun j=>v % 4-j) 0 (Nat.zero_le _) (ti _ 2) (fun j hj=>?_);rcases Nat.lt_or_ge j (v % 4) with hjl|hjg
  .have hsub:AV.d (.int .i64 (IntKind.i64.wrap (((v % 4-j:Nat):Int)-1)))=.d (nI (v % 4-(j+1))):=by
    congr 2;rw [show((v % 4-j:Nat):Int)-1=((v % 4-(j+1):Nat):Int) by omega];exact wrap_nat (by omega)
   rcases(show j=0\/j=1\/j=2 by omega) with rfl|rfl|rfl
   .repeat' (first|refine zV hsub ?_|refine zV r1 ?_|refine zV q1 ?_|refine zW ?_|refine zB ?_ ?_<;>intro h<;>try exact zk h|refine zX ?_|(exact⟨1,by omega,by omega,(ti _ 2)⟩)|exact zk h|fail)
   .repeat' (first|refine zV hsub ?_|refine zV r2 ?_|refine zV q2 ?_|refine zW ?_|refine zB ?_ ?_<;>intro h<;>try exact zk h|refine zX ?_|(exact⟨2,by omega,by omega,(ti _ 2)⟩)|exact zk h|fail)
   .repeat' (first|refine zV hsub ?_|refine zV r3 ?_|refine zV q3 ?_|refine zW ?_|refine zB ?_ ?_<;>intro h<;>try exact zk h|refine zX ?_|(exact⟨3,by omega,by omega,(ti _ 2)⟩)|exact zk h|fail)
  .have hje:j=v % 4:=by omega
   subst hje;have hb:bxN v (v % 4)=(lkC (mkL v)).map .d:=by
    unfold mkL
    rcases(show v % 4=0\/v % 4=1\/v % 4=2\/v % 4=3 by omega) with hm|hm|hm|hm<;>rw [hm]<;>rfl
   rw [hb]
   repeat' (first|refine zW ?_|refine zB ?_ ?_<;>intro h<;>try exact zk h|refine zX ?_|refine zAp ?_|(exact⟨(i+1,acc++[lk (mkL v)]),⟨hgo.1,hgo.2,hnx⟩,by simp only;omega,(ti _ 1 (Eq.trans (b:=[.room (acc.length+1) 5]) rfl (by simp)))⟩)|exact zk h|fail)
 .have ht:nums.take i=nums.take 16:=by
   rcases Nat.lt_or_ge i nums.length with h|h
   .rw [show i=16 by omega]
   .rw [List.take_of_length_le h,List.take_of_length_le (by omega)]
  have ha:acc=(numsL nums).map lk:=by rw [h3,ht];unfold numsL;rw [List.map_map];rfl
  subst ha
  rcases(show nums.length<=i\/(i<nums.length/\16<=i) by omega) with hc|hc
  .repeat' (first|refine zW ?_|refine zB ?_ ?_<;>intro h<;>try exact zk h|refine zX ?_|refine oM cO ?_|refine zC (cC) ?_|rfl|exact zk h|fail)
  .repeat' (first|refine zW ?_|refine zB ?_ ?_<;>intro h<;>try exact zk h|refine zX ?_|refine oM cO ?_|refine zC (cC) ?_|rfl|exact zk h|fail)
def e0:List DV × AV:=([(.int .i64 3),(.sl 1 [(.sl 5 [(.agg [(.int .i64 0),(.int .i64 0),(.int .i64 0),(.int .i64 0),(.int .i64 0)]),(.agg [(.int .i64 1),(.int .i64 1),(.int .i64 0),(.int .i64 0),(.int .i64 0)])]),(.sl 5 [(.agg [(.int .i64 1),(.int .i64 0),(.int .i64 0),(.int .i64 0),(.int .i64 0)]),(.agg [(.int .i64 1),(.int .i64 1),(.int .i64 0),(.int .i64 0),(.int .i64 0)])])])],(.d (.int .i64 0)))
theorem k0:KnownCall Try.prog 71 e0.1 e0.2:=knownF T0_ok Yo (by kernel_rfl) Ft_ok (k:=100000) (n:=60) (by kernel_rfl)
def e1:List DV × AV:=([(.int .i64 3),(.sl 1 [(.sl 5 [(.agg [(.int .i64 0),(.int .i64 0),(.int .i64 0),(.int .i64 0),(.int .i64 0)]),(.agg [(.int .i64 1),(.int .i64 0),(.int .i64 0),(.int .i64 0),(.int .i64 0)])]),(.sl 5 [(.agg [(.int .i64 1),(.int .i64 1),(.int .i64 0),(.int .i64 0),(.int .i64 0)]),(.agg [(.int .i64 2),(.int .i64 1),(.int .i64 2),(.int .i64 0),(.int .i64 0)])])])],(.d (.int .i64 0)))
theorem k1:KnownCall Try.prog 71 e1.1 e1.2:=knownF T0_ok Yo (by kernel_rfl) Ft_ok (k:=100000) (n:=60) (by kernel_rfl)
def e3:List DV × AV:=([(.int .i64 3),(.sl 5 [(.agg [(.int .i64 2),(.int .i64 0),(.int .i64 1),(.int .i64 0),(.int .i64 0)]),(.agg [(.int .i64 2),(.int .i64 0),(.int .i64 2),(.int .i64 0),(.int .i64 0)]),(.agg [(.int .i64 1),(.int .i64 1),(.int .i64 0),(.int .i64 0),(.int .i64 0)])])],(.d (.int .i64 0)))
theorem k3:KnownCall Try.prog 48 e3.1 e3.2:=knownF T0_ok Yo (by kernel_rfl) Ft_ok (k:=100000) (n:=60) (by kernel_rfl)
def e4:List DV × AV:=([(.fn (.func 101) [] [(.ep [(.sl 5 [(.agg [(.int .i64 2),(.int .i64 0),(.int .i64 1),(.int .i64 0),(.int .i64 0)]),(.agg [(.int .i64 2),(.int .i64 0),(.int .i64 2),(.int .i64 0),(.int .i64 0)]),(.agg [(.int .i64 1),(.int .i64 1),(.int .i64 0),(.int .i64 0),(.int .i64 0)])])]),(.ep [(.sl 5 [(.agg [(.int .i64 0),(.int .i64 0),(.int .i64 0),(.int .i64 0),(.int .i64 0)])])]),(.ep [(.int .i64 2)])])],(.d (.sl 5 [(.agg [(.int .i64 2),(.int .i64 0),(.int .i64 1),(.int .i64 0),(.int .i64 0)]),(.agg [(.int .i64 2),(.int .i64 0),(.int .i64 2),(.int .i64 0),(.int .i64 0)]),(.agg [(.int .i64 1),(.int .i64 1),(.int .i64 0),(.int .i64 0),(.int .i64 0)])])))
theorem k4:KnownCall Try.prog 73 e4.1 e4.2:=knownF T0_ok Yo (by kernel_rfl) Ft_ok (k:=100000) (n:=60) (by kernel_rfl)
def e5:List DV × AV:=([(.fn (.func 101) [] [(.ep [(.sl 5 [(.agg [(.int .i64 0),(.int .i64 0),(.int .i64 0),(.int .i64 0),(.int .i64 0)]),(.agg [(.int .i64 1),(.int .i64 0),(.int .i64 0),(.int .i64 0),(.int .i64 0)])])]),(.ep [(.sl 5 [(.agg [(.int .i64 1),(.int .i64 1),(.int .i64 0),(.int .i64 0),(.int .i64 0)]),(.agg [(.int .i64 2),(.int .i64 1),(.int .i64 2),(.int .i64 0),(.int .i64 0)])])]),(.ep [(.int .i64 2)])])],(.d (.sl 5 [(.agg [(.int .i64 2),(.int .i64 0),(.int .i64 1),(.int .i64 0),(.int .i64 0)]),(.agg [(.int .i64 1),(.int .i64 1),(.int .i64 0),(.int .i64 0),(.int .i64 0)]),(.agg [(.int .i64 2),(.int .i64 1),(.int .i64 2),(.int .i64 0),(.int .i64 0)])])))
theorem k5:KnownCall Try.prog 73 e5.1 e5.2:=knownF T0_ok Yo (by kernel_rfl) Ft_ok (k:=100000) (n:=60) (by kernel_rfl)
def T1:Memo:=(.node (.node (.node (.node .nil none (.node (.node (.node .nil (some [e0,e1]) .nil) none .nil) none .nil)) none .nil) none (.node (.node .nil none (.node (.node (.node .nil (some [e4,e5]) .nil) none .nil) none .nil)) none .nil)) none (.node (.node (.node (.node .nil none (.node .nil (some [e3]) .nil)) none .nil) none .nil) none .nil))
theorem T1_ok:MemoOK Try.prog T1:=⟨trivial,⟨trivial,⟨trivial,⟨trivial,trivial,⟨trivial,⟨trivial,⟨⟨k0,k1,trivial⟩,trivial,trivial⟩,trivial⟩,trivial⟩⟩,trivial⟩,⟨trivial,⟨trivial,trivial,⟨trivial,⟨trivial,⟨⟨k4,k5,trivial⟩,trivial,trivial⟩,trivial⟩,trivial⟩⟩,trivial⟩⟩,⟨trivial,⟨trivial,⟨trivial,⟨trivial,trivial,⟨⟨k3,trivial⟩,trivial,trivial⟩⟩,trivial⟩,trivial⟩,trivial⟩⟩
def e2:List DV × AV:=([(.int .i64 3),(.int .i64 1),(.sl 5 [(.agg [(.int .i64 0),(.int .i64 0),(.int .i64 0),(.int .i64 0),(.int .i64 0)]),(.agg [(.int .i64 1),(.int .i64 0),(.int .i64 0),(.int .i64 0),(.int .i64 0)])]),(.sl 5 [(.agg [(.int .i64 1),(.int .i64 1),(.int .i64 0),(.int .i64 0),(.int .i64 0)]),(.agg [(.int .i64 2),(.int .i64 1),(.int .i64 2),(.int .i64 0),(.int .i64 0)])])],(.tup [(.d (.sl 5 [(.agg [(.int .i64 1),(.int .i64 0),(.int .i64 0),(.int .i64 0),(.int .i64 0)]),(.agg [(.int .i64 1),(.int .i64 1),(.int .i64 0),(.int .i64 0),(.int .i64 0)])])),(.d (.int .i64 0))]))
theorem k2:KnownCall Try.prog 37 e2.1 e2.2:=knownF T1_ok Yo (by kernel_rfl) Ft_ok (k:=100000) (n:=60) (by kernel_rfl)
def e6:List DV × AV:=([(.int .i64 3),(.int .i64 2),(.sl 5 [(.agg [(.int .i64 0),(.int .i64 0),(.int .i64 0),(.int .i64 0),(.int .i64 0)]),(.agg [(.int .i64 1),(.int .i64 0),(.int .i64 0),(.int .i64 0),(.int .i64 0)])]),(.sl 5 [(.agg [(.int .i64 1),(.int .i64 1),(.int .i64 0),(.int .i64 0),(.int .i64 0)]),(.agg [(.int .i64 2),(.int .i64 1),(.int .i64 2),(.int .i64 0),(.int .i64 0)])])],(.tup [(.d (.sl 5 [(.agg [(.int .i64 2),(.int .i64 0),(.int .i64 1),(.int .i64 0),(.int .i64 0)]),(.agg [(.int .i64 1),(.int .i64 1),(.int .i64 0),(.int .i64 0),(.int .i64 0)]),(.agg [(.int .i64 2),(.int .i64 1),(.int .i64 2),(.int .i64 0),(.int .i64 0)])])),(.d (.int .i64 0))]))
theorem k6:KnownCall Try.prog 37 e6.1 e6.2:=knownF T1_ok Yo (by kernel_rfl) Ft_ok (k:=100000) (n:=60) (by kernel_rfl)
def T2:Memo:=(.node (.node (.node (.node .nil none (.node (.node (.node .nil (some [e0,e1]) .nil) none .nil) none .nil)) none .nil) none (.node (.node .nil none (.node (.node (.node .nil (some [e4,e5]) .nil) none .nil) none .nil)) none (.node (.node (.node .nil (some [e2,e6]) .nil) none .nil) none .nil))) none (.node (.node (.node (.node .nil none (.node .nil (some [e3]) .nil)) none .nil) none .nil) none .nil))
theorem T2_ok:MemoOK Try.prog T2:=⟨trivial,⟨trivial,⟨trivial,⟨trivial,trivial,⟨trivial,⟨trivial,⟨⟨k0,k1,trivial⟩,trivial,trivial⟩,trivial⟩,trivial⟩⟩,trivial⟩,⟨trivial,⟨trivial,trivial,⟨trivial,⟨trivial,⟨⟨k4,k5,trivial⟩,trivial,trivial⟩,trivial⟩,trivial⟩⟩,⟨trivial,⟨trivial,⟨⟨k2,k6,trivial⟩,trivial,trivial⟩,trivial⟩,trivial⟩⟩⟩,⟨trivial,⟨trivial,⟨trivial,⟨trivial,trivial,⟨⟨k3,trivial⟩,trivial,trivial⟩⟩,trivial⟩,trivial⟩,trivial⟩⟩
def e7:List DV × AV:=([],(.d (.bool true)))
theorem k7:KnownCall Try.prog 33 e7.1 e7.2:=knownF T2_ok Yo (by kernel_rfl) Ft_ok (k:=100000) (n:=60) (by kernel_rfl)
def T3:Memo:=(.node (.node (.node (.node .nil none (.node (.node (.node .nil (some [e0,e1]) .nil) none .nil) none .nil)) none .nil) none (.node (.node (.node (.node .nil (some [e7]) .nil) none .nil) none (.node (.node (.node .nil (some [e4,e5]) .nil) none .nil) none .nil)) none (.node (.node (.node .nil (some [e2,e6]) .nil) none .nil) none .nil))) none (.node (.node (.node (.node .nil none (.node .nil (some [e3]) .nil)) none .nil) none .nil) none .nil))
theorem T3_ok:MemoOK Try.prog T3:=⟨trivial,⟨trivial,⟨trivial,⟨trivial,trivial,⟨trivial,⟨trivial,⟨⟨k0,k1,trivial⟩,trivial,trivial⟩,trivial⟩,trivial⟩⟩,trivial⟩,⟨trivial,⟨trivial,⟨trivial,⟨⟨k7,trivial⟩,trivial,trivial⟩,trivial⟩,⟨trivial,⟨trivial,⟨⟨k4,k5,trivial⟩,trivial,trivial⟩,trivial⟩,trivial⟩⟩,⟨trivial,⟨trivial,⟨⟨k2,k6,trivial⟩,trivial,trivial⟩,trivial⟩,trivial⟩⟩⟩,⟨trivial,⟨trivial,⟨trivial,⟨trivial,trivial,⟨⟨k3,trivial⟩,trivial,trivial⟩⟩,trivial⟩,trivial⟩,trivial⟩⟩
def e8:List DV × AV:=([],(.d (.bool true)))
theorem k8:KnownCall Try.prog 42 e8.1 e8.2:=knownF T3_ok Yo (by kernel_rfl) Ft_ok (k:=100000) (n:=60) (by kernel_rfl)
def T4:Memo:=(.node (.node (.node (.node .nil none (.node (.node (.node .nil (some [e0,e1]) .nil) none .nil) none .nil)) none .nil) none (.node (.node (.node (.node .nil (some [e7]) .nil) none .nil) none (.node (.node (.node .nil (some [e4,e5]) .nil) none .nil) none .nil)) none (.node (.node (.node .nil (some [e2,e6]) .nil) none .nil) none .nil))) none (.node (.node (.node (.node .nil none (.node .nil (some [e3]) .nil)) none .nil) none .nil) none (.node (.node .nil none (.node (.node .nil (some [e8]) .nil) none .nil)) none .nil)))
theorem T4_ok:MemoOK Try.prog T4:=⟨trivial,⟨trivial,⟨trivial,⟨trivial,trivial,⟨trivial,⟨trivial,⟨⟨k0,k1,trivial⟩,trivial,trivial⟩,trivial⟩,trivial⟩⟩,trivial⟩,⟨trivial,⟨trivial,⟨trivial,⟨⟨k7,trivial⟩,trivial,trivial⟩,trivial⟩,⟨trivial,⟨trivial,⟨⟨k4,k5,trivial⟩,trivial,trivial⟩,trivial⟩,trivial⟩⟩,⟨trivial,⟨trivial,⟨⟨k2,k6,trivial⟩,trivial,trivial⟩,trivial⟩,trivial⟩⟩⟩,⟨trivial,⟨trivial,⟨trivial,⟨trivial,trivial,⟨⟨k3,trivial⟩,trivial,trivial⟩⟩,trivial⟩,trivial⟩,⟨trivial,⟨trivial,trivial,⟨trivial,⟨⟨k8,trivial⟩,trivial,trivial⟩,trivial⟩⟩,trivial⟩⟩⟩
theorem known42:KnownCall Try.prog 42 [] (.d (.bool true)):=knownF T4_ok Yo (by kernel_rfl) Ft_ok (k:=100000) (n:=60) (by kernel_rfl)
section
variable {H:Type} {enc:TypeId × Value->H} {w:World} {spare:Nat->Bool} {held:Bool} {fuel:Nat} {cs:List Value} {x:DataW H × List MemPlace}
abbrev Wf64 (n:Int):Prop:=(Lit.int .i64 n).wf=true
theorem cr_ints (hsp:∀ b,spare b=true) (h:DataW.trod enc Try.prog w 0 spare held fuel 23 cs=some x):∃ l:List Int,CellsRep (heapD w) (ints l) cs/\l.length<=maxLen/\∀ n ∈ l,Wf64 n :=
 cr_slice (DV.int .i64) Wf64 Try.underlying23 (by kernel_rfl) (Nat.le_refl _) hsp (fun n cs' y _ hy=>cr_int Try.underlying3 hy) h
theorem arg_ints {r:Reach} {b0:Nat} {v:Value} {d:DataW H} {ps:List MemPlace} (hsp:∀ b,spare b=true) (hval:Value.okWide Try.prog w r b0 23 v) (h:DataW.Trod enc Try.prog w 0 spare held 23 v d ps) :
  ∃ l:List Int,RepD (heapD w) (ints l) v/\l.length<=maxLen/\∀ n ∈ l,Wf64 n:=by
 obtain⟨es,he,l,rfl,hl⟩:=arg_slice (sz:=1) (R:=fun es=>∃ l:List Int,es=l.map (DV.int .i64)/\l.length<=maxLen/\∀ n ∈ l,Wf64 n) Try.underlying23 hval h (fun n x hx=>by
  obtain⟨l,h1,h2⟩:=cr_ints hsp hx;exact⟨_,h1,l,rfl,h2⟩)
 exact⟨l,he,hl⟩
end
structure MdS (a:List (List Nat)):Prop where
 ok:SetOK 3 a
 len:a.length<=16
theorem made_ok (nums:List Int):MdS (ascOf (numsL nums)):=by
 have hl:(numsL nums).length<=16:=by unfold numsL;simp;omega
 refine⟨setOK_asc (by omega) (fun x hx=>?_) (fun x hx=>?_),Nat.le_trans (asc_len _) hl⟩
 .unfold numsL at hx
  obtain⟨n,_,rfl⟩:=List.mem_map.1 hx;exact mkL_rt _
 .unfold numsL at hx
  obtain⟨n,_,rfl⟩:=List.mem_map.1 hx;exact mkL_lt _
theorem madeM (nums:List Int) (hn:∀ n ∈ nums,W64 n):∃ a,MdS a/\KnownCall Try.prog 43 [ints nums] (.tup [.d (lks a),.d (.bool true)]):=⟨_,made_ok nums,madeK nums hn⟩
theorem same_eq {a b:List (List Nat)} (h:a=b) (hR:∀ x ∈ a,Rt x) (hl:a.length<=1048576):KnownCall Try.prog 39 [lks a,lks b] (.d (.bool true)):=by
 have:=sameLk a b (fun x hx=>(hR x hx).len) hl
 rwa [decide_eq_true h] at this
theorem w64_b {n:Int} (h:(Lit.int .i64 n).wf=true):W64 n:=by
 simp only [Lit.wf,Bool.and_eq_true,decide_eq_true_eq] at h;exact h
theorem take_join {k:Nat} {x y:List Nat}:(x.take k++y.take k).take k=(x++y).take k:=by
 rw [List.take_append,List.take_append,List.take_take,List.take_take,Nat.min_self,List.length_take];rcases Nat.le_total k x.length with h|h
 .rw [Nat.min_eq_left h,Nat.sub_self,Nat.sub_eq_zero_of_le h,Nat.zero_min]
 .rw [Nat.min_eq_right h,Nat.min_eq_left (by omega)]
theorem take_left {k:Nat} {x y:List Nat}:(x.take k++y).take k=(x++y).take k:=by
 rw [List.take_append,List.take_append,List.take_take,Nat.min_self,List.length_take];rcases Nat.le_total k x.length with h|h
 .rw [Nat.min_eq_left h,Nat.sub_self,Nat.sub_eq_zero_of_le h]
 .rw [Nat.min_eq_right h]
theorem mem_cutS {k:Nat} {a:List (List Nat)} {z:List Nat}:z ∈ cutS k a ↔ ∃ x ∈ a,z=x.take k:=by
 simp only [cutS,mem_asc,mem_prs,List.mem_cons,List.not_mem_nil,or_false,exists_eq_left,List.append_nil]
theorem mem_sumS {k:Nat} {a b:List (List Nat)} {z:List Nat}:z ∈ sumS k a b ↔ ∃ x ∈ a,∃ y ∈ b,z=(x++y).take k:=by
 simp only [sumS,mem_asc,mem_prs,mem_cutS];constructor
 .rintro⟨_,⟨x,hx,rfl⟩,_,⟨y,hy,rfl⟩,rfl⟩;exact⟨x,hx,y,hy,take_join⟩
 .rintro⟨x,hx,y,hy,rfl⟩;exact⟨_,⟨x,hx,rfl⟩,_,⟨y,hy,rfl⟩,take_join.symm⟩
theorem cut_cut {n k:Nat} (h:n<=k) (a:List (List Nat)):cutS n (cutS k a)=cutS n a:=asc_ext (asc_asc _) (asc_asc _) fun z=>by
 simp only [mem_cutS];constructor
 .rintro⟨_,⟨x,hx,rfl⟩,rfl⟩;exact⟨x,hx,by rw [List.take_take,Nat.min_eq_left h]⟩
 .rintro⟨x,hx,rfl⟩;exact⟨_,⟨x,hx,rfl⟩,by rw [List.take_take,Nat.min_eq_left h]⟩
theorem sum_cut (k:Nat) (a b:List (List Nat)):sumS k (cutS k a) (cutS k b)=sumS k a b:=asc_ext (asc_asc _) (asc_asc _) fun z=>by
 simp only [mem_sumS,mem_cutS];constructor
 .rintro⟨_,⟨x,hx,rfl⟩,_,⟨y,hy,rfl⟩,rfl⟩;exact⟨x,hx,y,hy,take_join⟩
 .rintro⟨x,hx,y,hy,rfl⟩;exact⟨_,⟨x,hx,rfl⟩,_,⟨y,hy,rfl⟩,take_join.symm⟩
theorem setOK_cut {n k:Nat} (hk:k<=4) {a:List (List Nat)} (h:SetOK n a):SetOK n (cutS k a) :=
 ⟨Nat.le_trans (cutS_len k a) h.len,cutS_rt hk h.rt,cutS_lt h.lt,asc_asc _⟩
theorem setOK_sum {n k:Nat} (hk:k<=4) {a b:List (List Nat)} (ha:SetOK n a) (hb:SetOK n b) (hl:a.length*b.length<=4681):SetOK n (sumS k a b) :=
 ⟨Nat.le_trans (sumS_len k a b) hl,fun z hz=>prs_rt hk (cutS_rt hk ha.rt) (cutS_rt hk hb.rt) z (mem_asc.1 hz),fun z hz=>prs_lt (cutS_lt ha.lt) (cutS_lt hb.lt) z (mem_asc.1 hz),asc_asc _⟩
set_option maxHeartbeats 2000000 in
theorem lawC (p q:List Int) (k n:Int) (hp:∀ n ∈ p,W64 n) (hq:∀ n ∈ q,W64 n) (hk:W64 k) (hn:W64 n):KnownCall Try.prog 10 [ints p,ints q,.int .i64 k,.int .i64 n] (.d (.bool true)):=by
 obtain⟨a,ha,ka⟩:=madeM p hp;obtain⟨b,hb,kb⟩:=madeM q hq;have hal:=ha.len;have hbl:=hb.len;have k0:=known42;have km:=mod4 k hk;have kn:=mod4 n hn;have hm4:=mdN_lt (show 0<4 by decide) k;have hn4:=mdN_lt (show 0<4 by decide) n;have hadd:∀ m:Nat,m<4->AV.d (.int .i64 (IntKind.i64.wrap (1+((m:Nat):Int))))=.d (nI (1+m)):=fun m hm=>by
  have h1:(1+((m:Nat):Int))=((1+m:Nat):Int):=by omega
  rw [h1,wrap_nat (by omega)]
 have a1:=hadd _ hm4;have a2:=hadd _ hn4;obtain⟨c,hc⟩:∃ c,c=1+mdN 4 k:=⟨_,rfl⟩
 obtain⟨e,he⟩:∃ e,e=1+mdN 4 n:=⟨_,rfl⟩
 rw [<- hc] at a1;rw [<- he] at a2;have hmax:AV.d (.int .i64 (if(c:Int)<(e:Int) then(e:Int) else(c:Int)))=.d (nI (max c e)):=by
  congr 2;split<;>omega
 have hmin:AV.d (.int .i64 (if(e:Int)<(c:Int) then(e:Int) else(c:Int)))=.d (nI (min c e)):=by
  congr 2;split<;>omega
 obtain⟨d,hd⟩:∃ d,d=max c e:=⟨_,rfl⟩
 obtain⟨m,hm⟩:∃ m,m=min c e:=⟨_,rfl⟩
 rw [<- hd] at hmax;rw [<- hm] at hmin;have d1:1<=d:=by omega
 have d4:d<=4:=by omega
 have m1:1<=m:=by omega
 have m4:m<=4:=by omega
 have hmd:m<=d:=by omega
 have hab:a.length*b.length<=256:=Nat.mul_le_mul hal hbl;have c1:=cutSet 3 (by omega) (by omega) d d1 d4 a ha.ok;have c2:=cutSet 3 (by omega) (by omega) m m1 m4 a ha.ok;have c3:=cutSet 3 (by omega) (by omega) m m1 m4 _ (setOK_cut d4 ha.ok);rw [cut_cut hmd] at c3;have c4:=cutSet 3 (by omega) (by omega) d d1 d4 b hb.ok;have c5:=sumSet 3 (by omega) (by omega) d d1 d4 a b ha.ok hb.ok (by omega);have c6:=sumSet 3 (by omega) (by omega) d d1 d4 _ _ (setOK_cut d4 ha.ok) (setOK_cut d4 hb.ok) (Nat.le_trans (Nat.mul_le_mul (cutS_len d a) (cutS_len d b)) (by omega));rw [sum_cut] at c6;have hsum:=setOK_sum d4 ha.ok hb.ok (by omega);have han:=setOK_cut m4 ha.ok;have l1:(cutS m a).length<=(cutS d a).length:=by have:=cutS_len m (cutS d a);rwa [cut_cut hmd] at this
 have l2:=cutS_len d a;have hN:∀ x ∈ cutS m a,x.length<=m:=fun x hx=>by
  obtain⟨y,_,rfl⟩:=mem_cutS.1 hx;rw [List.length_take];omega
 generalize sumS d a b=sab at *;generalize cutS m a=an at *;generalize cutS d a=ak at *;generalize cutS d b=bk at *;have e1:=same_eq (rfl:an=an) han.rt (by have:=han.len;omega);have e2:=same_eq (rfl:sab=sab) hsum.rt (by have:=hsum.len;omega);clear ha hb hp hq hsum;refine kF Try.func10 [] fun w=>?_
 repeat' (first|refine zV hmin ?_|refine zV hmax ?_|refine zV a2 ?_|refine zV a1 ?_|refine zW ?_|refine zB ?_ ?_<;>intro h<;>try exact zk h|refine zX ?_|refine zC (k0) ?_|refine zC (ka) ?_|refine zC (kb) ?_|refine zC (km) ?_|refine zC (kn) ?_|refine zC (c1) ?_|refine zC (c2) ?_|refine zC (c3) ?_|refine zC (c4) ?_|refine zC (c5) ?_|refine zC (c6) ?_|refine zC (e1) ?_|refine zC (e2) ?_|exact zk h|fail)
 refine Run.loop (fun i:Nat=>⟨PT.ofList [(3,.d (nI m)),(9,.d (.bool true)),(10,.d (lks a)),(14,.d (lks ak)),(16,.d (lks an)),(26,.d (.int .i64 i))],[],[]⟩) (fun i=>i<=an.length) (fun i=>an.length-i) 0 (Nat.zero_le _) (weak_of (by repeat' (first|exact trivial|refine⟨rfl,?_⟩))) (fun i hi=>?_);rcases Nat.lt_or_ge i an.length with hlt|hge
 .obtain⟨x,hx⟩:=get_ok hlt
  have hxN:=hN x (List.mem_of_getElem? hx);have hanl:=han.len
  repeat' (first|refine zW ?_|refine zB ?_ ?_<;>intro h<;>try exact zk h|refine zX ?_|refine zI w (.d (.ep (lkC x))) hx ?_|rfl|(exact⟨i+1,hlt,by omega,weak_of (by repeat' (first|exact trivial|refine⟨rfl,?_⟩|refine⟨(inc_get (k:=i) (by kernel_rfl) (by omega)),?_⟩))⟩)|exact zk h|fail)
 .have hie:i=an.length:=by omega
  subst hie
  repeat' (first|refine zW ?_|refine zB ?_ ?_<;>intro h<;>try exact zk h|refine zX ?_|rfl|exact zk h|fail)
theorem lawCA (p:List Int) (hp:p.length<=maxLen/\∀ n ∈ p,Wf64 n) (q:List Int) (hq:q.length<=maxLen/\∀ n ∈ q,Wf64 n) (k:Int) (hk:(Lit.int .i64 k).wf=true) (n:Int) (hn:(Lit.int .i64 n).wf=true) :
  KnownCall Try.prog 10 [ints p,ints q,.int .i64 k,.int .i64 n] (.d (.bool true)):=lawC p q k n (fun n h=>w64_b (hp.2 n h)) (fun n h=>w64_b (hq.2 n h)) (w64_b hk) (w64_b hn)
end Go.Av
end

/-
  Parts of the way to the law, joined: rules for code over data, and what the functions return. Conditions stand at each.
-/
import Derived.Test.YtchoocpngfhkpaaN2
import Derived.Test.YtchoocpngfhkpaaRows
namespace Go.Av
open Go Go.Proofs
def ty3 : Ty := ⟨.int .i64, 1, 8, [(.int .i64 0)]⟩
def ty4 : Ty := ⟨.bool, 1, 1, [(.bool false)]⟩
def ty5 : Ty := ⟨.int .u8, 1, 1, [(.int .u8 0)]⟩
def ty9 : Ty := ⟨.string, 1, 16, [(.str [])]⟩
def ty20 : Ty := ⟨.interface #[], 1, 16, [.niliface]⟩
def ty21 : Ty := ⟨.int .i32, 1, 4, [(.int .i32 0)]⟩
def ty22 : Ty := ⟨.slice 9, 1, 24, [.nilsl]⟩
def ty23 : Ty := ⟨.slice 43, 1, 24, [.nilsl]⟩
def ty25 : Ty := ⟨.struct #[⟨ "K", 3, 0, false, "", "", 0⟩, ⟨ "Tokens", 22, 1, false, "", "", 8⟩, ⟨ "Sep", 9, 2, false, "", "", 32⟩, ⟨ "Names", 22, 3, false, "", "", 48⟩, ⟨ "Start", 3, 4, false, "", "", 72⟩, ⟨ "Prods", 23, 5, false, "", "", 80⟩], 6, 104, [(.int .i64 0), .nilsl, (.str []), .nilsl, (.int .i64 0), .nilsl]⟩
def ty29 : Ty := ⟨.int .i64, 1, 8, [(.int .i64 0)]⟩
def ty32 : Ty := ⟨.slice 3, 1, 24, [.nilsl]⟩
def ty43 : Ty := ⟨.struct #[⟨ "Left", 3, 0, false, "", "", 0⟩, ⟨ "Right", 32, 1, false, "", "", 8⟩], 2, 32, [(.int .i64 0), .nilsl]⟩
def ty44 : Ty := ⟨.func #[25] #[29] false, 1, 8, [.nilfunc]⟩
def ty47 : Ty := ⟨.slice 53, 1, 24, [.nilsl]⟩
def ty49 : Ty := ⟨.struct #[⟨ "K", 3, 0, false, "", "", 0⟩, ⟨ "Tokens", 22, 1, false, "", "", 8⟩, ⟨ "Sep", 9, 2, false, "", "", 32⟩, ⟨ "Start", 9, 3, false, "", "", 48⟩, ⟨ "Rules", 47, 4, false, "", "", 64⟩], 5, 88, [(.int .i64 0), .nilsl, (.str []), (.str []), .nilsl]⟩
def ty51 : Ty := ⟨.slice 22, 1, 24, [.nilsl]⟩
def ty53 : Ty := ⟨.struct #[⟨ "Name", 9, 0, false, "", "", 0⟩, ⟨ "Alts", 51, 1, false, "", "", 16⟩], 2, 40, [(.str []), .nilsl]⟩
def ty61 : Ty := ⟨.func #[90] #[] false, 1, 8, [.nilfunc]⟩
def ty62 : Ty := ⟨.func #[90] #[] false, 1, 8, [.nilfunc]⟩
def ty69 : Ty := ⟨.slice 44, 1, 24, [.nilsl]⟩
def ty72 : Ty := ⟨.slice 5, 1, 24, [.nilsl]⟩
def ty73 : Ty := ⟨.int .u64, 1, 8, [(.int .u64 0)]⟩
def ty75 : Ty := ⟨.map 9 3, 1, 8, [.nilmap]⟩
def ty77 : Ty := ⟨.func #[9] #[4] false, 1, 8, [.nilfunc]⟩
def ty78 : Ty := ⟨.map 9 4, 1, 8, [.nilmap]⟩
def ty80 : Ty := ⟨.func #[3] #[4] false, 1, 8, [.nilfunc]⟩
def ty82 : Ty := ⟨.func #[43] #[4] false, 1, 8, [.nilfunc]⟩
def ty85 : Ty := ⟨.func #[53] #[4] false, 1, 8, [.nilfunc]⟩
def ty90 : Ty := ⟨.func #[3, 43] #[4] false, 1, 8, [.nilfunc]⟩
def ty99 : Ty := ⟨.array 4 9, 4, 64, [(.str []), (.str []), (.str []), (.str [])]⟩
noncomputable def Et : PT Ty := (.node (.node (.node (.node (.node .nil none (.node .nil (some ty47) .nil)) none (.node .nil (some ty23) .nil)) (some ty3) (.node (.node (.node .nil none (.node .nil (some ty99) .nil)) none (.node .nil (some ty51) .nil)) none (.node (.node (.node .nil (some ty75) .nil) (some ty43) .nil) none .nil))) none (.node (.node (.node .nil none (.node .nil (some ty49) .nil)) (some ty9) (.node (.node (.node .nil (some ty73) .nil) none .nil) (some ty25) .nil)) (some ty5) (.node (.node (.node (.node .nil (some ty69) .nil) none .nil) (some ty21) (.node (.node .nil (some ty85) .nil) (some ty53) .nil)) none (.node (.node (.node .nil (some ty77) .nil) none .nil) (some ty29) (.node .nil (some ty61) .nil))))) none (.node (.node (.node (.node (.node .nil (some ty32) .nil) none (.node (.node .nil (some ty80) .nil) none .nil)) none (.node (.node (.node .nil (some ty72) .nil) none .nil) none .nil)) (some ty4) (.node (.node .nil (some ty20) .nil) none (.node (.node .nil (some ty44) .nil) none .nil))) none (.node (.node (.node .nil none (.node (.node .nil (some ty82) .nil) none .nil)) none (.node .nil none (.node (.node .nil (some ty90) .nil) none .nil))) none (.node (.node .nil (some ty22) .nil) none (.node (.node (.node .nil (some ty78) .nil) none .nil) none (.node .nil (some ty62) .nil))))))
noncomputable def Ft : PT FnI := (.node (.node (.node (.node (.node (.node (.node .nil (some (mkFn Try.f63 [])) .nil) (some (mkFn Try.f31 [2])) (.node .nil (some (mkFn Try.f95 [])) .nil)) (some (mkFn Try.f15 [2, 200001])) (.node (.node .nil (some (mkFn Try.f79 [1, 19])) .nil) (some (mkFn Try.f47 [1])) .nil)) (some (mkFn Try.f7 [1])) (.node (.node (.node .nil (some (mkFn Try.f71 [])) .nil) (some (mkFn Try.f39 [2])) (.node .nil (some (mkFn Try.f103 [])) .nil)) (some (mkFn Try.f23 [1, 13, 200001])) (.node (.node .nil (some (mkFn Try.f87 [])) .nil) (some (mkFn Try.f55 [1, 12])) .nil))) (some (mkFn Try.f3 [4])) (.node (.node (.node (.node .nil (some (mkFn Try.f67 [])) .nil) (some (mkFn Try.f35 [2, 24])) (.node .nil (some (mkFn Try.f99 [])) .nil)) (some (mkFn Try.f19 [2, 200001])) (.node (.node .nil (some (mkFn Try.f83 [])) .nil) (some (mkFn Try.f51 [131080, 1, 11])) .nil)) (some (mkFn Try.f11 [2])) (.node (.node (.node .nil (some (mkFn Try.f75 [1])) .nil) (some (mkFn Try.f43 [1])) .nil) (some (mkFn Try.f27 [1, 42, 94, 100])) (.node (.node .nil (some (mkFn Try.f91 [])) .nil) (some (mkFn Try.f59 [])) .nil)))) none (.node (.node (.node (.node (.node .nil (some (mkFn Try.f65 [1, 16])) .nil) (some (mkFn Try.f33 [2])) (.node .nil (some (mkFn Try.f97 [65558, 200000])) .nil)) (some (mkFn Try.f17 [2, 200001])) (.node (.node .nil (some (mkFn Try.f81 [1])) .nil) (some (mkFn Try.f49 [])) .nil)) (some (mkFn Try.f9 [35])) (.node (.node (.node .nil (some (mkFn Try.f73 [])) .nil) (some (mkFn Try.f41 [2])) .nil) (some (mkFn Try.f25 [])) (.node (.node .nil (some (mkFn Try.f89 [131096])) .nil) (some (mkFn Try.f57 [1])) .nil))) (some (mkFn Try.f5 [])) (.node (.node (.node (.node .nil (some (mkFn Try.f69 [1])) .nil) (some (mkFn Try.f37 [2])) (.node .nil (some (mkFn Try.f101 [])) .nil)) (some (mkFn Try.f21 [2, 3])) (.node (.node .nil (some (mkFn Try.f85 [])) .nil) (some (mkFn Try.f53 [1, 28])) .nil)) (some (mkFn Try.f13 [2])) (.node (.node (.node .nil (some (mkFn Try.f77 [1])) .nil) (some (mkFn Try.f45 [1, 18])) .nil) (some (mkFn Try.f29 [])) (.node (.node .nil (some (mkFn Try.f93 [])) .nil) (some (mkFn Try.f61 [])) .nil))))) none (.node (.node (.node (.node (.node (.node .nil (some (mkFn Try.f64 [2])) .nil) (some (mkFn Try.f32 [1])) (.node .nil (some (mkFn Try.f96 [])) .nil)) (some (mkFn Try.f16 [2])) (.node (.node .nil (some (mkFn Try.f80 [2])) .nil) (some (mkFn Try.f48 [1])) .nil)) (some (mkFn Try.f8 [39])) (.node (.node (.node .nil (some (mkFn Try.f72 [])) .nil) (some (mkFn Try.f40 [2])) (.node .nil (some (mkFn Try.f104 [])) .nil)) (some (mkFn Try.f24 [19, 40, 42, 96, 105, 111])) (.node (.node .nil (some (mkFn Try.f88 [])) .nil) (some (mkFn Try.f56 [1])) .nil))) (some (mkFn Try.f4 [73, 101, 102, 114, 134, 131181])) (.node (.node (.node (.node .nil (some (mkFn Try.f68 [1])) .nil) (some (mkFn Try.f36 [])) (.node .nil (some (mkFn Try.f100 [])) .nil)) (some (mkFn Try.f20 [2])) (.node (.node .nil (some (mkFn Try.f84 [])) .nil) (some (mkFn Try.f52 [])) .nil)) (some (mkFn Try.f12 [2, 3, 30])) (.node (.node (.node .nil (some (mkFn Try.f76 [1])) .nil) (some (mkFn Try.f44 [1, 28])) .nil) (some (mkFn Try.f28 [])) (.node (.node .nil (some (mkFn Try.f92 [])) .nil) (some (mkFn Try.f60 [])) .nil)))) none (.node (.node (.node (.node (.node .nil (some (mkFn Try.f66 [1])) .nil) (some (mkFn Try.f34 [1])) (.node .nil (some (mkFn Try.f98 [])) .nil)) (some (mkFn Try.f18 [2])) (.node (.node .nil (some (mkFn Try.f82 [])) .nil) (some (mkFn Try.f50 [])) .nil)) (some (mkFn Try.f10 [2, 200001])) (.node (.node (.node .nil (some (mkFn Try.f74 [])) .nil) (some (mkFn Try.f42 [])) .nil) (some (mkFn Try.f26 [1, 57, 95, 102])) (.node (.node .nil (some (mkFn Try.f90 [])) .nil) (some (mkFn Try.f58 [])) .nil))) (some (mkFn Try.f6 [1])) (.node (.node (.node (.node .nil (some (mkFn Try.f70 [3])) .nil) (some (mkFn Try.f38 [2])) (.node .nil (some (mkFn Try.f102 [])) .nil)) (some (mkFn Try.f22 [65537, 65538, 65539, 65542, 65544])) (.node (.node .nil (some (mkFn Try.f86 [])) .nil) (some (mkFn Try.f54 [1])) .nil)) (some (mkFn Try.f14 [])) (.node (.node (.node .nil (some (mkFn Try.f78 [])) .nil) (some (mkFn Try.f46 [1])) .nil) (some (mkFn Try.f30 [])) (.node (.node .nil (some (mkFn Try.f94 [])) .nil) (some (mkFn Try.f62 [])) .nil))))))
theorem Et_ok : EnvOK Try.prog Et := envOK_of ⟨trivial, ⟨trivial, ⟨⟨by kernel_rfl, by kernel_rfl⟩, ⟨trivial, ⟨trivial, trivial, ⟨⟨by kernel_rfl, by kernel_rfl⟩, trivial, trivial⟩⟩, ⟨⟨by kernel_rfl, by kernel_rfl⟩, trivial, trivial⟩⟩, ⟨trivial, ⟨trivial, ⟨trivial, trivial, ⟨⟨by kernel_rfl, by kernel_rfl⟩, trivial, trivial⟩⟩, ⟨⟨by kernel_rfl, by kernel_rfl⟩, trivial, trivial⟩⟩, ⟨trivial, ⟨⟨by kernel_rfl, by kernel_rfl⟩, ⟨⟨by kernel_rfl, by kernel_rfl⟩, trivial, trivial⟩, trivial⟩, trivial⟩⟩⟩, ⟨⟨by kernel_rfl, by kernel_rfl⟩, ⟨⟨by kernel_rfl, by kernel_rfl⟩, ⟨trivial, trivial, ⟨⟨by kernel_rfl, by kernel_rfl⟩, trivial, trivial⟩⟩, ⟨⟨by kernel_rfl, by kernel_rfl⟩, ⟨trivial, ⟨⟨by kernel_rfl, by kernel_rfl⟩, trivial, trivial⟩, trivial⟩, trivial⟩⟩, ⟨trivial, ⟨⟨by kernel_rfl, by kernel_rfl⟩, ⟨trivial, ⟨⟨by kernel_rfl, by kernel_rfl⟩, trivial, trivial⟩, trivial⟩, ⟨⟨by kernel_rfl, by kernel_rfl⟩, ⟨⟨by kernel_rfl, by kernel_rfl⟩, trivial, trivial⟩, trivial⟩⟩, ⟨⟨by kernel_rfl, by kernel_rfl⟩, ⟨trivial, ⟨⟨by kernel_rfl, by kernel_rfl⟩, trivial, trivial⟩, trivial⟩, ⟨⟨by kernel_rfl, by kernel_rfl⟩, trivial, trivial⟩⟩⟩⟩⟩, ⟨trivial, ⟨⟨by kernel_rfl, by kernel_rfl⟩, ⟨trivial, ⟨trivial, ⟨⟨by kernel_rfl, by kernel_rfl⟩, trivial, trivial⟩, ⟨trivial, ⟨⟨by kernel_rfl, by kernel_rfl⟩, trivial, trivial⟩, trivial⟩⟩, ⟨trivial, ⟨trivial, ⟨⟨by kernel_rfl, by kernel_rfl⟩, trivial, trivial⟩, trivial⟩, trivial⟩⟩, ⟨trivial, ⟨⟨by kernel_rfl, by kernel_rfl⟩, trivial, trivial⟩, ⟨trivial, ⟨⟨by kernel_rfl, by kernel_rfl⟩, trivial, trivial⟩, trivial⟩⟩⟩, ⟨trivial, ⟨trivial, ⟨trivial, trivial, ⟨trivial, ⟨⟨by kernel_rfl, by kernel_rfl⟩, trivial, trivial⟩, trivial⟩⟩, ⟨trivial, trivial, ⟨trivial, ⟨⟨by kernel_rfl, by kernel_rfl⟩, trivial, trivial⟩, trivial⟩⟩⟩, ⟨trivial, ⟨⟨by kernel_rfl, by kernel_rfl⟩, trivial, trivial⟩, ⟨trivial, ⟨trivial, ⟨⟨by kernel_rfl, by kernel_rfl⟩, trivial, trivial⟩, trivial⟩, ⟨⟨by kernel_rfl, by kernel_rfl⟩, trivial, trivial⟩⟩⟩⟩⟩⟩
theorem Ft_ok : FnsOK Try.prog Ft.get? := fnsOK_of ⟨trivial, ⟨trivial, ⟨(fnAt Try.func3 (by kernel_rfl) (by kernel_rfl)), ⟨(fnAt Try.func7 (by kernel_rfl) (by kernel_rfl)), ⟨(fnAt Try.func15 (by kernel_rfl) (by kernel_rfl)), ⟨(fnAt Try.func31 (by kernel_rfl) (by kernel_rfl)), ⟨(fnAt Try.func63 (by kernel_rfl) (by kernel_rfl)), trivial, trivial⟩, ⟨(fnAt Try.func95 (by kernel_rfl) (by kernel_rfl)), trivial, trivial⟩⟩, ⟨(fnAt Try.func47 (by kernel_rfl) (by kernel_rfl)), ⟨(fnAt Try.func79 (by kernel_rfl) (by kernel_rfl)), trivial, trivial⟩, trivial⟩⟩, ⟨(fnAt Try.func23 (by kernel_rfl) (by kernel_rfl)), ⟨(fnAt Try.func39 (by kernel_rfl) (by kernel_rfl)), ⟨(fnAt Try.func71 (by kernel_rfl) (by kernel_rfl)), trivial, trivial⟩, ⟨(fnAt Try.func103 (by kernel_rfl) (by kernel_rfl)), trivial, trivial⟩⟩, ⟨(fnAt Try.func55 (by kernel_rfl) (by kernel_rfl)), ⟨(fnAt Try.func87 (by kernel_rfl) (by kernel_rfl)), trivial, trivial⟩, trivial⟩⟩⟩, ⟨(fnAt Try.func11 (by kernel_rfl) (by kernel_rfl)), ⟨(fnAt Try.func19 (by kernel_rfl) (by kernel_rfl)), ⟨(fnAt Try.func35 (by kernel_rfl) (by kernel_rfl)), ⟨(fnAt Try.func67 (by kernel_rfl) (by kernel_rfl)), trivial, trivial⟩, ⟨(fnAt Try.func99 (by kernel_rfl) (by kernel_rfl)), trivial, trivial⟩⟩, ⟨(fnAt Try.func51 (by kernel_rfl) (by kernel_rfl)), ⟨(fnAt Try.func83 (by kernel_rfl) (by kernel_rfl)), trivial, trivial⟩, trivial⟩⟩, ⟨(fnAt Try.func27 (by kernel_rfl) (by kernel_rfl)), ⟨(fnAt Try.func43 (by kernel_rfl) (by kernel_rfl)), ⟨(fnAt Try.func75 (by kernel_rfl) (by kernel_rfl)), trivial, trivial⟩, trivial⟩, ⟨(fnAt Try.func59 (by kernel_rfl) (by kernel_rfl)), ⟨(fnAt Try.func91 (by kernel_rfl) (by kernel_rfl)), trivial, trivial⟩, trivial⟩⟩⟩⟩, ⟨(fnAt Try.func5 (by kernel_rfl) (by kernel_rfl)), ⟨(fnAt Try.func9 (by kernel_rfl) (by kernel_rfl)), ⟨(fnAt Try.func17 (by kernel_rfl) (by kernel_rfl)), ⟨(fnAt Try.func33 (by kernel_rfl) (by kernel_rfl)), ⟨(fnAt Try.func65 (by kernel_rfl) (by kernel_rfl)), trivial, trivial⟩, ⟨(fnAt Try.func97 (by kernel_rfl) (by kernel_rfl)), trivial, trivial⟩⟩, ⟨(fnAt Try.func49 (by kernel_rfl) (by kernel_rfl)), ⟨(fnAt Try.func81 (by kernel_rfl) (by kernel_rfl)), trivial, trivial⟩, trivial⟩⟩, ⟨(fnAt Try.func25 (by kernel_rfl) (by kernel_rfl)), ⟨(fnAt Try.func41 (by kernel_rfl) (by kernel_rfl)), ⟨(fnAt Try.func73 (by kernel_rfl) (by kernel_rfl)), trivial, trivial⟩, trivial⟩, ⟨(fnAt Try.func57 (by kernel_rfl) (by kernel_rfl)), ⟨(fnAt Try.func89 (by kernel_rfl) (by kernel_rfl)), trivial, trivial⟩, trivial⟩⟩⟩, ⟨(fnAt Try.func13 (by kernel_rfl) (by kernel_rfl)), ⟨(fnAt Try.func21 (by kernel_rfl) (by kernel_rfl)), ⟨(fnAt Try.func37 (by kernel_rfl) (by kernel_rfl)), ⟨(fnAt Try.func69 (by kernel_rfl) (by kernel_rfl)), trivial, trivial⟩, ⟨(fnAt Try.func101 (by kernel_rfl) (by kernel_rfl)), trivial, trivial⟩⟩, ⟨(fnAt Try.func53 (by kernel_rfl) (by kernel_rfl)), ⟨(fnAt Try.func85 (by kernel_rfl) (by kernel_rfl)), trivial, trivial⟩, trivial⟩⟩, ⟨(fnAt Try.func29 (by kernel_rfl) (by kernel_rfl)), ⟨(fnAt Try.func45 (by kernel_rfl) (by kernel_rfl)), ⟨(fnAt Try.func77 (by kernel_rfl) (by kernel_rfl)), trivial, trivial⟩, trivial⟩, ⟨(fnAt Try.func61 (by kernel_rfl) (by kernel_rfl)), ⟨(fnAt Try.func93 (by kernel_rfl) (by kernel_rfl)), trivial, trivial⟩, trivial⟩⟩⟩⟩⟩, ⟨trivial, ⟨(fnAt Try.func4 (by kernel_rfl) (by kernel_rfl)), ⟨(fnAt Try.func8 (by kernel_rfl) (by kernel_rfl)), ⟨(fnAt Try.func16 (by kernel_rfl) (by kernel_rfl)), ⟨(fnAt Try.func32 (by kernel_rfl) (by kernel_rfl)), ⟨(fnAt Try.func64 (by kernel_rfl) (by kernel_rfl)), trivial, trivial⟩, ⟨(fnAt Try.func96 (by kernel_rfl) (by kernel_rfl)), trivial, trivial⟩⟩, ⟨(fnAt Try.func48 (by kernel_rfl) (by kernel_rfl)), ⟨(fnAt Try.func80 (by kernel_rfl) (by kernel_rfl)), trivial, trivial⟩, trivial⟩⟩, ⟨(fnAt Try.func24 (by kernel_rfl) (by kernel_rfl)), ⟨(fnAt Try.func40 (by kernel_rfl) (by kernel_rfl)), ⟨(fnAt Try.func72 (by kernel_rfl) (by kernel_rfl)), trivial, trivial⟩, ⟨(fnAt Try.func104 (by kernel_rfl) (by kernel_rfl)), trivial, trivial⟩⟩, ⟨(fnAt Try.func56 (by kernel_rfl) (by kernel_rfl)), ⟨(fnAt Try.func88 (by kernel_rfl) (by kernel_rfl)), trivial, trivial⟩, trivial⟩⟩⟩, ⟨(fnAt Try.func12 (by kernel_rfl) (by kernel_rfl)), ⟨(fnAt Try.func20 (by kernel_rfl) (by kernel_rfl)), ⟨(fnAt Try.func36 (by kernel_rfl) (by kernel_rfl)), ⟨(fnAt Try.func68 (by kernel_rfl) (by kernel_rfl)), trivial, trivial⟩, ⟨(fnAt Try.func100 (by kernel_rfl) (by kernel_rfl)), trivial, trivial⟩⟩, ⟨(fnAt Try.func52 (by kernel_rfl) (by kernel_rfl)), ⟨(fnAt Try.func84 (by kernel_rfl) (by kernel_rfl)), trivial, trivial⟩, trivial⟩⟩, ⟨(fnAt Try.func28 (by kernel_rfl) (by kernel_rfl)), ⟨(fnAt Try.func44 (by kernel_rfl) (by kernel_rfl)), ⟨(fnAt Try.func76 (by kernel_rfl) (by kernel_rfl)), trivial, trivial⟩, trivial⟩, ⟨(fnAt Try.func60 (by kernel_rfl) (by kernel_rfl)), ⟨(fnAt Try.func92 (by kernel_rfl) (by kernel_rfl)), trivial, trivial⟩, trivial⟩⟩⟩⟩, ⟨(fnAt Try.func6 (by kernel_rfl) (by kernel_rfl)), ⟨(fnAt Try.func10 (by kernel_rfl) (by kernel_rfl)), ⟨(fnAt Try.func18 (by kernel_rfl) (by kernel_rfl)), ⟨(fnAt Try.func34 (by kernel_rfl) (by kernel_rfl)), ⟨(fnAt Try.func66 (by kernel_rfl) (by kernel_rfl)), trivial, trivial⟩, ⟨(fnAt Try.func98 (by kernel_rfl) (by kernel_rfl)), trivial, trivial⟩⟩, ⟨(fnAt Try.func50 (by kernel_rfl) (by kernel_rfl)), ⟨(fnAt Try.func82 (by kernel_rfl) (by kernel_rfl)), trivial, trivial⟩, trivial⟩⟩, ⟨(fnAt Try.func26 (by kernel_rfl) (by kernel_rfl)), ⟨(fnAt Try.func42 (by kernel_rfl) (by kernel_rfl)), ⟨(fnAt Try.func74 (by kernel_rfl) (by kernel_rfl)), trivial, trivial⟩, trivial⟩, ⟨(fnAt Try.func58 (by kernel_rfl) (by kernel_rfl)), ⟨(fnAt Try.func90 (by kernel_rfl) (by kernel_rfl)), trivial, trivial⟩, trivial⟩⟩⟩, ⟨(fnAt Try.func14 (by kernel_rfl) (by kernel_rfl)), ⟨(fnAt Try.func22 (by kernel_rfl) (by kernel_rfl)), ⟨(fnAt Try.func38 (by kernel_rfl) (by kernel_rfl)), ⟨(fnAt Try.func70 (by kernel_rfl) (by kernel_rfl)), trivial, trivial⟩, ⟨(fnAt Try.func102 (by kernel_rfl) (by kernel_rfl)), trivial, trivial⟩⟩, ⟨(fnAt Try.func54 (by kernel_rfl) (by kernel_rfl)), ⟨(fnAt Try.func86 (by kernel_rfl) (by kernel_rfl)), trivial, trivial⟩, trivial⟩⟩, ⟨(fnAt Try.func30 (by kernel_rfl) (by kernel_rfl)), ⟨(fnAt Try.func46 (by kernel_rfl) (by kernel_rfl)), ⟨(fnAt Try.func78 (by kernel_rfl) (by kernel_rfl)), trivial, trivial⟩, trivial⟩, ⟨(fnAt Try.func62 (by kernel_rfl) (by kernel_rfl)), ⟨(fnAt Try.func94 (by kernel_rfl) (by kernel_rfl)), trivial, trivial⟩, trivial⟩⟩⟩⟩⟩⟩
end Go.Av
noncomputable section
namespace Go.Av
open Go Go.Proofs
set_option maxRecDepth 10000
abbrev strs (l : List (List Nat)) : DV := .sl 1 (l.map .str)
abbrev ints (l : List Int) : DV := .sl 1 (l.map (.int .i64))
theorem get_ok {α : Type} {l : List α} {i : Nat} (h : i < l.length) : ∃ x, l[i]? = some x := ⟨l[i], by simp [h]⟩
end Go.Av
end
noncomputable section
namespace Go.Av
open Go Go.Proofs
set_option maxRecDepth 10000
structure GProd where
  left : Int
  right : List Int
structure Gram where
  k : Int
  tokens : List (List Nat)
  sep : List Nat
  names : List (List Nat)
  start : Int
  prods : List GProd
def encP (p : GProd) : DV := .agg [.int .i64 p.left, ints p.right]
abbrev encG (g : Gram) : DV := .agg [.int .i64 g.k, strs g.tokens, .str g.sep, strs g.names, .int .i64 g.start, .sl 2 (g.prods.map encP)]
structure Fits (g : Gram) : Prop where
  tokens : g.tokens.length ≤ 1048576
  names : g.names.length ≤ 1048576
  prods : g.prods.length ≤ 1048576
  sep : g.sep.length ≤ 1048576
  tokenS : ∀ s ∈ g.tokens, s.length ≤ 1048576
  nameS : ∀ s ∈ g.names, s.length ≤ 1048576
  rights : ∀ p ∈ g.prods, p.right.length ≤ 1048576
def isTerm (g : Gram) (s : Int) : Bool := decide (0 ≤ s) && decide (s < g.tokens.length)
def isNonterm (g : Gram) (s : Int) : Bool := decide (16 ≤ s) && decide (s < 16 + g.names.length)
theorem terminal0 (g : Gram) (s : Int) : ACall Try.prog 38 [.d (encG g), .d (.int .i64 s)] [] (.d (.bool (isTerm g s))) [] := by
  refine acall_of_run Et_ok (fnAt Try.func38 (by kernel_rfl) (by kernel_rfl) : FnAt _ _ (mkFn Try.f38 [2])) rfl rfl ?_
  by_cases h : 0 ≤ s
  · refine Run.seq (Run.region ?_)
    iterate 2 (first | refine oX (frz := [2]) Et_ok ?_ | refine eX ?_)
    refine RunOps.nil ?_
    refine Run.seq (Run.region ?_)
    iterate 1 (first | refine oX (frz := [2]) Et_ok ?_ | refine eX ?_)
    first | refine oX (frz := [2]) (v := .d (.bool true)) Et_ok ?_ (he := (by simp [h])) | refine eX (v := .d (.bool true)) ?_ (he := (by simp [h]))
    repeat (first
      | refine oX (frz := [2]) Et_ok ?_
      | refine oS ?_
      | refine RunOps.nil ?_
      | refine Run.region ?_
      | refine Run.seq ?_
      | refine Run.skip ?_
      | refine Run.block ?_
      | refine Run.exit ?_
      | refine Run.draw (frz := [2]) Et_ok (by kernel_rfl) ?_
      | refine eX ?_
      | refine eS ?_
      | refine eN ?_)
    refine Run.ret ?_
    refine ⟨trivial, rfl, Eq.trans (b := some (.d (.bool (decide (s < ((g.tokens.map DV.str).length : Nat)))))) (by kernel_rfl) ?_⟩
    simp [isTerm, h]
  · refine Run.seq (Run.region ?_)
    iterate 2 (first | refine oX (frz := [2]) Et_ok ?_ | refine eX ?_)
    refine RunOps.nil ?_
    refine Run.seq (Run.region ?_)
    iterate 1 (first | refine oX (frz := [2]) Et_ok ?_ | refine eX ?_)
    first | refine oX (frz := [2]) (v := .d (.bool false)) Et_ok ?_ (he := (by simp [h])) | refine eX (v := .d (.bool false)) ?_ (he := (by simp [h]))
    iterate 1 (first | refine oX (frz := [2]) Et_ok ?_ | refine eX ?_)
    iterate 5 refine RunOps.skip (by rfl) (by rfl) ?_
    repeat (first
      | refine oX (frz := [2]) Et_ok ?_
      | refine oS ?_
      | refine RunOps.nil ?_
      | refine Run.region ?_
      | refine Run.seq ?_
      | refine Run.skip ?_
      | refine Run.block ?_
      | refine Run.exit ?_
      | refine Run.draw (frz := [2]) Et_ok (by kernel_rfl) ?_
      | refine eX ?_
      | refine eS ?_
      | refine eN ?_)
    refine Run.ret ?_
    refine ⟨trivial, rfl, Eq.trans (b := some (.d (.bool false))) (by kernel_rfl) ?_⟩
    simp [isTerm, h]
theorem terminal (g : Gram) (s : Int) : KnownCall Try.prog 38 [encG g, .int .i64 s] (.d (.bool (isTerm g s))) := fun o => pure_call (k := 8) rfl (terminal0 g s) rfl o
end Go.Av
end
noncomputable section
namespace Go.Av
open Go Go.Proofs
set_option maxRecDepth 10000
theorem allProds0 (ps : List GProd) (hl : ps.length ≤ 1099511627776) (yi L : Nat) (B : Nat → List Ob) (hyi : Nat.blt yi L = true) (hL : ∀ k, (B k).length = L) (hR : ∀ k, (B k).all (refOb L) = true) (n : Nat) (hn : n ≤ ps.length)
    (hy : ∀ k p, k < n → ps[k]? = some p → AYield Try.prog yi [.d (.int .i64 k), .d (encP p)] (B k) (.d (.bool true)) (B (k + 1))) (obs : List Ob)
    (hend : n = ps.length ∧ obs = B n ∨ ∃ p, ps[n]? = some p ∧ AYield Try.prog yi [.d (.int .i64 n), .d (encP p)] (B n) (.d (.bool false)) obs) :
    ACall Try.prog 85 [.yl yi, .d (.ep [.sl 2 (ps.map encP)])] (B 0) (.tup []) obs := by
  refine acall_of_run Et_ok (fnAt Try.func85 (by kernel_rfl) (by kernel_rfl) : FnAt _ _ (mkFn Try.f85 [])) rfl rfl ?_
  repeat (first
    | refine oX (frz := []) Et_ok ?_
    | refine oS ?_
    | refine RunOps.nil ?_
    | refine Run.region ?_
    | refine Run.seq ?_
    | refine Run.skip ?_
    | refine Run.block ?_
    | refine Run.exit ?_
    | refine Run.draw (frz := []) Et_ok (by kernel_rfl) ?_
    | refine eX ?_
    | refine eS ?_
    | refine eN ?_)
  refine Run.loop (fun k : Nat => ⟨PT.ofList [(0, .yl yi), (5, .d (.sl 2 (ps.map encP))), (6, .d (.int .i64 (ps.map encP).length)), (7, .d (.int .i64 k))], B k, []⟩) (fun k => k ≤ n) (fun k => ps.length - k) 0 (Nat.zero_le _) (weak_of ⟨rfl, rfl, rfl, rfl, trivial⟩) (fun k hk => ?_)
  repeat (first
    | refine oX (frz := []) Et_ok ?_
    | refine oS ?_
    | refine RunOps.nil ?_
    | refine Run.region ?_
    | refine Run.seq ?_
    | refine Run.skip ?_
    | refine Run.block ?_
    | refine Run.exit ?_
    | refine Run.draw (frz := []) Et_ok (by kernel_rfl) ?_
    | refine eX ?_
    | refine eS ?_
    | refine eN ?_)
  refine Run.cond (by rfl) (fun h => ?_) (fun h => ?_)
  · have hlt : k < ps.length := by simpa using h
    obtain ⟨p, hp⟩ := get_ok hlt
    repeat (first
      | refine oX (frz := []) Et_ok ?_
      | refine oS ?_
      | refine RunOps.nil ?_
      | refine Run.region ?_
      | refine Run.seq ?_
      | refine Run.skip ?_
      | refine Run.block ?_
      | refine Run.exit ?_
      | refine Run.draw (frz := []) Et_ok (by kernel_rfl) ?_
      | refine eX ?_
      | refine eS ?_
      | refine eN ?_)
    first | refine oX (frz := []) (v := .d (.ep [.int .i64 p.left, ints p.right])) Et_ok ?_ (hf := (by first | (simp [inB] <;> fail) | (simp [inB]; omega))) (he := (by first | (simp [List.getD_eq_getElem?_getD, cellsD, hp, encP] <;> fail) | fail)) | refine eX (v := .d (.ep [.int .i64 p.left, ints p.right])) ?_ (hf := (by first | (simp [inB] <;> fail) | (simp [inB]; omega))) (he := (by first | (simp [List.getD_eq_getElem?_getD, cellsD, hp, encP] <;> fail) | fail))
    repeat (first
      | refine oX (frz := []) Et_ok ?_
      | refine oS ?_
      | refine RunOps.nil ?_
      | refine Run.region ?_
      | refine Run.seq ?_
      | refine Run.skip ?_
      | refine Run.block ?_
      | refine Run.exit ?_
      | refine Run.draw (frz := []) Et_ok (by kernel_rfl) ?_
      | refine eX ?_
      | refine eS ?_
      | refine eN ?_)
    refine RunOps.x (frz := []) (v := .d .any) (ob := some (B k ++ [.box [.d (.int .i64 p.left), .d (ints p.right)]])) (fl := true) Et_ok (by rfl)
      (Eq.trans (b := Option.map (fun (p : AV × List Ob × Bool) => (p.1, some p.2.1, p.2.2)) (storeR Et 43 (.bp (B k).length 0) (.d (.agg [.int .i64 p.left, ints p.right])) (B k ++ [.box [.d (.int .i64 0), .d .nilsl]]))) rfl (by rw [store_last (y := ty43) (by rfl) (B k) _ (by rfl) (by rfl) (by rfl)]; rfl)) rfl rfl rfl rfl (by rfl) ?_
    repeat (first
      | refine oX (frz := []) Et_ok ?_
      | refine oS ?_
      | refine RunOps.nil ?_
      | refine Run.region ?_
      | refine Run.seq ?_
      | refine Run.skip ?_
      | refine Run.block ?_
      | refine Run.exit ?_
      | refine Run.draw (frz := []) Et_ok (by kernel_rfl) ?_
      | refine eX ?_
      | refine eS ?_
      | refine eN ?_)
    refine RunOps.x (frz := []) (v := .d (.agg [.int .i64 p.left, ints p.right])) (ob := none) (fl := true) Et_ok (by rfl)
      (Eq.trans (b := Option.map (fun (p : AV × List Ob × Bool) => (p.1, none, p.2.2)) (loadR Et 43 (.bp (B k).length 0) (B k ++ [.box [.d (.int .i64 p.left), .d (ints p.right)]]))) rfl (by rw [load_last (y := ty43) (by rfl) (by rfl) (B k) _ (by rfl)]; rfl)) rfl rfl rfl rfl (by rfl) ?_
    have hLk := hL k
    have hb : Nat.blt yi (B k).length = true := by rw [hLk]; exact hyi
    refine RunOps.less (less_of [(5, .d (.sl 2 (ps.map encP))), (6, .d (.int .i64 (ps.map encP).length)), (7, .d (.int .i64 k)), (12, .yl yi), (0, .yl yi), (13, .d (.int .i64 k)), (14, .d (encP p))] (B k).length (List.take_left) (by rw [hL, hL]; exact Nat.ble_eq_true_of_le (Nat.le_refl _))
      ⟨by kernel_rfl, by kernel_rfl, by kernel_rfl, by kernel_rfl, by kernel_rfl, by kernel_rfl, by kernel_rfl, trivial⟩ ⟨rfl, rfl, rfl, hb, hb, rfl, rfl, trivial⟩ (by rw [hLk]; exact hR k) rfl) ?_
    rcases Nat.lt_or_ge k n with hkn | hkn
    · refine RunOps.yield (by rfl) (by rfl) (hy k p hkn hp) (by rfl) (by rfl) ?_
      repeat (first
        | refine oX (frz := []) Et_ok ?_
        | refine oS ?_
        | refine RunOps.nil ?_
        | refine Run.region ?_
        | refine Run.seq ?_
        | refine Run.skip ?_
        | refine Run.block ?_
        | refine Run.exit ?_
        | refine Run.draw (frz := []) Et_ok (by kernel_rfl) ?_
        | refine eX ?_
        | refine eS ?_
        | refine eN ?_)
      refine Run.cond (b := false) (by rfl) (fun h => by cases h) (fun _ => ?_)
      repeat (first
        | refine oX (frz := []) Et_ok ?_
        | refine oS ?_
        | refine RunOps.nil ?_
        | refine Run.region ?_
        | refine Run.seq ?_
        | refine Run.skip ?_
        | refine Run.block ?_
        | refine Run.exit ?_
        | refine Run.draw (frz := []) Et_ok (by kernel_rfl) ?_
        | refine eX ?_
        | refine eS ?_
        | refine eN ?_)
      exact ⟨k + 1, hkn, by omega, weak_of ⟨(by kernel_rfl), (by kernel_rfl), (by kernel_rfl), (inc_get (k := k) (by kernel_rfl) (by omega)), trivial⟩⟩
    · have hkn : k = n := by omega
      subst hkn
      rcases hend with ⟨h1, _⟩ | ⟨p', hp', hA⟩
      · omega
      · rw [hp] at hp'; cases hp'
        refine RunOps.yield (by rfl) (by rfl) hA (by rfl) (by rfl) ?_
        repeat (first
          | refine oX (frz := []) Et_ok ?_
          | refine oS ?_
          | refine RunOps.nil ?_
          | refine Run.region ?_
          | refine Run.seq ?_
          | refine Run.skip ?_
          | refine Run.block ?_
          | refine Run.exit ?_
          | refine Run.draw (frz := []) Et_ok (by kernel_rfl) ?_
          | refine eX ?_
          | refine eS ?_
          | refine eN ?_)
        refine Run.cond (b := true) (by rfl) (fun _ => ?_) (fun h => by cases h)
        refine Run.ret ?_
        exact ⟨trivial, rfl, by kernel_rfl⟩
  · have hge : ps.length ≤ k := by simpa using h
    have hkn : k = n := by omega
    subst hkn
    rcases hend with ⟨_, rfl⟩ | ⟨p', hp', _⟩
    · repeat (first
        | refine oX (frz := []) Et_ok ?_
        | refine oS ?_
        | refine RunOps.nil ?_
        | refine Run.region ?_
        | refine Run.seq ?_
        | refine Run.skip ?_
        | refine Run.block ?_
        | refine Run.exit ?_
        | refine Run.draw (frz := []) Et_ok (by kernel_rfl) ?_
        | refine eX ?_
        | refine eS ?_
        | refine eN ?_)
      exact ⟨trivial, rfl, by kernel_rfl⟩
    · rw [List.getElem?_eq_none (by omega)] at hp'; cases hp'
abbrev allProdsF (ps : List GProd) : DV := .fn (.func 85) [] [.ep [.sl 2 (ps.map encP)]]
theorem Run.rangeProds {nt m : Nat} {frz : List Nat} {K : Ex → S → Prop} {tm : PT AV} {dl : List Dl} {f : Operand} {qs : Array Tmp} {assign body : Code} (L : Nat) (Bs : Nat → List Ob) (ps : List GProd) (hl : ps.length ≤ 1099511627776)
    (hf : rd tm f = .d (allProdsF ps)) (hBL : ∀ k, (Bs k).length = L) (hBr : ∀ k, (Bs k).all (refOb (L + 2)) = true) (hT : ptAll (refA 8 (L + 2)) tm = true) (n : Nat) (hn : n ≤ ps.length)
    (hround : ∀ k p, k < n → ps[k]? = some p → AYield Try.prog (L + 1) [.d (.int .i64 k), .d (encP p)] (rangeObs (Bs k) tm nt frz qs assign body .ready none) (.d (.bool true)) (rangeObs (Bs (k + 1)) tm nt frz qs assign body .ready none))
    (hend : (n = ps.length ∧ K .normal ⟨tm, rangeObs (Bs n) tm nt frz qs assign body .exhausted none, .mark L :: dl⟩) ∨
      ∃ p Be, ps[n]? = some p ∧ (Be.length = L) ∧ ((AYield Try.prog (L + 1) [.d (.int .i64 n), .d (encP p)] (rangeObs (Bs n) tm nt frz qs assign body .ready none) (.d (.bool false)) (rangeObs Be tm nt frz qs assign body .done (some .ret)) ∧
          K .ret ⟨tm, rangeObs Be tm nt frz qs assign body .exhausted (some .ret), .mark L :: dl⟩) ∨
        ∃ id, AYield Try.prog (L + 1) [.d (.int .i64 n), .d (encP p)] (rangeObs (Bs n) tm nt frz qs assign body .ready none) (.d (.bool false)) (rangeObs Be tm nt frz qs assign body .done (some (.exit id))) ∧
          K (.exit id) ⟨tm, rangeObs Be tm nt frz qs assign body .exhausted (some (.exit id)), .mark L :: dl⟩)) :
    Run Try.prog nt m none (.rangeFunc f qs assign body) ⟨tm, Bs 0, dl⟩ K := by
  have hlen : ∀ B : List Ob, B.length = L → ∀ st pend, (rangeObs B tm nt frz qs assign body st pend).length = L + 2 := fun B h st pend => by simp [rangeObs, h]
  have hrefs : ∀ k, (rangeObs (Bs k) tm nt frz qs assign body .ready none).all (refOb (L + 2)) = true := fun k => by
    simp only [rangeObs, List.all_append, hBr k, Bool.true_and, List.all_cons, List.all_nil, Bool.and_true]
    simp only [refOb, hT, Bool.and_self]
  have hget : ∀ B : List Ob, B.length = L → ∀ st pend, (rangeObs B tm nt frz qs assign body st pend)[L + 1]? = some (.loop tm nt frz qs assign body st pend) := fun B h st pend => by
    subst h; simp [rangeObs]
  have hset : ∀ B : List Ob, B.length = L → ∀ st pend st' pend', (rangeObs B tm nt frz qs assign body st pend).set (L + 1) (.loop tm nt frz qs assign body st' pend') = rangeObs B tm nt frz qs assign body st' pend' := fun B h st pend st' pend' => by
    subst h
    unfold rangeObs
    rw [List.set_append_right _ _ (by simp)]
    simp
  have hyi : Nat.blt (L + 1) (L + 2) = true := by rw [Nat.blt_eq]; omega
  have hm : Try.prog.follows .mixedOrders = true := by kernel_rfl
  rcases hend with ⟨h1, h2⟩ | ⟨p, Be, hp, hBe, ⟨h1, h2⟩ | ⟨id, h1, h2⟩⟩
  · have hA := allProds0 ps hl (L + 1) (L + 2) (fun k => rangeObs (Bs k) tm nt frz qs assign body .ready none) hyi (fun k => hlen _ (hBL k) _ _) hrefs n hn hround (rangeObs (Bs n) tm nt frz qs assign body .ready none) (.inl ⟨h1, rfl⟩)
    rw [← hBL 0] at hA
    have := Run.range (m := m) (s := ⟨tm, Bs 0, dl⟩) (K := K) Et_ok hm hf hA rfl (by rw [hBL 0]; exact hget _ (hBL n) _ _) (by simp) (by
      simp only [hBL 0]
      rw [hset _ (hBL n)]
      exact h2)
    exact this
  · have hA := allProds0 ps hl (L + 1) (L + 2) (fun k => rangeObs (Bs k) tm nt frz qs assign body .ready none) hyi (fun k => hlen _ (hBL k) _ _) hrefs n hn hround (rangeObs Be tm nt frz qs assign body .done (some .ret)) (.inr ⟨p, hp, h1⟩)
    rw [← hBL 0] at hA
    have := Run.range (m := m) (s := ⟨tm, Bs 0, dl⟩) (K := K) Et_ok hm hf hA rfl (by rw [hBL 0]; exact hget _ hBe _ _) (by simp) (by
      simp only [hBL 0]
      rw [hset _ hBe]
      exact h2)
    exact this
  · have hA := allProds0 ps hl (L + 1) (L + 2) (fun k => rangeObs (Bs k) tm nt frz qs assign body .ready none) hyi (fun k => hlen _ (hBL k) _ _) hrefs n hn hround (rangeObs Be tm nt frz qs assign body .done (some (.exit id))) (.inr ⟨p, hp, h1⟩)
    rw [← hBL 0] at hA
    have := Run.range (m := m) (s := ⟨tm, Bs 0, dl⟩) (K := K) Et_ok hm hf hA rfl (by rw [hBL 0]; exact hget _ hBe _ _) (by simp) (by
      simp only [hBL 0]
      rw [hset _ hBe]
      exact h2)
    exact this
end Go.Av
end
noncomputable section
namespace Go.Av
open Go Go.Proofs
set_option maxRecDepth 10000
theorem wrap64 {n : Int} (h1 : -9223372036854775808 ≤ n) (h2 : n ≤ 9223372036854775807) : IntKind.i64.wrap n = n := IntWalk.i64_in n ⟨h1, h2⟩
theorem nonterminal (g : Gram) (s : Int) (hf : Fits g) : KnownCall Try.prog 31 [encG g, .int .i64 s] (.d (.bool (isNonterm g s))) := by
  have hn := hf.names
  have hw : IntKind.i64.wrap (16 + (g.names.length : Int)) = 16 + g.names.length := wrap64 (by omega) (by omega)
  refine knownE Et_ok (fnAt Try.func31 (by kernel_rfl) (by kernel_rfl) : FnAt _ _ (mkFn Try.f31 [2])) ?_
  repeat' (first
    | refine Run.region ?_
    | refine Run.seq ?_
    | ((refine oB (frz := [2]) Et_ok (fun h => ?_) (fun h => ?_)) <;> (first | (exfalso; simp at h <;> fail) | (exfalso; simp at h; omega) | skip))
    | ((refine eB (fun h => ?_) (fun h => ?_)) <;> (first | (exfalso; simp at h <;> fail) | (exfalso; simp at h; omega) | skip))
    | refine oX (frz := [2]) Et_ok ?_
    | refine oS ?_
    | refine RunOps.nil ?_
    | refine Run.skip ?_
    | refine cT ?_
    | refine cF ?_
    | refine Run.block ?_
    | refine Run.exit ?_
    | refine Run.draw (frz := [2]) Et_ok (by kernel_rfl) ?_
    | refine eX ?_
    | refine eS ?_
    | refine eN ?_
    | (refine Run.ret ?_; (first | refine rB ?_ | refine rI ?_ | refine rA ?_ | refine rII ?_ | refine rSI ?_ | refine rT ?_ | refine rS ?_); first | done | (first | (simp_all [isNonterm]; done) | (simp_all [isNonterm]; omega)))
    | fail)
end Go.Av
end
noncomputable section
namespace Go.Av
open Go Go.Proofs
set_option maxRecDepth 10000
def letterF (c : Int) : Bool := (decide (97 ≤ c) && decide (c ≤ 122)) || (decide (65 ≤ c) && decide (c ≤ 90))
def digitF (c : Int) : Bool := decide (48 ≤ c) && decide (c ≤ 57)
def badAt (s : List Nat) (i : Nat) : Prop := ∃ c : Nat, s[i]? = some c ∧ letterF c = false ∧ (i = 0 ∨ (digitF c = false ∧ (c : Int) ≠ 95))
open Classical in
def wordF (s : List Nat) : Int := if s = [] then 5 else if ∃ i, badAt s i then 3 else if 12 < s.length then 4 else 0
def wLook : List Nat := [108, 111, 111, 107, 97, 104, 101, 97, 100]
def wToken : List Nat := [116, 111, 107, 101, 110]
def wSep : List Nat := [115, 101, 112, 97, 114, 97, 116, 111, 114]
def wStart : List Nat := [115, 116, 97, 114, 116]
def languageF (s : List Nat) : Bool := decide (s = wLook ∨ s = wToken ∨ s = wSep ∨ s = wStart)
def nameF (s : List Nat) : Int := if wordF s = 0 ∧ languageF s = true then 12 else wordF s
theorem letter (c : Int) : KnownCall Try.prog 101 [.int .i32 c] (.d (.bool (letterF c))) := by
  refine knownE Et_ok (fnAt Try.func101 (by kernel_rfl) (by kernel_rfl) : FnAt _ _ (mkFn Try.f101 [])) ?_
  repeat' (first
    | refine Run.region ?_
    | refine Run.seq ?_
    | ((refine oB (frz := []) Et_ok (fun h => ?_) (fun h => ?_)) <;> (first | (exfalso; simp at h <;> fail) | (exfalso; simp at h; omega) | skip))
    | ((refine eB (fun h => ?_) (fun h => ?_)) <;> (first | (exfalso; simp at h <;> fail) | (exfalso; simp at h; omega) | skip))
    | refine oX (frz := []) Et_ok ?_
    | refine oS ?_
    | refine RunOps.nil ?_
    | refine Run.skip ?_
    | refine cT ?_
    | refine cF ?_
    | refine Run.block ?_
    | refine Run.exit ?_
    | refine Run.draw (frz := []) Et_ok (by kernel_rfl) ?_
    | refine eX ?_
    | refine eS ?_
    | refine eN ?_
    | (refine Run.ret ?_; (first | refine rB ?_ | refine rI ?_ | refine rA ?_ | refine rII ?_ | refine rSI ?_ | refine rT ?_ | refine rS ?_); first | done | (first | (simp_all [letterF]; done) | (simp_all [letterF]; omega)))
    | fail)
theorem digit (c : Int) : KnownCall Try.prog 102 [.int .i32 c] (.d (.bool (digitF c))) := by
  refine knownE Et_ok (fnAt Try.func102 (by kernel_rfl) (by kernel_rfl) : FnAt _ _ (mkFn Try.f102 [])) ?_
  repeat' (first
    | refine Run.region ?_
    | refine Run.seq ?_
    | ((refine oB (frz := []) Et_ok (fun h => ?_) (fun h => ?_)) <;> (first | (exfalso; simp at h <;> fail) | (exfalso; simp at h; omega) | skip))
    | ((refine eB (fun h => ?_) (fun h => ?_)) <;> (first | (exfalso; simp at h <;> fail) | (exfalso; simp at h; omega) | skip))
    | refine oX (frz := []) Et_ok ?_
    | refine oS ?_
    | refine RunOps.nil ?_
    | refine Run.skip ?_
    | refine cT ?_
    | refine cF ?_
    | refine Run.block ?_
    | refine Run.exit ?_
    | refine Run.draw (frz := []) Et_ok (by kernel_rfl) ?_
    | refine eX ?_
    | refine eS ?_
    | refine eN ?_
    | (refine Run.ret ?_; (first | refine rB ?_ | refine rI ?_ | refine rA ?_ | refine rII ?_ | refine rSI ?_ | refine rT ?_ | refine rS ?_); first | done | (first | (simp_all [digitF]; done) | (simp_all [digitF]; omega)))
    | fail)
theorem wordF_bad {s : List Nat} (hs : s ≠ []) {i : Nat} (h : badAt s i) : wordF s = 3 := by
  unfold wordF
  rw [if_neg hs, if_pos ⟨i, h⟩]
theorem wordF_good {s : List Nat} (hs : s ≠ []) (h : ∀ i, ¬ badAt s i) : wordF s = if 12 < s.length then 4 else 0 := by
  unfold wordF
  rw [if_neg hs, if_neg (fun ⟨i, hi⟩ => h i hi)]
theorem word (s : List Nat) (hl : s.length ≤ 1099511627776) : KnownCall Try.prog 95 [.str s] (.d (.int .i64 (wordF s))) := by
  refine knownE Et_ok (fnAt Try.func95 (by kernel_rfl) (by kernel_rfl) : FnAt _ _ (mkFn Try.f95 [])) ?_
  repeat' (first
    | refine Run.region ?_
    | refine Run.seq ?_
    | ((refine oB (frz := []) Et_ok (fun h => ?_) (fun h => ?_)) <;> (first | (exfalso; simp at h <;> fail) | (exfalso; simp at h; omega) | skip))
    | ((refine eB (fun h => ?_) (fun h => ?_)) <;> (first | (exfalso; simp at h <;> fail) | (exfalso; simp at h; omega) | skip))
    | refine oX (frz := []) Et_ok ?_
    | refine oS ?_
    | refine RunOps.nil ?_
    | refine Run.skip ?_
    | refine cT ?_
    | refine cF ?_
    | refine Run.block ?_
    | refine Run.exit ?_
    | refine Run.draw (frz := []) Et_ok (by kernel_rfl) ?_
    | refine eX ?_
    | refine eS ?_
    | refine eN ?_
    | (refine Run.ret ?_; (first | refine rB ?_ | refine rI ?_ | refine rA ?_ | refine rII ?_ | refine rSI ?_ | refine rT ?_ | refine rS ?_); first | done | (simp_all [wordF]))
    | fail)
  have hs : s ≠ [] := by simpa using h
  refine Run.loop (fun i : Nat => ⟨PT.ofList [(0, .d (.str s)), (8, .bp 0 0)], [.sit s i], []⟩) (fun i => i ≤ s.length ∧ ∀ j, j < i → ¬ badAt s j) (fun i => s.length - i) 0 ⟨Nat.zero_le _, fun j hj => by omega⟩ (weak_of ⟨rfl, rfl, trivial⟩) (fun i hi => ?_)
  obtain ⟨hi1, hi2⟩ := hi
  rcases Nat.lt_or_ge i s.length with hlt | hge
  · obtain ⟨c, hc⟩ := get_ok hlt
    have hbad : badAt s i ↔ letterF c = false ∧ (i = 0 ∨ (digitF c = false ∧ (c : Int) ≠ 95)) := ⟨fun ⟨c', h1, h2⟩ => by rw [hc] at h1; cases h1; exact h2, fun h => ⟨c, hc, h⟩⟩
    rcases Nat.lt_or_ge c 128 with h8 | h8
    · have hd := decL_ascii hc h8
      repeat' (first
        | refine Run.region ?_
        | refine Run.seq ?_
        | ((refine oB (frz := []) Et_ok (fun h => ?_) (fun h => ?_)) <;> (first | (exfalso; simp at h <;> fail) | (exfalso; simp at h; omega) | skip))
        | ((refine eB (fun h => ?_) (fun h => ?_)) <;> (first | (exfalso; simp at h <;> fail) | (exfalso; simp at h; omega) | skip))
        | refine oX (frz := []) Et_ok ?_
        | refine oS ?_
        | refine RunOps.nil ?_
        | refine Run.skip ?_
        | refine cT ?_
        | refine cF ?_
        | refine Run.block ?_
        | refine Run.exit ?_
        | refine Run.draw (frz := []) Et_ok (by kernel_rfl) ?_
        | refine eX ?_
        | refine eS ?_
        | refine eN ?_
        | refine RunOps.next Et_ok (by rfl) (by rfl) (by rfl) hlt hd (by rfl) (by rfl) (by rfl) ?_
        | ((refine oK (letter _) (fun h => ?_) (fun h => ?_)) <;> (first | (exfalso; simp at h <;> fail) | (exfalso; simp at h; omega) | skip))
        | refine oC (letter _) ?_
        | ((refine eK (letter _) (fun h => ?_) (fun h => ?_)) <;> (first | (exfalso; simp at h <;> fail) | (exfalso; simp at h; omega) | skip))
        | refine eC (letter _) ?_
        | ((refine oK (digit _) (fun h => ?_) (fun h => ?_)) <;> (first | (exfalso; simp at h <;> fail) | (exfalso; simp at h; omega) | skip))
        | refine oC (digit _) ?_
        | ((refine eK (digit _) (fun h => ?_) (fun h => ?_)) <;> (first | (exfalso; simp at h <;> fail) | (exfalso; simp at h; omega) | skip))
        | refine eC (digit _) ?_
        | (refine Run.ret ?_; (first | refine rB ?_ | refine rI ?_ | refine rA ?_ | refine rII ?_ | refine rSI ?_ | refine rT ?_ | refine rS ?_); first | done | (rw [wordF_bad hs (i := i) (hbad.2 (by simp_all))]))
        | (exact ⟨i + 1, ⟨by omega, fun j hj => by rcases Nat.lt_succ_iff_lt_or_eq.1 hj with h | h; exact hi2 j h; subst h; rw [hbad]; simp_all⟩, by omega, weak_of' (by rfl) rfl ⟨(by kernel_rfl), (by kernel_rfl), trivial⟩⟩)
        | fail)
    · have hd := decL_high hc h8
      obtain ⟨r, n, hrn⟩ : ∃ r n, decL s i = (r, n) := ⟨_, _, rfl⟩
      rw [hrn] at hd
      have hb : badAt s i := hbad.2 ⟨by simp [letterF]; omega, .inr ⟨by simp [digitF]; omega, by omega⟩⟩
      have hr1 : letterF r = false := by simp [letterF]; simp at hd; omega
      have hr2 : digitF r = false := by simp [digitF]; simp at hd; omega
      have hr3 : (r : Int) ≠ 95 := by simp at hd; omega
      repeat' (first
        | refine Run.region ?_
        | refine Run.seq ?_
        | ((refine oB (frz := []) Et_ok (fun h => ?_) (fun h => ?_)) <;> (first | (exfalso; simp at h <;> fail) | (exfalso; simp at h; omega) | skip))
        | ((refine eB (fun h => ?_) (fun h => ?_)) <;> (first | (exfalso; simp at h <;> fail) | (exfalso; simp at h; omega) | skip))
        | refine oX (frz := []) Et_ok ?_
        | refine oS ?_
        | refine RunOps.nil ?_
        | refine Run.skip ?_
        | refine cT ?_
        | refine cF ?_
        | refine Run.block ?_
        | refine Run.exit ?_
        | refine Run.draw (frz := []) Et_ok (by kernel_rfl) ?_
        | refine eX ?_
        | refine eS ?_
        | refine eN ?_
        | refine RunOps.next Et_ok (by rfl) (by rfl) (by rfl) hlt hrn (by rfl) (by rfl) (by rfl) ?_
        | ((refine oK (letter _) (fun h => ?_) (fun h => ?_)) <;> (first | (exfalso; simp at h <;> fail) | (exfalso; simp at h; omega) | skip))
        | refine oC (letter _) ?_
        | ((refine eK (letter _) (fun h => ?_) (fun h => ?_)) <;> (first | (exfalso; simp at h <;> fail) | (exfalso; simp at h; omega) | skip))
        | refine eC (letter _) ?_
        | ((refine oK (digit _) (fun h => ?_) (fun h => ?_)) <;> (first | (exfalso; simp at h <;> fail) | (exfalso; simp at h; omega) | skip))
        | refine oC (digit _) ?_
        | ((refine eK (digit _) (fun h => ?_) (fun h => ?_)) <;> (first | (exfalso; simp at h <;> fail) | (exfalso; simp at h; omega) | skip))
        | refine eC (digit _) ?_
        | (refine Run.ret ?_; (first | refine rB ?_ | refine rI ?_ | refine rA ?_ | refine rII ?_ | refine rSI ?_ | refine rT ?_ | refine rS ?_); first | done | (rw [wordF_bad hs (i := i) hb]))
        | (exfalso; simp_all)
        | fail)
  · have hge : i = s.length := by omega
    have hall : ∀ j, ¬ badAt s j := fun j hj => by
      by_cases hlt : j < i
      · exact hi2 j hlt hj
      · obtain ⟨c, h1, _⟩ := hj
        rw [List.getElem?_eq_none (by omega)] at h1; cases h1
    repeat' (first
      | refine Run.region ?_
      | refine Run.seq ?_
      | ((refine oB (frz := []) Et_ok (fun h => ?_) (fun h => ?_)) <;> (first | (exfalso; simp at h <;> fail) | (exfalso; simp at h; omega) | skip))
      | ((refine eB (fun h => ?_) (fun h => ?_)) <;> (first | (exfalso; simp at h <;> fail) | (exfalso; simp at h; omega) | skip))
      | refine oX (frz := []) Et_ok ?_
      | refine oS ?_
      | refine RunOps.nil ?_
      | refine Run.skip ?_
      | refine cT ?_
      | refine cF ?_
      | refine Run.block ?_
      | refine Run.exit ?_
      | refine Run.draw (frz := []) Et_ok (by kernel_rfl) ?_
      | refine eX ?_
      | refine eS ?_
      | refine eN ?_
      | refine RunOps.nextEnd Et_ok (by rfl) (by rfl) (by rfl) (Nat.le_of_eq hge.symm) (by rfl) (by rfl) ?_
      | (refine Run.ret ?_; (first | refine rB ?_ | refine rI ?_ | refine rA ?_ | refine rII ?_ | refine rSI ?_ | refine rT ?_ | refine rS ?_); first | done | (rw [wordF_good hs hall]; first | (simp_all [] <;> fail) | (simp_all []; omega)))
      | fail)
end Go.Av
end
noncomputable section
namespace Go.Av
open Go Go.Proofs
set_option maxRecDepth 10000
theorem all_succ {p : Nat → Prop} {i : Nat} (h : ∀ j, j < i → p j) (h' : p i) : ∀ j, j < i + 1 → p j := fun j hj => by
  rcases Nat.lt_succ_iff_lt_or_eq.1 hj with h1 | h1
  · exact h j h1
  · exact h1 ▸ h'
def findF (l : List (List Nat)) (s : List Nat) : Int := if s ∈ l then (l.idxOf s : Nat) else -1
theorem findF_at {l : List (List Nat)} {s : List Nat} {i : Nat} (h : l[i]? = some s) (hb : ∀ j, j < i → l[j]? ≠ some s) : findF l s = i := by
  have hm : s ∈ l := List.mem_of_getElem? h
  have hi : i < l.length := (List.getElem?_eq_some_iff.1 h).1
  have h1 : l.idxOf s < l.length := List.idxOf_lt_length_iff.2 hm
  have h2 : l[l.idxOf s]? = some s := by rw [List.getElem?_eq_getElem h1, List.getElem_idxOf h1]
  have h3 : ¬ l.idxOf s < i := fun hlt => hb _ hlt h2
  have h4 : ¬ i < l.idxOf s := fun hlt => by
    have := List.not_of_lt_findIdx hlt
    have e : l[i] = s := (List.getElem?_eq_some_iff.1 h).2
    simp [e] at this
  rw [findF, if_pos hm]; omega
theorem findF_none {l : List (List Nat)} {s : List Nat} (hb : ∀ j, j < l.length → l[j]? ≠ some s) : findF l s = -1 := by
  rw [findF, if_neg]
  intro hm
  obtain ⟨i, hi, e⟩ := List.getElem_of_mem hm
  exact hb i hi (by rw [List.getElem?_eq_getElem hi, e])
theorem index (l : List (List Nat)) (s : List Nat) (hl : l.length ≤ 1099511627776) : KnownCall Try.prog 36 [strs l, .str s] (.d (.int .i64 (findF l s))) := by
  refine knownE Et_ok (fnAt Try.func36 (by kernel_rfl) (by kernel_rfl) : FnAt _ _ (mkFn Try.f36 [])) ?_
  repeat' (first
    | refine Run.region ?_
    | refine Run.seq ?_
    | ((refine oB (frz := []) Et_ok (fun h => ?_) (fun h => ?_)) <;> (first | (exfalso; simp at h <;> fail) | (exfalso; simp at h; omega) | skip))
    | ((refine eB (fun h => ?_) (fun h => ?_)) <;> (first | (exfalso; simp at h <;> fail) | (exfalso; simp at h; omega) | skip))
    | refine oX (frz := []) Et_ok ?_
    | refine oS ?_
    | refine RunOps.nil ?_
    | refine Run.skip ?_
    | refine cT ?_
    | refine cF ?_
    | refine Run.block ?_
    | refine Run.exit ?_
    | refine Run.draw (frz := []) Et_ok (by kernel_rfl) ?_
    | refine eX ?_
    | refine eS ?_
    | refine eN ?_
    | (refine Run.ret ?_; (first | refine rB ?_ | refine rI ?_ | refine rA ?_ | refine rII ?_ | refine rSI ?_ | refine rT ?_ | refine rS ?_); first | done | (skip))
    | fail)
  refine Run.loop (fun i : Nat => ⟨PT.ofList [(7, .d (.int .i64 ((l.map DV.str).length : Nat))), (0, .d (strs l)), (1, .d (.str s)), (8, .d (.int .i64 i))], [], []⟩) (fun i => i ≤ l.length ∧ ∀ j, j < i → l[j]? ≠ some s) (fun i => l.length - i) 0 ⟨Nat.zero_le _, fun j hj => by omega⟩ (weak_of (by repeat' (first | exact trivial | refine ⟨rfl, ?_⟩))) (fun i hi => ?_)
  obtain ⟨hi1, hi2⟩ := hi
  rcases Nat.lt_or_ge i l.length with hlt | hge
  · obtain ⟨x, hx⟩ := get_ok hlt
    repeat' (first
      | refine Run.region ?_
      | refine Run.seq ?_
      | ((refine oB (frz := []) Et_ok (fun h => ?_) (fun h => ?_)) <;> (first | (exfalso; simp at h <;> fail) | (exfalso; simp at h; omega) | skip))
      | ((refine eB (fun h => ?_) (fun h => ?_)) <;> (first | (exfalso; simp at h <;> fail) | (exfalso; simp at h; omega) | skip))
      | refine oX (frz := []) Et_ok ?_
      | refine oS ?_
      | refine RunOps.nil ?_
      | refine Run.skip ?_
      | refine cT ?_
      | refine cF ?_
      | refine Run.block ?_
      | refine Run.exit ?_
      | refine Run.draw (frz := []) Et_ok (by kernel_rfl) ?_
      | refine eX ?_
      | refine eS ?_
      | refine eN ?_
      | refine oX (frz := []) (v := .d (.ep [.str x])) Et_ok ?_ (hf := (by first | (simp [inB] <;> fail) | (simp [inB]; omega))) (he := (by first | (simp [List.getD_eq_getElem?_getD, cellsD, hx] <;> fail) | fail))
      | refine eX (v := .d (.ep [.str x])) ?_ (hf := (by first | (simp [inB] <;> fail) | (simp [inB]; omega))) (he := (by first | (simp [List.getD_eq_getElem?_getD, cellsD, hx] <;> fail) | fail))
      | (refine Run.ret ?_; (first | refine rB ?_ | refine rI ?_ | refine rA ?_ | refine rII ?_ | refine rSI ?_ | refine rT ?_ | refine rS ?_); first | done | (rw [findF_at (i := i) (by simp_all) hi2]))
      | (exact ⟨i + 1, ⟨by omega, all_succ hi2 (by rw [hx]; intro e; simp_all)⟩, by omega, weak_of (by repeat' (first | exact trivial | refine ⟨rfl, ?_⟩ | refine ⟨(inc_get (k := i) (by kernel_rfl) (by omega)), ?_⟩))⟩)
      | fail)
  · have hge : i = l.length := by omega
    repeat' (first
      | refine Run.region ?_
      | refine Run.seq ?_
      | ((refine oB (frz := []) Et_ok (fun h => ?_) (fun h => ?_)) <;> (first | (exfalso; simp at h <;> fail) | (exfalso; simp at h; omega) | skip))
      | ((refine eB (fun h => ?_) (fun h => ?_)) <;> (first | (exfalso; simp at h <;> fail) | (exfalso; simp at h; omega) | skip))
      | refine oX (frz := []) Et_ok ?_
      | refine oS ?_
      | refine RunOps.nil ?_
      | refine Run.skip ?_
      | refine cT ?_
      | refine cF ?_
      | refine Run.block ?_
      | refine Run.exit ?_
      | refine Run.draw (frz := []) Et_ok (by kernel_rfl) ?_
      | refine eX ?_
      | refine eS ?_
      | refine eN ?_
      | (refine Run.ret ?_; (first | refine rB ?_ | refine rI ?_ | refine rA ?_ | refine rII ?_ | refine rSI ?_ | refine rT ?_ | refine rS ?_); first | done | (rw [findF_none (fun j hj => hi2 j (by omega))]))
      | fail)
end Go.Av
end
noncomputable section
namespace Go.Av
open Go Go.Proofs
set_option maxRecDepth 10000
abbrev wordsA : List AV := [.d (.str wLook), .d (.str wToken), .d (.str wSep), .d (.str wStart)]
theorem indexW (s : List Nat) : ACall Try.prog 36 [.bs 0 0 4 4, .d (.str s)] [.box wordsA] (.d (.int .i64 (findF [wLook, wToken, wSep, wStart] s))) [.box wordsA] := by
  refine acall_of_run Et_ok (fnAt Try.func36 (by kernel_rfl) (by kernel_rfl) : FnAt _ _ (mkFn Try.f36 [])) rfl rfl ?_
  repeat' (first
    | refine Run.region ?_
    | refine Run.seq ?_
    | ((refine oB (frz := []) Et_ok (fun h => ?_) (fun h => ?_)) <;> (first | (exfalso; simp at h <;> fail) | (exfalso; simp at h; omega) | skip))
    | ((refine eB (fun h => ?_) (fun h => ?_)) <;> (first | (exfalso; simp at h <;> fail) | (exfalso; simp at h; omega) | skip))
    | refine oX (frz := []) Et_ok ?_
    | refine oS ?_
    | refine RunOps.nil ?_
    | refine Run.skip ?_
    | refine cT ?_
    | refine cF ?_
    | refine Run.block ?_
    | refine Run.exit ?_
    | refine Run.draw (frz := []) Et_ok (by kernel_rfl) ?_
    | refine eX ?_
    | refine eS ?_
    | refine eN ?_
    | (refine Run.ret ?_; (first | refine rB ?_ | refine rI ?_ | refine rA ?_ | refine rII ?_ | refine rSI ?_ | refine rT ?_ | refine rS ?_); first | done | (skip))
    | fail)
  refine Run.loop (fun i : Nat => ⟨PT.ofList [(0, .bs 0 0 4 4), (1, .d (.str s)), (7, .d (.int .i64 4)), (8, .d (.int .i64 i))], [.box wordsA], []⟩) (fun i => i ≤ 4 ∧ ∀ j, j < i → [wLook, wToken, wSep, wStart][j]? ≠ some s) (fun i => 4 - i) 0 ⟨Nat.zero_le _, fun j hj => by omega⟩ (weak_of (by repeat' (first | exact trivial | refine ⟨rfl, ?_⟩))) (fun i hi => ?_)
  obtain ⟨hi1, hi2⟩ := hi
  have hcase : i = 0 ∨ i = 1 ∨ i = 2 ∨ i = 3 ∨ i = 4 := by omega
  rcases hcase with h | h | h | h | h <;> subst h
  · repeat' (first
      | refine Run.region ?_
      | refine Run.seq ?_
      | ((refine oB (frz := []) Et_ok (fun h => ?_) (fun h => ?_)) <;> (first | (exfalso; simp at h <;> fail) | (exfalso; simp at h; omega) | skip))
      | ((refine eB (fun h => ?_) (fun h => ?_)) <;> (first | (exfalso; simp at h <;> fail) | (exfalso; simp at h; omega) | skip))
      | refine oX (frz := []) Et_ok ?_
      | refine oS ?_
      | refine RunOps.nil ?_
      | refine Run.skip ?_
      | refine cT ?_
      | refine cF ?_
      | refine Run.block ?_
      | refine Run.exit ?_
      | refine Run.draw (frz := []) Et_ok (by kernel_rfl) ?_
      | refine eX ?_
      | refine eS ?_
      | refine eN ?_
      | (refine Run.ret ?_; (first | refine rB ?_ | refine rI ?_ | refine rA ?_ | refine rII ?_ | refine rSI ?_ | refine rT ?_ | refine rS ?_); first | done | (skip))
      | (exact ⟨1, ⟨by omega, all_succ hi2 (fun e => by simp at e; subst e; simp at h)⟩, by omega, weak_of (by repeat' (first | exact trivial | refine ⟨rfl, ?_⟩))⟩)
      | fail)
    have hs : s = wLook := by simpa using h
    refine Run.ret ?_
    refine ⟨trivial, rfl, Eq.trans (b := some (.d (.int .i64 0))) (by rfl) ?_⟩
    rw [findF_at (i := 0) (by rw [hs]; rfl) hi2]; rfl
  · repeat' (first
      | refine Run.region ?_
      | refine Run.seq ?_
      | ((refine oB (frz := []) Et_ok (fun h => ?_) (fun h => ?_)) <;> (first | (exfalso; simp at h <;> fail) | (exfalso; simp at h; omega) | skip))
      | ((refine eB (fun h => ?_) (fun h => ?_)) <;> (first | (exfalso; simp at h <;> fail) | (exfalso; simp at h; omega) | skip))
      | refine oX (frz := []) Et_ok ?_
      | refine oS ?_
      | refine RunOps.nil ?_
      | refine Run.skip ?_
      | refine cT ?_
      | refine cF ?_
      | refine Run.block ?_
      | refine Run.exit ?_
      | refine Run.draw (frz := []) Et_ok (by kernel_rfl) ?_
      | refine eX ?_
      | refine eS ?_
      | refine eN ?_
      | (refine Run.ret ?_; (first | refine rB ?_ | refine rI ?_ | refine rA ?_ | refine rII ?_ | refine rSI ?_ | refine rT ?_ | refine rS ?_); first | done | (skip))
      | (exact ⟨2, ⟨by omega, all_succ hi2 (fun e => by simp at e; subst e; simp at h)⟩, by omega, weak_of (by repeat' (first | exact trivial | refine ⟨rfl, ?_⟩))⟩)
      | fail)
    have hs : s = wToken := by simpa using h
    refine Run.ret ?_
    refine ⟨trivial, rfl, Eq.trans (b := some (.d (.int .i64 1))) (by rfl) ?_⟩
    rw [findF_at (i := 1) (by rw [hs]; rfl) hi2]; rfl
  · repeat' (first
      | refine Run.region ?_
      | refine Run.seq ?_
      | ((refine oB (frz := []) Et_ok (fun h => ?_) (fun h => ?_)) <;> (first | (exfalso; simp at h <;> fail) | (exfalso; simp at h; omega) | skip))
      | ((refine eB (fun h => ?_) (fun h => ?_)) <;> (first | (exfalso; simp at h <;> fail) | (exfalso; simp at h; omega) | skip))
      | refine oX (frz := []) Et_ok ?_
      | refine oS ?_
      | refine RunOps.nil ?_
      | refine Run.skip ?_
      | refine cT ?_
      | refine cF ?_
      | refine Run.block ?_
      | refine Run.exit ?_
      | refine Run.draw (frz := []) Et_ok (by kernel_rfl) ?_
      | refine eX ?_
      | refine eS ?_
      | refine eN ?_
      | (refine Run.ret ?_; (first | refine rB ?_ | refine rI ?_ | refine rA ?_ | refine rII ?_ | refine rSI ?_ | refine rT ?_ | refine rS ?_); first | done | (skip))
      | (exact ⟨3, ⟨by omega, all_succ hi2 (fun e => by simp at e; subst e; simp at h)⟩, by omega, weak_of (by repeat' (first | exact trivial | refine ⟨rfl, ?_⟩))⟩)
      | fail)
    have hs : s = wSep := by simpa using h
    refine Run.ret ?_
    refine ⟨trivial, rfl, Eq.trans (b := some (.d (.int .i64 2))) (by rfl) ?_⟩
    rw [findF_at (i := 2) (by rw [hs]; rfl) hi2]; rfl
  · repeat' (first
      | refine Run.region ?_
      | refine Run.seq ?_
      | ((refine oB (frz := []) Et_ok (fun h => ?_) (fun h => ?_)) <;> (first | (exfalso; simp at h <;> fail) | (exfalso; simp at h; omega) | skip))
      | ((refine eB (fun h => ?_) (fun h => ?_)) <;> (first | (exfalso; simp at h <;> fail) | (exfalso; simp at h; omega) | skip))
      | refine oX (frz := []) Et_ok ?_
      | refine oS ?_
      | refine RunOps.nil ?_
      | refine Run.skip ?_
      | refine cT ?_
      | refine cF ?_
      | refine Run.block ?_
      | refine Run.exit ?_
      | refine Run.draw (frz := []) Et_ok (by kernel_rfl) ?_
      | refine eX ?_
      | refine eS ?_
      | refine eN ?_
      | (refine Run.ret ?_; (first | refine rB ?_ | refine rI ?_ | refine rA ?_ | refine rII ?_ | refine rSI ?_ | refine rT ?_ | refine rS ?_); first | done | (skip))
      | (exact ⟨4, ⟨by omega, all_succ hi2 (fun e => by simp at e; subst e; simp at h)⟩, by omega, weak_of (by repeat' (first | exact trivial | refine ⟨rfl, ?_⟩))⟩)
      | fail)
    have hs : s = wStart := by simpa using h
    refine Run.ret ?_
    refine ⟨trivial, rfl, Eq.trans (b := some (.d (.int .i64 3))) (by rfl) ?_⟩
    rw [findF_at (i := 3) (by rw [hs]; rfl) hi2]; rfl
  · repeat' (first
      | refine Run.region ?_
      | refine Run.seq ?_
      | ((refine oB (frz := []) Et_ok (fun h => ?_) (fun h => ?_)) <;> (first | (exfalso; simp at h <;> fail) | (exfalso; simp at h; omega) | skip))
      | ((refine eB (fun h => ?_) (fun h => ?_)) <;> (first | (exfalso; simp at h <;> fail) | (exfalso; simp at h; omega) | skip))
      | refine oX (frz := []) Et_ok ?_
      | refine oS ?_
      | refine RunOps.nil ?_
      | refine Run.skip ?_
      | refine cT ?_
      | refine cF ?_
      | refine Run.block ?_
      | refine Run.exit ?_
      | refine Run.draw (frz := []) Et_ok (by kernel_rfl) ?_
      | refine eX ?_
      | refine eS ?_
      | refine eN ?_
      | (refine Run.ret ?_; (first | refine rB ?_ | refine rI ?_ | refine rA ?_ | refine rII ?_ | refine rSI ?_ | refine rT ?_ | refine rS ?_); first | done | (skip))
      | fail)
    refine Run.ret ?_
    refine ⟨trivial, rfl, Eq.trans (b := some (.d (.int .i64 (-1)))) (by rfl) ?_⟩
    rw [findF_none (l := [wLook, wToken, wSep, wStart]) hi2]
theorem containsW (s : List Nat) : ACall Try.prog 73 [.bs 0 0 4 4, .d (.str s)] [.box wordsA] (.d (.bool (languageF s))) [.box wordsA] := by
  refine acall_of_run Et_ok (fnAt Try.func73 (by kernel_rfl) (by kernel_rfl) : FnAt _ _ (mkFn Try.f73 [])) rfl rfl ?_
  repeat (first
    | refine oX (frz := []) Et_ok ?_
    | refine oS ?_
    | refine RunOps.nil ?_
    | refine Run.region ?_
    | refine Run.seq ?_
    | refine Run.skip ?_
    | refine Run.block ?_
    | refine Run.exit ?_
    | refine Run.draw (frz := []) Et_ok (by kernel_rfl) ?_
    | refine eX ?_
    | refine eS ?_
    | refine eN ?_)
  refine RunOps.call (by rfl) (by rfl) (indexW s) (by rfl) (by rfl) ?_
  repeat (first
    | refine oX (frz := []) Et_ok ?_
    | refine oS ?_
    | refine RunOps.nil ?_
    | refine Run.region ?_
    | refine Run.seq ?_
    | refine Run.skip ?_
    | refine Run.block ?_
    | refine Run.exit ?_
    | refine Run.draw (frz := []) Et_ok (by kernel_rfl) ?_
    | refine eX ?_
    | refine eS ?_
    | refine eN ?_)
  refine Run.ret ?_
  refine ⟨trivial, rfl, Eq.trans (b := some (.d (.bool (decide (0 ≤ findF [wLook, wToken, wSep, wStart] s))))) (by kernel_rfl) ?_⟩
  by_cases hm : s ∈ [wLook, wToken, wSep, wStart]
  · simp only [findF, if_pos hm]; simp_all [languageF]
  · simp only [findF, if_neg hm]; simp_all [languageF]
theorem language (s : List Nat) : KnownCall Try.prog 96 [.str s] (.d (.bool (languageF s))) := by
  refine knownE Et_ok (fnAt Try.func96 (by kernel_rfl) (by kernel_rfl) : FnAt _ _ (mkFn Try.f96 [])) ?_
  repeat (first
    | refine oX (frz := []) Et_ok ?_
    | refine oS ?_
    | refine RunOps.nil ?_
    | refine Run.region ?_
    | refine Run.seq ?_
    | refine Run.skip ?_
    | refine Run.block ?_
    | refine Run.exit ?_
    | refine Run.draw (frz := []) Et_ok (by kernel_rfl) ?_
    | refine eX ?_
    | refine eS ?_
    | refine eN ?_)
  refine RunOps.call (by rfl) (by rfl) (containsW s) (by rfl) (by rfl) ?_
  repeat' (first
    | refine Run.region ?_
    | refine Run.seq ?_
    | ((refine oB (frz := []) Et_ok (fun h => ?_) (fun h => ?_)) <;> (first | (exfalso; simp at h <;> fail) | (exfalso; simp at h; omega) | skip))
    | ((refine eB (fun h => ?_) (fun h => ?_)) <;> (first | (exfalso; simp at h <;> fail) | (exfalso; simp at h; omega) | skip))
    | refine oX (frz := []) Et_ok ?_
    | refine oS ?_
    | refine RunOps.nil ?_
    | refine Run.skip ?_
    | refine cT ?_
    | refine cF ?_
    | refine Run.block ?_
    | refine Run.exit ?_
    | refine Run.draw (frz := []) Et_ok (by kernel_rfl) ?_
    | refine eX ?_
    | refine eS ?_
    | refine eN ?_
    | (refine Run.ret ?_; (first | refine rB ?_ | refine rI ?_ | refine rA ?_ | refine rII ?_ | refine rSI ?_ | refine rT ?_ | refine rS ?_); first | done | (rfl))
    | fail)
theorem check03 (s : List Nat) (hl : s.length ≤ 1099511627776) : KnownCall Try.prog 86 [.str s] (.d (.int .i64 (nameF s))) := by
  refine knownE Et_ok (fnAt Try.func86 (by kernel_rfl) (by kernel_rfl) : FnAt _ _ (mkFn Try.f86 [])) ?_
  repeat' (first
    | refine Run.region ?_
    | refine Run.seq ?_
    | ((refine oB (frz := []) Et_ok (fun h => ?_) (fun h => ?_)) <;> (first | (exfalso; simp at h <;> fail) | (exfalso; simp at h; omega) | skip))
    | ((refine eB (fun h => ?_) (fun h => ?_)) <;> (first | (exfalso; simp at h <;> fail) | (exfalso; simp at h; omega) | skip))
    | refine oX (frz := []) Et_ok ?_
    | refine oS ?_
    | refine RunOps.nil ?_
    | refine Run.skip ?_
    | refine cT ?_
    | refine cF ?_
    | refine Run.block ?_
    | refine Run.exit ?_
    | refine Run.draw (frz := []) Et_ok (by kernel_rfl) ?_
    | refine eX ?_
    | refine eS ?_
    | refine eN ?_
    | ((refine oK (word _ hl) (fun h => ?_) (fun h => ?_)) <;> (first | (exfalso; simp at h <;> fail) | (exfalso; simp at h; omega) | skip))
    | refine oC (word _ hl) ?_
    | ((refine eK (word _ hl) (fun h => ?_) (fun h => ?_)) <;> (first | (exfalso; simp at h <;> fail) | (exfalso; simp at h; omega) | skip))
    | refine eC (word _ hl) ?_
    | ((refine oK (language _) (fun h => ?_) (fun h => ?_)) <;> (first | (exfalso; simp at h <;> fail) | (exfalso; simp at h; omega) | skip))
    | refine oC (language _) ?_
    | ((refine eK (language _) (fun h => ?_) (fun h => ?_)) <;> (first | (exfalso; simp at h <;> fail) | (exfalso; simp at h; omega) | skip))
    | refine eC (language _) ?_
    | (refine Run.ret ?_; (first | refine rB ?_ | refine rI ?_ | refine rA ?_ | refine rII ?_ | refine rSI ?_ | refine rT ?_ | refine rS ?_); first | done | (first | (simp_all [nameF] <;> fail) | (simp_all [nameF]; omega)))
    | fail)
def smallF (s : List Nat) : Bool := decide (nameF s = 0) && decide (97 ≤ s.getD 0 0)
def capitalF (s : List Nat) : Bool := decide (nameF s = 0) && decide (s.getD 0 0 < 97)
theorem name_first {s : List Nat} (h : nameF s = 0) : ∃ c : Nat, s[0]? = some c ∧ letterF c = true := by
  have hw : wordF s = 0 := by
    unfold nameF at h
    split at h
    · omega
    · exact h
  have hs : s ≠ [] := fun e => by simp [wordF, e] at hw
  obtain ⟨c, hc⟩ := get_ok (l := s) (i := 0) (List.length_pos_iff.2 hs)
  refine ⟨c, hc, ?_⟩
  cases hl : letterF c with
  | true => rfl
  | false => rw [wordF_bad hs ⟨c, hc, hl, .inl rfl⟩] at hw; omega
theorem letter_range {c : Nat} (h : letterF c = true) : (97 ≤ c ∧ c ≤ 122) ∨ (65 ≤ c ∧ c ≤ 90) := by simp [letterF] at h; omega
theorem small (s : List Nat) (hl : s.length ≤ 1099511627776) : KnownCall Try.prog 59 [.str s] (.d (.bool (smallF s))) := by
  refine knownE Et_ok (fnAt Try.func59 (by kernel_rfl) (by kernel_rfl) : FnAt _ _ (mkFn Try.f59 [])) ?_
  by_cases h0 : nameF s = 0
  · obtain ⟨c, hc, hlet⟩ := name_first h0
    have hr := letter_range hlet
    have hlt : 0 < s.length := (List.getElem?_eq_some_iff.1 hc).1
    have hg : s.getD 0 0 = c := by simp [List.getD_eq_getElem?_getD, hc]
    repeat' (first
      | refine Run.region ?_
      | refine Run.seq ?_
      | ((refine oB (frz := []) Et_ok (fun h => ?_) (fun h => ?_)) <;> (first | (exfalso; simp at h <;> fail) | (exfalso; simp at h; omega) | skip))
      | ((refine eB (fun h => ?_) (fun h => ?_)) <;> (first | (exfalso; simp at h <;> fail) | (exfalso; simp at h; omega) | skip))
      | refine oX (frz := []) Et_ok ?_
      | refine oS ?_
      | refine RunOps.nil ?_
      | refine Run.skip ?_
      | refine cT ?_
      | refine cF ?_
      | refine Run.block ?_
      | refine Run.exit ?_
      | refine Run.draw (frz := []) Et_ok (by kernel_rfl) ?_
      | refine eX ?_
      | refine eS ?_
      | refine eN ?_
      | ((refine oK (check03 _ hl) (fun h => ?_) (fun h => ?_)) <;> (first | (exfalso; simp at h <;> fail) | (exfalso; simp at h; omega) | skip))
      | refine oC (check03 _ hl) ?_
      | ((refine eK (check03 _ hl) (fun h => ?_) (fun h => ?_)) <;> (first | (exfalso; simp at h <;> fail) | (exfalso; simp at h; omega) | skip))
      | refine eC (check03 _ hl) ?_
      | refine oX (frz := []) (v := .d (.int .u8 c)) Et_ok ?_ (hf := (by first | (simp [inB] <;> fail) | (simp [inB]; omega))) (he := (by first | (simp [List.getD_eq_getElem?_getD, cellsD, hc] <;> fail) | fail))
      | refine eX (v := .d (.int .u8 c)) ?_ (hf := (by first | (simp [inB] <;> fail) | (simp [inB]; omega))) (he := (by first | (simp [List.getD_eq_getElem?_getD, cellsD, hc] <;> fail) | fail))
      | (refine Run.ret ?_; (first | refine rB ?_ | refine rI ?_ | refine rA ?_ | refine rII ?_ | refine rSI ?_ | refine rT ?_ | refine rS ?_); first | done | (first | (simp_all [smallF] <;> fail) | (simp_all [smallF]; omega)))
      | fail)
  · repeat' (first
      | refine Run.region ?_
      | refine Run.seq ?_
      | ((refine oB (frz := []) Et_ok (fun h => ?_) (fun h => ?_)) <;> (first | (exfalso; simp at h <;> fail) | (exfalso; simp at h; omega) | skip))
      | ((refine eB (fun h => ?_) (fun h => ?_)) <;> (first | (exfalso; simp at h <;> fail) | (exfalso; simp at h; omega) | skip))
      | refine oX (frz := []) Et_ok ?_
      | refine oS ?_
      | refine RunOps.nil ?_
      | refine Run.skip ?_
      | refine cT ?_
      | refine cF ?_
      | refine Run.block ?_
      | refine Run.exit ?_
      | refine Run.draw (frz := []) Et_ok (by kernel_rfl) ?_
      | refine eX ?_
      | refine eS ?_
      | refine eN ?_
      | ((refine oK (check03 _ hl) (fun h => ?_) (fun h => ?_)) <;> (first | (exfalso; simp at h <;> fail) | (exfalso; simp at h; omega) | skip))
      | refine oC (check03 _ hl) ?_
      | ((refine eK (check03 _ hl) (fun h => ?_) (fun h => ?_)) <;> (first | (exfalso; simp at h <;> fail) | (exfalso; simp at h; omega) | skip))
      | refine eC (check03 _ hl) ?_
      | (refine Run.ret ?_; (first | refine rB ?_ | refine rI ?_ | refine rA ?_ | refine rII ?_ | refine rSI ?_ | refine rT ?_ | refine rS ?_); first | done | (first | (simp_all [smallF] <;> fail) | (simp_all [smallF]; omega)))
      | fail)
theorem capital (s : List Nat) (hl : s.length ≤ 1099511627776) : KnownCall Try.prog 60 [.str s] (.d (.bool (capitalF s))) := by
  refine knownE Et_ok (fnAt Try.func60 (by kernel_rfl) (by kernel_rfl) : FnAt _ _ (mkFn Try.f60 [])) ?_
  by_cases h0 : nameF s = 0
  · obtain ⟨c, hc, hlet⟩ := name_first h0
    have hr := letter_range hlet
    have hlt : 0 < s.length := (List.getElem?_eq_some_iff.1 hc).1
    have hg : s.getD 0 0 = c := by simp [List.getD_eq_getElem?_getD, hc]
    repeat' (first
      | refine Run.region ?_
      | refine Run.seq ?_
      | ((refine oB (frz := []) Et_ok (fun h => ?_) (fun h => ?_)) <;> (first | (exfalso; simp at h <;> fail) | (exfalso; simp at h; omega) | skip))
      | ((refine eB (fun h => ?_) (fun h => ?_)) <;> (first | (exfalso; simp at h <;> fail) | (exfalso; simp at h; omega) | skip))
      | refine oX (frz := []) Et_ok ?_
      | refine oS ?_
      | refine RunOps.nil ?_
      | refine Run.skip ?_
      | refine cT ?_
      | refine cF ?_
      | refine Run.block ?_
      | refine Run.exit ?_
      | refine Run.draw (frz := []) Et_ok (by kernel_rfl) ?_
      | refine eX ?_
      | refine eS ?_
      | refine eN ?_
      | ((refine oK (check03 _ hl) (fun h => ?_) (fun h => ?_)) <;> (first | (exfalso; simp at h <;> fail) | (exfalso; simp at h; omega) | skip))
      | refine oC (check03 _ hl) ?_
      | ((refine eK (check03 _ hl) (fun h => ?_) (fun h => ?_)) <;> (first | (exfalso; simp at h <;> fail) | (exfalso; simp at h; omega) | skip))
      | refine eC (check03 _ hl) ?_
      | refine oX (frz := []) (v := .d (.int .u8 c)) Et_ok ?_ (hf := (by first | (simp [inB] <;> fail) | (simp [inB]; omega))) (he := (by first | (simp [List.getD_eq_getElem?_getD, cellsD, hc] <;> fail) | fail))
      | refine eX (v := .d (.int .u8 c)) ?_ (hf := (by first | (simp [inB] <;> fail) | (simp [inB]; omega))) (he := (by first | (simp [List.getD_eq_getElem?_getD, cellsD, hc] <;> fail) | fail))
      | (refine Run.ret ?_; (first | refine rB ?_ | refine rI ?_ | refine rA ?_ | refine rII ?_ | refine rSI ?_ | refine rT ?_ | refine rS ?_); first | done | (first | (simp_all [capitalF] <;> fail) | (simp_all [capitalF]; omega)))
      | fail)
  · repeat' (first
      | refine Run.region ?_
      | refine Run.seq ?_
      | ((refine oB (frz := []) Et_ok (fun h => ?_) (fun h => ?_)) <;> (first | (exfalso; simp at h <;> fail) | (exfalso; simp at h; omega) | skip))
      | ((refine eB (fun h => ?_) (fun h => ?_)) <;> (first | (exfalso; simp at h <;> fail) | (exfalso; simp at h; omega) | skip))
      | refine oX (frz := []) Et_ok ?_
      | refine oS ?_
      | refine RunOps.nil ?_
      | refine Run.skip ?_
      | refine cT ?_
      | refine cF ?_
      | refine Run.block ?_
      | refine Run.exit ?_
      | refine Run.draw (frz := []) Et_ok (by kernel_rfl) ?_
      | refine eX ?_
      | refine eS ?_
      | refine eN ?_
      | ((refine oK (check03 _ hl) (fun h => ?_) (fun h => ?_)) <;> (first | (exfalso; simp at h <;> fail) | (exfalso; simp at h; omega) | skip))
      | refine oC (check03 _ hl) ?_
      | ((refine eK (check03 _ hl) (fun h => ?_) (fun h => ?_)) <;> (first | (exfalso; simp at h <;> fail) | (exfalso; simp at h; omega) | skip))
      | refine eC (check03 _ hl) ?_
      | (refine Run.ret ?_; (first | refine rB ?_ | refine rI ?_ | refine rA ?_ | refine rII ?_ | refine rSI ?_ | refine rT ?_ | refine rS ?_); first | done | (first | (simp_all [capitalF] <;> fail) | (simp_all [capitalF]; omega)))
      | fail)
end Go.Av
end
noncomputable section
namespace Go.Av
open Go Go.Proofs
set_option maxRecDepth 10000
def smalls (g : Gram) : List (List Nat) := g.tokens ++ [g.sep]
open Classical in
def namedF (g : Gram) : Int := if (∃ s ∈ smalls g, smallF s = false) ∨ ∃ s ∈ g.names, capitalF s = false then 12 else 0
end Go.Av
end
noncomputable section
namespace Go.Av
open Go Go.Proofs
set_option maxRecDepth 10000
theorem slicesAll (ps : List GProd) : KnownCall Try.prog 57 [.sl 2 (ps.map encP)] (.d (allProdsF ps)) := by
  refine knownE Et_ok (fnAt Try.func57 (by kernel_rfl) (by kernel_rfl) : FnAt _ _ (mkFn Try.f57 [1])) ?_
  repeat (first
    | refine oX (frz := [1]) Et_ok ?_
    | refine oS ?_
    | refine RunOps.nil ?_
    | refine Run.region ?_
    | refine Run.seq ?_
    | refine Run.skip ?_
    | refine Run.block ?_
    | refine Run.exit ?_
    | refine Run.draw (frz := [1]) Et_ok (by kernel_rfl) ?_
    | refine eX ?_
    | refine eS ?_
    | refine eN ?_)
  refine Run.ret ?_
  refine ⟨trivial, _, _, by rfl, by rfl, Eq.trans (b := some (.d (allProdsF ps))) (by kernel_rfl) ?_⟩
  rfl
theorem prodsOf (g : Gram) : KnownCall Try.prog 34 [encG g] (.d (allProdsF g.prods)) := by
  refine knownE Et_ok (fnAt Try.func34 (by kernel_rfl) (by kernel_rfl) : FnAt _ _ (mkFn Try.f34 [1])) ?_
  repeat (first
    | refine oX (frz := [1]) Et_ok ?_
    | refine oS ?_
    | refine RunOps.nil ?_
    | refine Run.region ?_
    | refine Run.seq ?_
    | refine Run.skip ?_
    | refine Run.block ?_
    | refine Run.exit ?_
    | refine Run.draw (frz := [1]) Et_ok (by kernel_rfl) ?_
    | refine eX ?_
    | refine eS ?_
    | refine eN ?_)
  first | refine RunOps.call (by rfl) (by rfl) (slicesAll g.prods _) (by rfl) (by rfl) ?_ | refine EvD.call (by rfl) (by rfl) (by rfl) (slicesAll g.prods) (by rfl) (by rfl) ?_
  repeat (first
    | refine oX (frz := [1]) Et_ok ?_
    | refine oS ?_
    | refine RunOps.nil ?_
    | refine Run.region ?_
    | refine Run.seq ?_
    | refine Run.skip ?_
    | refine Run.block ?_
    | refine Run.exit ?_
    | refine Run.draw (frz := [1]) Et_ok (by kernel_rfl) ?_
    | refine eX ?_
    | refine eS ?_
    | refine eN ?_)
  refine Run.ret ?_
  refine ⟨trivial, _, _, by rfl, by rfl, Eq.trans (b := some (.d (allProdsF g.prods))) (by kernel_rfl) ?_⟩
  rfl
def manyF (g : Gram) : Int := if 8 < g.tokens.length ∨ 8 < g.names.length ∨ 24 < g.prods.length ∨ ∃ p ∈ g.prods, 6 < p.right.length then 6 else 0
theorem many (g : Gram) (hf : Fits g) : KnownCall Try.prog 43 [encG g] (.d (.int .i64 (manyF g))) := by
  refine knownE Et_ok (fnAt Try.func43 (by kernel_rfl) (by kernel_rfl) : FnAt _ _ (mkFn Try.f43 [1])) ?_
  refine Run.seq (Run.region ?_)
  iterate 2 (first | refine oX (frz := [1]) Et_ok ?_ | refine eX ?_)
  refine RunOps.nil ?_
  refine Run.seq (Run.seq (Run.region ?_))
  iterate 3 (first | refine oX (frz := [1]) Et_ok ?_ | refine eX ?_)
  by_cases h1 : 8 < g.tokens.length
  · first | refine oX (frz := [1]) (v := .d (.bool true)) Et_ok ?_ (he := (by simp; omega)) | refine eX (v := .d (.bool true)) ?_ (he := (by simp; omega))
    repeat (first
      | refine oX (frz := [1]) Et_ok ?_
      | refine oS ?_
      | refine RunOps.nil ?_
      | refine Run.region ?_
      | refine Run.seq ?_
      | refine Run.skip ?_
      | refine Run.block ?_
      | refine Run.exit ?_
      | refine Run.draw (frz := [1]) Et_ok (by kernel_rfl) ?_
      | refine eX ?_
      | refine eS ?_
      | refine eN ?_)
    refine Run.cond (b := true) (by rfl) (fun _ => ?_) (fun h => by cases h)
    repeat (first
      | refine oX (frz := [1]) Et_ok ?_
      | refine oS ?_
      | refine RunOps.nil ?_
      | refine Run.region ?_
      | refine Run.seq ?_
      | refine Run.skip ?_
      | refine Run.block ?_
      | refine Run.exit ?_
      | refine Run.draw (frz := [1]) Et_ok (by kernel_rfl) ?_
      | refine eX ?_
      | refine eS ?_
      | refine eN ?_)
    refine Run.ret ?_
    refine ⟨trivial, _, _, by rfl, by rfl, Eq.trans (b := some (.d (.int .i64 6))) (by kernel_rfl) ?_⟩
    simp [manyF, h1]
  · first | refine oX (frz := [1]) (v := .d (.bool false)) Et_ok ?_ (he := (by simp; omega)) | refine eX (v := .d (.bool false)) ?_ (he := (by simp; omega))
    iterate 4 (first | refine oX (frz := [1]) Et_ok ?_ | refine eX ?_)
    by_cases h2 : 8 < g.names.length
    · first | refine oX (frz := [1]) (v := .d (.bool true)) Et_ok ?_ (he := (by simp; omega)) | refine eX (v := .d (.bool true)) ?_ (he := (by simp; omega))
      repeat (first
        | refine oX (frz := [1]) Et_ok ?_
        | refine oS ?_
        | refine RunOps.nil ?_
        | refine Run.region ?_
        | refine Run.seq ?_
        | refine Run.skip ?_
        | refine Run.block ?_
        | refine Run.exit ?_
        | refine Run.draw (frz := [1]) Et_ok (by kernel_rfl) ?_
        | refine eX ?_
        | refine eS ?_
        | refine eN ?_)
      refine Run.cond (b := true) (by rfl) (fun _ => ?_) (fun h => by cases h)
      repeat (first
        | refine oX (frz := [1]) Et_ok ?_
        | refine oS ?_
        | refine RunOps.nil ?_
        | refine Run.region ?_
        | refine Run.seq ?_
        | refine Run.skip ?_
        | refine Run.block ?_
        | refine Run.exit ?_
        | refine Run.draw (frz := [1]) Et_ok (by kernel_rfl) ?_
        | refine eX ?_
        | refine eS ?_
        | refine eN ?_)
      refine Run.ret ?_
      refine ⟨trivial, _, _, by rfl, by rfl, Eq.trans (b := some (.d (.int .i64 6))) (by kernel_rfl) ?_⟩
      simp [manyF, h2]
    · first | refine oX (frz := [1]) (v := .d (.bool false)) Et_ok ?_ (he := (by simp; omega)) | refine eX (v := .d (.bool false)) ?_ (he := (by simp; omega))
      iterate 5 (first | refine oX (frz := [1]) Et_ok ?_ | refine eX ?_)
      by_cases h3 : 24 < g.prods.length
      · first | refine oX (frz := [1]) (v := .d (.bool true)) Et_ok ?_ (he := (by simp; omega)) | refine eX (v := .d (.bool true)) ?_ (he := (by simp; omega))
        repeat (first
          | refine oX (frz := [1]) Et_ok ?_
          | refine oS ?_
          | refine RunOps.nil ?_
          | refine Run.region ?_
          | refine Run.seq ?_
          | refine Run.skip ?_
          | refine Run.block ?_
          | refine Run.exit ?_
          | refine Run.draw (frz := [1]) Et_ok (by kernel_rfl) ?_
          | refine eX ?_
          | refine eS ?_
          | refine eN ?_)
        refine Run.cond (b := true) (by rfl) (fun _ => ?_) (fun h => by cases h)
        repeat (first
          | refine oX (frz := [1]) Et_ok ?_
          | refine oS ?_
          | refine RunOps.nil ?_
          | refine Run.region ?_
          | refine Run.seq ?_
          | refine Run.skip ?_
          | refine Run.block ?_
          | refine Run.exit ?_
          | refine Run.draw (frz := [1]) Et_ok (by kernel_rfl) ?_
          | refine eX ?_
          | refine eS ?_
          | refine eN ?_)
        refine Run.ret ?_
        refine ⟨trivial, _, _, by rfl, by rfl, Eq.trans (b := some (.d (.int .i64 6))) (by kernel_rfl) ?_⟩
        simp [manyF, h3]
      · first | refine oX (frz := [1]) (v := .d (.bool false)) Et_ok ?_ (he := (by simp; omega)) | refine eX (v := .d (.bool false)) ?_ (he := (by simp; omega))
        repeat (first
          | refine oX (frz := [1]) Et_ok ?_
          | refine oS ?_
          | refine RunOps.nil ?_
          | refine Run.region ?_
          | refine Run.seq ?_
          | refine Run.skip ?_
          | refine Run.block ?_
          | refine Run.exit ?_
          | refine Run.draw (frz := [1]) Et_ok (by kernel_rfl) ?_
          | refine eX ?_
          | refine eS ?_
          | refine eN ?_)
        refine Run.cond (b := false) (by rfl) (fun h => by cases h) (fun _ => ?_)
        repeat (first
          | refine oX (frz := [1]) Et_ok ?_
          | refine oS ?_
          | refine RunOps.nil ?_
          | refine Run.region ?_
          | refine Run.seq ?_
          | refine Run.skip ?_
          | refine Run.block ?_
          | refine Run.exit ?_
          | refine Run.draw (frz := [1]) Et_ok (by kernel_rfl) ?_
          | refine eX ?_
          | refine eS ?_
          | refine eN ?_)
        first | refine RunOps.call (by rfl) (by rfl) (prodsOf g _) (by rfl) (by rfl) ?_ | refine EvD.call (by rfl) (by rfl) (by rfl) (prodsOf g) (by rfl) (by rfl) ?_
        repeat (first
          | refine oX (frz := [1]) Et_ok ?_
          | refine oS ?_
          | refine RunOps.nil ?_
          | refine Run.region ?_
          | refine Run.seq ?_
          | refine Run.skip ?_
          | refine Run.block ?_
          | refine Run.exit ?_
          | refine Run.draw (frz := [1]) Et_ok (by kernel_rfl) ?_
          | refine eX ?_
          | refine eS ?_
          | refine eN ?_)
        obtain ⟨n, hn⟩ : ∃ n, n = g.prods.findIdx (fun p => decide (6 < p.right.length)) := ⟨_, rfl⟩
        have hidx : n ≤ g.prods.length := by rw [hn]; exact List.findIdx_le_length
        have hcase : n < g.prods.length ∨ n = g.prods.length := by omega
        refine Run.rangeProds (frz := [1]) 1 (fun _ => [.box [.d (.int .i64 0)]]) g.prods (Nat.le_trans hf.prods (by decide)) (by rfl) (fun _ => rfl) (fun _ => rfl) (by kernel_rfl) n hidx (fun k p hk hp => ?_) ?_
        · have hgood : ¬ 6 < p.right.length := by
            rw [hn] at hk
            have := List.not_of_lt_findIdx hk
            have e : g.prods[k] = p := by rw [List.getElem?_eq_some_iff] at hp; exact hp.2
            simpa [e] using this
          refine ayield_of_run (i := 2) (by rfl) (by rfl) (by rfl) ?_
          repeat (first
            | refine oX (frz := [1]) Et_ok ?_
            | refine oS ?_
            | refine RunOps.nil ?_
            | refine Run.region ?_
            | refine Run.seq ?_
            | refine Run.skip ?_
            | refine Run.block ?_
            | refine Run.exit ?_
            | refine Run.draw (frz := [1]) Et_ok (by kernel_rfl) ?_
            | refine eX ?_
            | refine eS ?_
            | refine eN ?_)
          refine ⟨rfl, _, _, _, _, _, _, _, by rfl, ?_⟩
          refine Run.less ?_
          repeat (first
            | refine oX (frz := [1]) Et_ok ?_
            | refine oS ?_
            | refine RunOps.nil ?_
            | refine Run.region ?_
            | refine Run.seq ?_
            | refine Run.skip ?_
            | refine Run.block ?_
            | refine Run.exit ?_
            | refine Run.draw (frz := [1]) Et_ok (by kernel_rfl) ?_
            | refine eX ?_
            | refine eS ?_
            | refine eN ?_)
          refine Run.cond (by rfl) (fun h => ?_) (fun h => ?_)
          · simp at h; omega
          · repeat (first
              | refine oX (frz := [1]) Et_ok ?_
              | refine oS ?_
              | refine RunOps.nil ?_
              | refine Run.region ?_
              | refine Run.seq ?_
              | refine Run.skip ?_
              | refine Run.block ?_
              | refine Run.exit ?_
              | refine Run.draw (frz := [1]) Et_ok (by kernel_rfl) ?_
              | refine eX ?_
              | refine eS ?_
              | refine eN ?_)
            exact ⟨rfl, _, less_of [] 3 rfl (by rfl) trivial trivial (by kernel_rfl) rfl, _, _, _, _, _, _, _, _, by rfl, rfl, by rfl⟩
        · rcases hcase with hlt | hge
          · obtain ⟨p, hp⟩ := get_ok hlt
            have hbad : 6 < p.right.length := by
              rw [hn] at hp hlt
              have := List.findIdx_getElem (p := fun p : GProd => decide (6 < p.right.length)) (xs := g.prods) (w := hlt)
              have e : g.prods[g.prods.findIdx fun p => decide (6 < p.right.length)] = p := by rw [List.getElem?_eq_some_iff] at hp; exact hp.2
              rw [e] at this
              simpa using this
            refine .inr ⟨p, [.box [.d (.int .i64 6)]], hp, rfl, .inl ⟨?_, ?_⟩⟩
            · refine ayield_of_run (i := 2) (by rfl) (by rfl) (by rfl) ?_
              repeat (first
                | refine oX (frz := [1]) Et_ok ?_
                | refine oS ?_
                | refine RunOps.nil ?_
                | refine Run.region ?_
                | refine Run.seq ?_
                | refine Run.skip ?_
                | refine Run.block ?_
                | refine Run.exit ?_
                | refine Run.draw (frz := [1]) Et_ok (by kernel_rfl) ?_
                | refine eX ?_
                | refine eS ?_
                | refine eN ?_)
              refine ⟨rfl, _, _, _, _, _, _, _, by rfl, ?_⟩
              refine Run.less ?_
              repeat (first
                | refine oX (frz := [1]) Et_ok ?_
                | refine oS ?_
                | refine RunOps.nil ?_
                | refine Run.region ?_
                | refine Run.seq ?_
                | refine Run.skip ?_
                | refine Run.block ?_
                | refine Run.exit ?_
                | refine Run.draw (frz := [1]) Et_ok (by kernel_rfl) ?_
                | refine eX ?_
                | refine eS ?_
                | refine eN ?_)
              refine Run.cond (by rfl) (fun h => ?_) (fun h => ?_)
              · repeat (first
                  | refine oX (frz := [1]) Et_ok ?_
                  | refine oS ?_
                  | refine RunOps.nil ?_
                  | refine Run.region ?_
                  | refine Run.seq ?_
                  | refine Run.skip ?_
                  | refine Run.block ?_
                  | refine Run.exit ?_
                  | refine Run.draw (frz := [1]) Et_ok (by kernel_rfl) ?_
                  | refine eX ?_
                  | refine eS ?_
                  | refine eN ?_)
                refine Run.ret ?_
                exact ⟨rfl, _, less_of [] 3 rfl (by rfl) trivial trivial (by kernel_rfl) rfl, _, _, _, _, _, _, _, _, by rfl, rfl, by rfl⟩
              · simp at h; omega
            · refine ⟨trivial, _, _, by rfl, by rfl, Eq.trans (b := some (.d (.int .i64 6))) (by kernel_rfl) ?_⟩
              have hm : manyF g = 6 := by
                unfold manyF
                rw [if_pos (.inr (.inr (.inr ⟨p, List.mem_of_getElem? hp, hbad⟩)))]
              rw [hm]
          · refine .inl ⟨hge, ?_⟩
            repeat (first
              | refine oX (frz := [1]) Et_ok ?_
              | refine oS ?_
              | refine RunOps.nil ?_
              | refine Run.region ?_
              | refine Run.seq ?_
              | refine Run.skip ?_
              | refine Run.block ?_
              | refine Run.exit ?_
              | refine Run.draw (frz := [1]) Et_ok (by kernel_rfl) ?_
              | refine eX ?_
              | refine eS ?_
              | refine eN ?_)
            refine Run.ret ?_
            refine ⟨trivial, _, _, by rfl, by rfl, Eq.trans (b := some (.d (.int .i64 0))) (by kernel_rfl) ?_⟩
            have hm : manyF g = 0 := by
              unfold manyF
              rw [if_neg]
              rintro (h | h | h | ⟨p, hp, h⟩)
              · exact h1 h
              · exact h2 h
              · exact h3 h
              · have := List.findIdx_lt_length_of_exists (xs := g.prods) (p := fun p => decide (6 < p.right.length)) ⟨p, hp, by simpa using h⟩
                omega
            rw [hm]
end Go.Av
end
noncomputable section
namespace Go.Av
open Go Go.Proofs
set_option maxRecDepth 10000
theorem many_no {g : Gram} (h1 : ¬ 8 < g.tokens.length) (h2 : ¬ 8 < g.names.length) (h3 : ¬ 24 < g.prods.length) (h4 : ∀ (j : Nat) p, j < g.prods.length → g.prods[j]? = some p → ¬ 6 < p.right.length) : manyF g = 0 := by
  refine if_neg ?_
  rintro (h | h | h | ⟨p, hp, h⟩)
  · exact h1 h
  · exact h2 h
  · exact h3 h
  · obtain ⟨j, hj, e⟩ := List.getElem_of_mem hp
    exact h4 j p hj (by rw [List.getElem?_eq_getElem hj, e]) h
end Go.Av
end
noncomputable section
namespace Go.Av
open Go Go.Proofs
set_option maxRecDepth 10000
def namesF (g : Gram) : Int := if namedF g = 0 ∧ (¬ (smalls g).Nodup ∨ ¬ g.names.Nodup) then 8 else namedF g
theorem named_small {g : Gram} {i : Nat} {s : List Nat} (h : (smalls g)[i]? = some s) (h' : smallF s = false) : namedF g = 12 := if_pos (.inl ⟨s, List.mem_of_getElem? h, h'⟩)
theorem named_capital {g : Gram} {i : Nat} {s : List Nat} (h : g.names[i]? = some s) (h' : capitalF s = false) : namedF g = 12 := if_pos (.inr ⟨s, List.mem_of_getElem? h, h'⟩)
theorem named_no {g : Gram} (h1 : ∀ j : Nat, j < (smalls g).length → ∀ s, (smalls g)[j]? = some s → smallF s = true) (h2 : ∀ j : Nat, j < g.names.length → ∀ s, g.names[j]? = some s → capitalF s = true) : namedF g = 0 := by
  refine if_neg ?_
  rintro (⟨s, hs, h⟩ | ⟨s, hs, h⟩)
  · obtain ⟨j, hj, e⟩ := List.getElem_of_mem hs
    have := h1 j hj s (by rw [List.getElem?_eq_getElem hj, e])
    simp [this] at h
  · obtain ⟨j, hj, e⟩ := List.getElem_of_mem hs
    have := h2 j hj s (by rw [List.getElem?_eq_getElem hj, e])
    simp [this] at h
theorem Fits.small {g : Gram} (hf : Fits g) {i : Nat} {s : List Nat} (h : (smalls g)[i]? = some s) : s.length ≤ 1099511627776 := by
  have := List.mem_of_getElem? h
  simp only [smalls, List.mem_append, List.mem_singleton] at this
  rcases this with h | rfl
  · exact Nat.le_trans (hf.tokenS _ h) (by decide)
  · exact Nat.le_trans hf.sep (by decide)
theorem Fits.name {g : Gram} (hf : Fits g) {i : Nat} {s : List Nat} (h : g.names[i]? = some s) : s.length ≤ 1099511627776 := Nat.le_trans (hf.nameS _ (List.mem_of_getElem? h)) (by decide)
def symF (g : Gram) (s : List Nat) : Int := if 0 ≤ findF g.names s then 16 + findF g.names s else findF g.tokens s
theorem findF_range (l : List (List Nat)) (s : List Nat) : -1 ≤ findF l s ∧ findF l s < l.length := by
  unfold findF
  split
  · rename_i h
    have := List.idxOf_lt_length_iff.2 h
    omega
  · omega
end Go.Av
end
noncomputable section
namespace Go.Av
open Go Go.Proofs
set_option maxRecDepth 10000
def rowA (k sz : Nat) : List DV → AV
  | [] => .d .nilsl
  | a :: l => .sr k sz (a :: l)
def rowO (sz : Nat) : List DV → List Ob
  | [] => []
  | _ :: l => [.room (l.length + 1) sz]
def prodsTo (g : Gram) (s : Int) (i : Nat) : List Nat := ((g.prods.take i).zipIdx.filter (fun q => decide (q.1.left = s))).map (·.2)
def prodsF (g : Gram) (s : Int) : List Nat := prodsTo g s g.prods.length
abbrev natsD (l : List Nat) : List DV := l.map fun n : Nat => .int .i64 n
theorem natsD_append (a b : List Nat) : natsD (a ++ b) = natsD a ++ natsD b := List.map_append
theorem prodsTo_succ {g : Gram} {s : Int} {i : Nat} {p : GProd} (h : g.prods[i]? = some p) : prodsTo g s (i + 1) = prodsTo g s i ++ (if p.left = s then [i] else []) := by
  have hi := (List.getElem?_eq_some_iff.1 h).1
  have hl : (g.prods.take i).length = i := by simp; omega
  simp only [prodsTo]
  rw [List.take_add_one, h, List.zipIdx_append, List.filter_append, List.map_append, hl]
  congr 1
  by_cases hp : p.left = s <;> simp [hp]
theorem prodsTo_len (g : Gram) (s : Int) (i : Nat) : (prodsTo g s i).length ≤ i := by
  simp only [prodsTo, List.length_map]
  refine Nat.le_trans (List.length_filter_le _ _) ?_
  simp; omega
end Go.Av
end
noncomputable section
namespace Go.Av
open Go Go.Proofs
set_option maxRecDepth 10000
def goodS (g : Gram) (s : Int) : Bool := isTerm g s || isNonterm g s
def goodP (g : Gram) (p : GProd) : Prop := isNonterm g p.left = true ∧ ∀ s ∈ p.right, goodS g s = true
def symbolsOK (g : Gram) : Prop := isNonterm g g.start = true ∧ ∀ p ∈ g.prods, goodP g p
def orderBad (g : Gram) : Prop := ∃ (i : Nat) (p q : GProd), g.prods[i]? = some p ∧ g.prods[i + 1]? = some q ∧ q.left < p.left
def missing (g : Gram) : Prop := ∃ i : Nat, i < g.names.length ∧ prodsF g (16 + i) = []
open Classical in
def symbolsF (g : Gram) : Int := if symbolsOK g then (if orderBad g then 9 else if missing g then 7 else 0) else 14
end Go.Av
end
noncomputable section
namespace Go.Av
open Go Go.Proofs
set_option maxRecDepth 10000
open Classical in
def checkF (g : Gram) : Int := if g.k < 1 ∨ 4 < g.k then 2 else if manyF g ≠ 0 then manyF g else if g.tokens = [] ∨ g.names = [] then 5 else if namesF g ≠ 0 then namesF g else symbolsF g
def ntermF (g : Gram) (s : Int) : Int × Int := if checkF g ≠ 0 then (0, checkF g) else if isNonterm g s = true then (s - 16, 0) else (0, 14)
def askProdsF (g : Gram) (s : Int) : List Nat × Int := if (ntermF g s).2 ≠ 0 then ([], (ntermF g s).2) else (prodsF g s, 0)
def askSymF (g : Gram) (s : List Nat) : Int × Int := if checkF g ≠ 0 then (0, checkF g) else if symF g s < 0 then (0, 7) else (symF g s, 0)
def symName (g : Gram) (s : Int) : Option (List Nat) := if 16 ≤ s then g.names[(s - 16).toNat]? else if 0 ≤ s then g.tokens[s.toNat]? else none
end Go.Av
end
noncomputable section
namespace Go.Av
open Go Go.Proofs
set_option maxRecDepth 10000
theorem check_parts {g : Gram} (h : checkF g = 0) : manyF g = 0 ∧ g.tokens ≠ [] ∧ g.names ≠ [] ∧ namesF g = 0 ∧ symbolsF g = 0 := by
  unfold checkF at h
  split at h
  · omega
  · split at h
    · contradiction
    · split at h
      · omega
      · split at h
        · contradiction
        · rename_i h1 h2 h3 h4
          rw [not_or] at h3
          exact ⟨Classical.byContradiction h2, h3.1, h3.2, Classical.byContradiction h4, h⟩
theorem many_zero {g : Gram} (h : manyF g = 0) : g.tokens.length ≤ 8 ∧ g.names.length ≤ 8 ∧ g.prods.length ≤ 24 ∧ ∀ p ∈ g.prods, p.right.length ≤ 6 := by
  unfold manyF at h
  split at h
  · omega
  · rename_i hn
    simp only [not_or, not_exists, not_and] at hn
    exact ⟨by omega, by omega, by omega, fun p hp => by have := hn.2.2.2 p hp; omega⟩
theorem symbols_zero {g : Gram} (h : symbolsF g = 0) : symbolsOK g ∧ ¬ orderBad g ∧ ¬ missing g := by
  unfold symbolsF at h
  split at h
  · split at h
    · omega
    · split at h
      · omega
      · exact ⟨by assumption, by assumption, by assumption⟩
  · omega
theorem name_of_good {g : Gram} (ht : g.tokens.length ≤ 8) {s : Int} (h : goodS g s = true) : ∃ x, symName g s = some x := by
  simp only [goodS, isTerm, isNonterm, Bool.or_eq_true, Bool.and_eq_true, decide_eq_true_eq] at h
  unfold symName
  split
  · exact get_ok (by omega)
  · rw [if_pos (by omega)]
    exact get_ok (by omega)
def nameS (g : Gram) (s : Int) : List Nat := (symName g s).getD []
theorem nameS_of {g : Gram} {s : Int} {x : List Nat} (h : symName g s = some x) : nameS g s = x := by simp [nameS, h]
end Go.Av
end
noncomputable section
namespace Go.Av
open Go Go.Proofs
set_option maxRecDepth 10000
theorem cutL_all {α : Type} (l : List α) : cutL none (some (l.length : Int)) l = l := by simp [cutL]
def namedG (g : Gram) : Int := if g.tokens = [] ∨ g.names = [] then 5 else namedF g
theorem namedG_of {g : Gram} (h1 : g.tokens ≠ []) (h2 : g.names ≠ []) : namedG g = namedF g := if_neg (by simp [h1, h2])
theorem named (g : Gram) (hf : Fits g) : KnownCall Try.prog 44 [encG g] (.d (.int .i64 (namedG g))) := by
  have hft := hf.tokens
  have hfn := hf.names
  have hsl : (smalls g).length = g.tokens.length + 1 := by simp [smalls]
  by_cases h1 : g.tokens = []
  · have e : namedG g = 5 := if_pos (.inl h1)
    rw [e]
    refine knownE Et_ok (fnAt Try.func44 (by kernel_rfl) (by kernel_rfl) : FnAt _ _ (mkFn Try.f44 [1, 28])) ?_
    repeat' (first
      | refine Run.region ?_
      | refine Run.seq ?_
      | ((refine oB (frz := [1, 28]) Et_ok (fun h => ?_) (fun h => ?_)) <;> (first | (exfalso; simp at h <;> fail) | (exfalso; simp at h; omega) | skip))
      | ((refine eB (fun h => ?_) (fun h => ?_)) <;> (first | (exfalso; simp at h <;> fail) | (exfalso; simp at h; omega) | skip))
      | refine oX (frz := [1, 28]) Et_ok ?_
      | refine oS ?_
      | refine RunOps.nil ?_
      | refine Run.skip ?_
      | refine cT ?_
      | refine cF ?_
      | refine Run.block ?_
      | refine Run.exit ?_
      | refine Run.draw (frz := [1, 28]) Et_ok (by kernel_rfl) ?_
      | refine eX ?_
      | refine eS ?_
      | refine eN ?_
      | (refine Run.ret ?_; (first | refine rB ?_ | refine rI ?_ | refine rA ?_ | refine rII ?_ | refine rSI ?_ | refine rT ?_ | refine rS ?_); first | done | (rfl))
      | (exfalso; (simp_all <;> fail))
      | fail)
  · by_cases h2 : g.names = []
    · have e : namedG g = 5 := if_pos (.inr h2)
      rw [e]
      have h1' : g.tokens.length ≠ 0 := by simpa using h1
      refine knownE Et_ok (fnAt Try.func44 (by kernel_rfl) (by kernel_rfl) : FnAt _ _ (mkFn Try.f44 [1, 28])) ?_
      repeat' (first
        | refine Run.region ?_
        | refine Run.seq ?_
        | ((refine oB (frz := [1, 28]) Et_ok (fun h => ?_) (fun h => ?_)) <;> (first | (exfalso; simp at h <;> fail) | (exfalso; simp at h; omega) | skip))
        | ((refine eB (fun h => ?_) (fun h => ?_)) <;> (first | (exfalso; simp at h <;> fail) | (exfalso; simp at h; omega) | skip))
        | refine oX (frz := [1, 28]) Et_ok ?_
        | refine oS ?_
        | refine RunOps.nil ?_
        | refine Run.skip ?_
        | refine cT ?_
        | refine cF ?_
        | refine Run.block ?_
        | refine Run.exit ?_
        | refine Run.draw (frz := [1, 28]) Et_ok (by kernel_rfl) ?_
        | refine eX ?_
        | refine eS ?_
        | refine eN ?_
        | (refine Run.ret ?_; (first | refine rB ?_ | refine rI ?_ | refine rA ?_ | refine rII ?_ | refine rSI ?_ | refine rT ?_ | refine rS ?_); first | done | (rfl))
        | (exfalso; (simp_all <;> fail))
        | fail)
    · rw [namedG_of h1 h2]
      have h1' : g.tokens.length ≠ 0 := by simpa using h1
      have h2' : g.names.length ≠ 0 := by simpa using h2
      refine knownE Et_ok (fnAt Try.func44 (by kernel_rfl) (by kernel_rfl) : FnAt _ _ (mkFn Try.f44 [1, 28])) ?_
      repeat' (first
        | refine Run.region ?_
        | refine Run.seq ?_
        | ((refine oB (frz := [1, 28]) Et_ok (fun h => ?_) (fun h => ?_)) <;> (first | (exfalso; simp at h <;> fail) | (exfalso; simp at h; omega) | skip))
        | ((refine eB (fun h => ?_) (fun h => ?_)) <;> (first | (exfalso; simp at h <;> fail) | (exfalso; simp at h; omega) | skip))
        | refine oX (frz := [1, 28]) Et_ok ?_
        | refine oS ?_
        | refine RunOps.nil ?_
        | refine Run.skip ?_
        | refine cT ?_
        | refine cF ?_
        | refine Run.block ?_
        | refine Run.exit ?_
        | refine Run.draw (frz := [1, 28]) Et_ok (by kernel_rfl) ?_
        | refine eX ?_
        | refine eS ?_
        | refine eN ?_
        | refine oX (frz := [1, 28]) Et_ok ?_ (hf := (by first | (simp [cutC] <;> fail) | (simp [cutC]; omega)))
        | refine eX ?_ (hf := (by first | (simp [cutC] <;> fail) | (simp [cutC]; omega)))
        | refine oX (frz := [1, 28]) Et_ok ?_ (hv := app1) (hf := rfl) (he := rfl)
        | refine eX ?_ (hv := app1) (hf := rfl) (he := rfl)
        | refine oX (frz := [1, 28]) Et_ok ?_ (hv := app0) (hf := rfl) (he := rfl)
        | refine eX ?_ (hv := app0) (hf := rfl) (he := rfl)
        | (refine Run.ret ?_; (first | refine rB ?_ | refine rI ?_ | refine rA ?_ | refine rII ?_ | refine rSI ?_ | refine rT ?_ | refine rS ?_); first | done | (exfalso; (simp_all <;> fail)))
        | fail)
      first | refine Run.tidy (tidy_of (objs := _) [(1, (.d (.ep [.int .i64 g.k, strs g.tokens, .str g.sep, strs g.names, .int .i64 g.start, .sl 2 (g.prods.map encP)]))), (29, .d (strs (smalls g))), (30, .d (.int .i64 (smalls g).length)), (31, .d (.int .i64 0))] 0 (Eq.trans (b := []) rfl rfl) rfl (by repeat' (first | exact trivial | refine ⟨(Or.inl rfl), ?_⟩ | refine ⟨(Or.inr rfl), ?_⟩ | refine ⟨rfl, ?_⟩ | refine ⟨(Or.inr (Eq.trans (b := some (.d (.sl 1 (cutL none (some ((g.tokens.map DV.str).length : Int)) (g.tokens.map DV.str) ++ [.str g.sep])))) rfl (by rw [cutL_all]; simp [smalls]))), ?_⟩ | refine ⟨(Or.inl (Eq.trans (b := some (.d (.int .i64 ((cutL none (some ((g.tokens.map DV.str).length : Int)) (g.tokens.map DV.str) ++ [DV.str g.sep]).length : Nat)))) rfl (by rw [cutL_all]; simp [smalls]))), ?_⟩ | fail)) (by repeat' (first | exact trivial | refine ⟨(Or.inl rfl), ?_⟩ | refine ⟨(Or.inr rfl), ?_⟩ | refine ⟨rfl, ?_⟩ | refine ⟨(Or.inr (Eq.trans (b := some (.d (.sl 1 (cutL none (some ((g.tokens.map DV.str).length : Int)) (g.tokens.map DV.str) ++ [.str g.sep])))) rfl (by rw [cutL_all]; simp [smalls]))), ?_⟩ | refine ⟨(Or.inl (Eq.trans (b := some (.d (.int .i64 ((cutL none (some ((g.tokens.map DV.str).length : Int)) (g.tokens.map DV.str) ++ [DV.str g.sep]).length : Nat)))) rfl (by rw [cutL_all]; simp [smalls]))), ?_⟩ | fail)) rfl rfl) ?_ | refine RunOps.tidy (tidy_of (objs := _) [(1, (.d (.ep [.int .i64 g.k, strs g.tokens, .str g.sep, strs g.names, .int .i64 g.start, .sl 2 (g.prods.map encP)]))), (29, .d (strs (smalls g))), (30, .d (.int .i64 (smalls g).length)), (31, .d (.int .i64 0))] 0 (Eq.trans (b := []) rfl rfl) rfl (by repeat' (first | exact trivial | refine ⟨(Or.inl rfl), ?_⟩ | refine ⟨(Or.inr rfl), ?_⟩ | refine ⟨rfl, ?_⟩ | refine ⟨(Or.inr (Eq.trans (b := some (.d (.sl 1 (cutL none (some ((g.tokens.map DV.str).length : Int)) (g.tokens.map DV.str) ++ [.str g.sep])))) rfl (by rw [cutL_all]; simp [smalls]))), ?_⟩ | refine ⟨(Or.inl (Eq.trans (b := some (.d (.int .i64 ((cutL none (some ((g.tokens.map DV.str).length : Int)) (g.tokens.map DV.str) ++ [DV.str g.sep]).length : Nat)))) rfl (by rw [cutL_all]; simp [smalls]))), ?_⟩ | fail)) (by repeat' (first | exact trivial | refine ⟨(Or.inl rfl), ?_⟩ | refine ⟨(Or.inr rfl), ?_⟩ | refine ⟨rfl, ?_⟩ | refine ⟨(Or.inr (Eq.trans (b := some (.d (.sl 1 (cutL none (some ((g.tokens.map DV.str).length : Int)) (g.tokens.map DV.str) ++ [.str g.sep])))) rfl (by rw [cutL_all]; simp [smalls]))), ?_⟩ | refine ⟨(Or.inl (Eq.trans (b := some (.d (.int .i64 ((cutL none (some ((g.tokens.map DV.str).length : Int)) (g.tokens.map DV.str) ++ [DV.str g.sep]).length : Nat)))) rfl (by rw [cutL_all]; simp [smalls]))), ?_⟩ | fail)) rfl rfl) ?_
      refine Run.loop (fun i : Nat => ⟨PT.ofList [(1, (.d (.ep [.int .i64 g.k, strs g.tokens, .str g.sep, strs g.names, .int .i64 g.start, .sl 2 (g.prods.map encP)]))), (29, .d (strs (smalls g))), (30, .d (.int .i64 (smalls g).length)), (31, .d (.int .i64 i))], [], []⟩) (fun i => i ≤ (smalls g).length ∧ ∀ j, j < i → ∀ s, (smalls g)[j]? = some s → smallF s = true) (fun i => (smalls g).length - i) 0 ⟨Nat.zero_le _, fun j hj => by omega⟩ (weak_of (by repeat' (first | exact trivial | refine ⟨rfl, ?_⟩))) (fun i hi => ?_)
      obtain ⟨hi1, hi2⟩ := hi
      rcases Nat.lt_or_ge i (smalls g).length with hlt | hge
      · obtain ⟨s, hs⟩ := get_ok hlt
        repeat' (first
          | refine Run.region ?_
          | refine Run.seq ?_
          | ((refine oB (frz := [1, 28]) Et_ok (fun h => ?_) (fun h => ?_)) <;> (first | (exfalso; simp at h <;> fail) | (exfalso; simp at h; omega) | skip))
          | ((refine eB (fun h => ?_) (fun h => ?_)) <;> (first | (exfalso; simp at h <;> fail) | (exfalso; simp at h; omega) | skip))
          | refine oX (frz := [1, 28]) Et_ok ?_
          | refine oS ?_
          | refine RunOps.nil ?_
          | refine Run.skip ?_
          | refine cT ?_
          | refine cF ?_
          | refine Run.block ?_
          | refine Run.exit ?_
          | refine Run.draw (frz := [1, 28]) Et_ok (by kernel_rfl) ?_
          | refine eX ?_
          | refine eS ?_
          | refine eN ?_
          | refine oX (frz := [1, 28]) (v := .d (.ep [.str s])) Et_ok ?_ (hf := (by first | (simp [inB] <;> fail) | (simp [inB]; omega))) (he := (by first | (simp [List.getD_eq_getElem?_getD, cellsD, hs] <;> fail) | fail))
          | refine eX (v := .d (.ep [.str s])) ?_ (hf := (by first | (simp [inB] <;> fail) | (simp [inB]; omega))) (he := (by first | (simp [List.getD_eq_getElem?_getD, cellsD, hs] <;> fail) | fail))
          | ((refine oK (small _ (hf.small hs)) (fun h => ?_) (fun h => ?_)) <;> (first | (exfalso; simp at h <;> fail) | (exfalso; simp at h; omega) | skip))
          | refine oC (small _ (hf.small hs)) ?_
          | ((refine eK (small _ (hf.small hs)) (fun h => ?_) (fun h => ?_)) <;> (first | (exfalso; simp at h <;> fail) | (exfalso; simp at h; omega) | skip))
          | refine eC (small _ (hf.small hs)) ?_
          | (refine Run.ret ?_; (first | refine rB ?_ | refine rI ?_ | refine rA ?_ | refine rII ?_ | refine rSI ?_ | refine rT ?_ | refine rS ?_); first | done | (rw [named_small hs (by simp_all)]))
          | (exact ⟨i + 1, ⟨by omega, all_succ hi2 (fun q hq => by rw [hs] at hq; cases hq; simp_all)⟩, by omega, weak_of (by repeat' (first | exact trivial | refine ⟨rfl, ?_⟩ | refine ⟨(inc_get (k := i) (by kernel_rfl) (by omega)), ?_⟩))⟩)
          | fail)
      · repeat' (first
          | refine Run.region ?_
          | refine Run.seq ?_
          | ((refine oB (frz := [1, 28]) Et_ok (fun h => ?_) (fun h => ?_)) <;> (first | (exfalso; simp at h <;> fail) | (exfalso; simp at h; omega) | skip))
          | ((refine eB (fun h => ?_) (fun h => ?_)) <;> (first | (exfalso; simp at h <;> fail) | (exfalso; simp at h; omega) | skip))
          | refine oX (frz := [1, 28]) Et_ok ?_
          | refine oS ?_
          | refine RunOps.nil ?_
          | refine Run.skip ?_
          | refine cT ?_
          | refine cF ?_
          | refine Run.block ?_
          | refine Run.exit ?_
          | refine Run.draw (frz := [1, 28]) Et_ok (by kernel_rfl) ?_
          | refine eX ?_
          | refine eS ?_
          | refine eN ?_
          | (refine Run.ret ?_; (first | refine rB ?_ | refine rI ?_ | refine rA ?_ | refine rII ?_ | refine rSI ?_ | refine rT ?_ | refine rS ?_); first | done | (skip))
          | fail)
        refine Run.loop (fun i : Nat => ⟨PT.ofList [(1, (.d (.ep [.int .i64 g.k, strs g.tokens, .str g.sep, strs g.names, .int .i64 g.start, .sl 2 (g.prods.map encP)]))), (40, .d (strs g.names)), (41, .d (.int .i64 (g.names.map DV.str).length)), (42, .d (.int .i64 i))], [], []⟩) (fun i => i ≤ g.names.length ∧ ∀ j, j < i → ∀ s, g.names[j]? = some s → capitalF s = true) (fun i => g.names.length - i) 0 ⟨Nat.zero_le _, fun j hj => by omega⟩ (weak_of (by repeat' (first | exact trivial | refine ⟨rfl, ?_⟩))) (fun k hk => ?_)
        obtain ⟨hk1, hk2⟩ := hk
        rcases Nat.lt_or_ge k g.names.length with hklt | hkge
        · obtain ⟨s, hs⟩ := get_ok hklt
          repeat' (first
            | refine Run.region ?_
            | refine Run.seq ?_
            | ((refine oB (frz := [1, 28]) Et_ok (fun h => ?_) (fun h => ?_)) <;> (first | (exfalso; simp at h <;> fail) | (exfalso; simp at h; omega) | skip))
            | ((refine eB (fun h => ?_) (fun h => ?_)) <;> (first | (exfalso; simp at h <;> fail) | (exfalso; simp at h; omega) | skip))
            | refine oX (frz := [1, 28]) Et_ok ?_
            | refine oS ?_
            | refine RunOps.nil ?_
            | refine Run.skip ?_
            | refine cT ?_
            | refine cF ?_
            | refine Run.block ?_
            | refine Run.exit ?_
            | refine Run.draw (frz := [1, 28]) Et_ok (by kernel_rfl) ?_
            | refine eX ?_
            | refine eS ?_
            | refine eN ?_
            | refine oX (frz := [1, 28]) (v := .d (.ep [.str s])) Et_ok ?_ (hf := (by first | (simp [inB] <;> fail) | (simp [inB]; omega))) (he := (by first | (simp [List.getD_eq_getElem?_getD, cellsD, hs] <;> fail) | fail))
            | refine eX (v := .d (.ep [.str s])) ?_ (hf := (by first | (simp [inB] <;> fail) | (simp [inB]; omega))) (he := (by first | (simp [List.getD_eq_getElem?_getD, cellsD, hs] <;> fail) | fail))
            | ((refine oK (capital _ (hf.name hs)) (fun h => ?_) (fun h => ?_)) <;> (first | (exfalso; simp at h <;> fail) | (exfalso; simp at h; omega) | skip))
            | refine oC (capital _ (hf.name hs)) ?_
            | ((refine eK (capital _ (hf.name hs)) (fun h => ?_) (fun h => ?_)) <;> (first | (exfalso; simp at h <;> fail) | (exfalso; simp at h; omega) | skip))
            | refine eC (capital _ (hf.name hs)) ?_
            | (refine Run.ret ?_; (first | refine rB ?_ | refine rI ?_ | refine rA ?_ | refine rII ?_ | refine rSI ?_ | refine rT ?_ | refine rS ?_); first | done | (rw [named_capital hs (by simp_all)]))
            | (exact ⟨k + 1, ⟨by omega, all_succ hk2 (fun q hq => by rw [hs] at hq; cases hq; simp_all)⟩, by omega, weak_of (by repeat' (first | exact trivial | refine ⟨rfl, ?_⟩ | refine ⟨(inc_get (k := k) (by kernel_rfl) (by omega)), ?_⟩))⟩)
            | fail)
        · have h0 : namedF g = 0 := named_no (fun j hj => hi2 j (by omega)) (fun j hj => hk2 j (by omega))
          repeat' (first
            | refine Run.region ?_
            | refine Run.seq ?_
            | ((refine oB (frz := [1, 28]) Et_ok (fun h => ?_) (fun h => ?_)) <;> (first | (exfalso; simp at h <;> fail) | (exfalso; simp at h; omega) | skip))
            | ((refine eB (fun h => ?_) (fun h => ?_)) <;> (first | (exfalso; simp at h <;> fail) | (exfalso; simp at h; omega) | skip))
            | refine oX (frz := [1, 28]) Et_ok ?_
            | refine oS ?_
            | refine RunOps.nil ?_
            | refine Run.skip ?_
            | refine cT ?_
            | refine cF ?_
            | refine Run.block ?_
            | refine Run.exit ?_
            | refine Run.draw (frz := [1, 28]) Et_ok (by kernel_rfl) ?_
            | refine eX ?_
            | refine eS ?_
            | refine eN ?_
            | (refine Run.ret ?_; (first | refine rB ?_ | refine rI ?_ | refine rA ?_ | refine rII ?_ | refine rSI ?_ | refine rT ?_ | refine rS ?_); first | done | (rw [h0]))
            | fail)
end Go.Av
end
noncomputable section
namespace Go.Av
open Go Go.Proofs
set_option maxRecDepth 10000
def allN (g : Gram) : List (List Nat) := smalls g ++ g.names
def diffF (g : Gram) : Int := if (allN g).Nodup then 0 else 8
def kvs (l : List (List Nat)) : List (DV × DV) := l.map fun s => (.str s, .bool true)
theorem kvs_pairs (l : List (List Nat)) : kvs l = (l.map fun s => ((s, DV.bool true) : List Nat × DV)).map fun p => (.str p.1, p.2) := by simp [kvs]
theorem find_not {E : PT Ty} {t : TypeId} {l : List (List Nat)} {s : List Nat} (h : s ∉ l) : findKV (eqKey E t) (.str s) (kvs l) = some none := by
  rw [kvs_pairs, findKV_str]
  have : (l.map fun s => ((s, DV.bool true) : List Nat × DV)).findIdx? (fun p => p.1 == s) = none := by
    rw [List.findIdx?_eq_none_iff]
    intro p hp
    simp only [List.mem_map] at hp
    obtain ⟨x, hx, rfl⟩ := hp
    simp
    exact fun e => h (e ▸ hx)
  rw [this]; rfl
theorem find_in {E : PT Ty} {t : TypeId} {l : List (List Nat)} {s : List Nat} (h : s ∈ l) : ∃ j, findKV (eqKey E t) (.str s) (kvs l) = some (some (j, .bool true)) := by
  rw [kvs_pairs, findKV_str]
  cases hf : (l.map fun s => ((s, DV.bool true) : List Nat × DV)).findIdx? (fun p => p.1 == s) with
  | none =>
    rw [List.findIdx?_eq_none_iff] at hf
    have := hf (s, .bool true) (by simp [h])
    simp at this
  | some j =>
    have hj : j < l.length := by
      rw [List.findIdx?_eq_some_iff_getElem] at hf
      obtain ⟨h1, _⟩ := hf
      simpa using h1
    exact ⟨j, by simp [hj]⟩
theorem kvs_app (l : List (List Nat)) (s : List Nat) : kvs l ++ [(.str s, .bool true)] = kvs (l ++ [s]) := by simp [kvs]
theorem nodup_take {l : List (List Nat)} {i : Nat} {s : List Nat} (h : l[i]? = some s) (hn : (l.take i).Nodup) (hs : s ∉ l.take i) : (l.take (i + 1)).Nodup := by
  rw [List.take_add_one, h, List.nodup_append]
  refine ⟨hn, by simp, fun a ha b hb => ?_⟩
  simp at hb
  subst hb
  exact fun e => hs (e ▸ ha)
theorem nodup_not {l : List (List Nat)} {i : Nat} {s : List Nat} (h : l[i]? = some s) (hs : s ∈ l.take i) : ¬ l.Nodup := fun hn => by
  obtain ⟨j, hj, e⟩ := List.getElem_of_mem hs
  have hji : j < i := by simp at hj; omega
  have hi := (List.getElem?_eq_some_iff.1 h).1
  refine List.pairwise_iff_getElem.1 hn j i (by omega) hi hji ?_
  rw [(List.getElem?_eq_some_iff.1 h).2]
  simpa using e
theorem different (g : Gram) (hf : Fits g) : KnownCall Try.prog 45 [encG g] (.d (.int .i64 (diffF g))) := by
  have hft := hf.tokens
  have hfn := hf.names
  have hal : (allN g).length = g.tokens.length + 1 + g.names.length := by simp [allN, smalls]; omega
  refine knownE Et_ok (fnAt Try.func45 (by kernel_rfl) (by kernel_rfl) : FnAt _ _ (mkFn Try.f45 [1, 18])) ?_
  repeat' (first
    | refine Run.region ?_
    | refine Run.seq ?_
    | ((refine oB (frz := [1, 18]) Et_ok (fun h => ?_) (fun h => ?_)) <;> (first | (exfalso; simp at h <;> fail) | (exfalso; simp at h; omega) | skip))
    | ((refine eB (fun h => ?_) (fun h => ?_)) <;> (first | (exfalso; simp at h <;> fail) | (exfalso; simp at h; omega) | skip))
    | refine oX (frz := [1, 18]) Et_ok ?_
    | refine oS ?_
    | refine RunOps.nil ?_
    | refine Run.skip ?_
    | refine cT ?_
    | refine cF ?_
    | refine Run.block ?_
    | refine Run.exit ?_
    | refine Run.draw (frz := [1, 18]) Et_ok (by kernel_rfl) ?_
    | refine eX ?_
    | refine eS ?_
    | refine eN ?_
    | refine oX (frz := [1, 18]) Et_ok ?_ (hf := (by first | (simp [cutC] <;> fail) | (simp [cutC]; omega)))
    | refine eX ?_ (hf := (by first | (simp [cutC] <;> fail) | (simp [cutC]; omega)))
    | refine oX (frz := [1, 18]) Et_ok ?_ (hv := app1) (hf := rfl) (he := rfl)
    | refine eX ?_ (hv := app1) (hf := rfl) (he := rfl)
    | refine oX (frz := [1, 18]) Et_ok ?_ (hv := app0) (hf := rfl) (he := rfl)
    | refine eX ?_ (hv := app0) (hf := rfl) (he := rfl)
    | (refine Run.ret ?_; (first | refine rB ?_ | refine rI ?_ | refine rA ?_ | refine rII ?_ | refine rSI ?_ | refine rT ?_ | refine rS ?_); first | done | (skip))
    | fail)
  first | refine Run.tidy (tidy_of (objs := _) [(1, (.d (.ep [.int .i64 g.k, strs g.tokens, .str g.sep, strs g.names, .int .i64 g.start, .sl 2 (g.prods.map encP)]))), (3, .mp 0), (22, .d (strs (allN g))), (23, .d (.int .i64 (allN g).length)), (24, .d (.int .i64 0))] 1 (Eq.trans (b := [.map []]) rfl rfl) rfl (by repeat' (first | exact trivial | refine ⟨(Or.inl rfl), ?_⟩ | refine ⟨(Or.inr rfl), ?_⟩ | refine ⟨rfl, ?_⟩ | refine ⟨(Or.inr (Eq.trans (b := some (.d (.sl 1 (cutL none (some ((g.tokens.map DV.str).length : Int)) (g.tokens.map DV.str) ++ [.str g.sep] ++ g.names.map .str)))) rfl (by rw [cutL_all]; simp [allN, smalls]))), ?_⟩ | refine ⟨(Or.inl (Eq.trans (b := some (.d (.int .i64 ((cutL none (some ((g.tokens.map DV.str).length : Int)) (g.tokens.map DV.str) ++ [DV.str g.sep] ++ g.names.map DV.str).length : Nat)))) rfl (congrArg (fun n : Nat => some (AV.d (DV.int .i64 n))) (by rw [cutL_all, hal]; simp <;> omega)))), ?_⟩ | fail)) (by repeat' (first | exact trivial | refine ⟨(Or.inl rfl), ?_⟩ | refine ⟨(Or.inr rfl), ?_⟩ | refine ⟨rfl, ?_⟩ | refine ⟨(Or.inr (Eq.trans (b := some (.d (.sl 1 (cutL none (some ((g.tokens.map DV.str).length : Int)) (g.tokens.map DV.str) ++ [.str g.sep] ++ g.names.map .str)))) rfl (by rw [cutL_all]; simp [allN, smalls]))), ?_⟩ | refine ⟨(Or.inl (Eq.trans (b := some (.d (.int .i64 ((cutL none (some ((g.tokens.map DV.str).length : Int)) (g.tokens.map DV.str) ++ [DV.str g.sep] ++ g.names.map DV.str).length : Nat)))) rfl (congrArg (fun n : Nat => some (AV.d (DV.int .i64 n))) (by rw [cutL_all, hal]; simp <;> omega)))), ?_⟩ | fail)) rfl rfl) ?_ | refine RunOps.tidy (tidy_of (objs := _) [(1, (.d (.ep [.int .i64 g.k, strs g.tokens, .str g.sep, strs g.names, .int .i64 g.start, .sl 2 (g.prods.map encP)]))), (3, .mp 0), (22, .d (strs (allN g))), (23, .d (.int .i64 (allN g).length)), (24, .d (.int .i64 0))] 1 (Eq.trans (b := [.map []]) rfl rfl) rfl (by repeat' (first | exact trivial | refine ⟨(Or.inl rfl), ?_⟩ | refine ⟨(Or.inr rfl), ?_⟩ | refine ⟨rfl, ?_⟩ | refine ⟨(Or.inr (Eq.trans (b := some (.d (.sl 1 (cutL none (some ((g.tokens.map DV.str).length : Int)) (g.tokens.map DV.str) ++ [.str g.sep] ++ g.names.map .str)))) rfl (by rw [cutL_all]; simp [allN, smalls]))), ?_⟩ | refine ⟨(Or.inl (Eq.trans (b := some (.d (.int .i64 ((cutL none (some ((g.tokens.map DV.str).length : Int)) (g.tokens.map DV.str) ++ [DV.str g.sep] ++ g.names.map DV.str).length : Nat)))) rfl (congrArg (fun n : Nat => some (AV.d (DV.int .i64 n))) (by rw [cutL_all, hal]; simp <;> omega)))), ?_⟩ | fail)) (by repeat' (first | exact trivial | refine ⟨(Or.inl rfl), ?_⟩ | refine ⟨(Or.inr rfl), ?_⟩ | refine ⟨rfl, ?_⟩ | refine ⟨(Or.inr (Eq.trans (b := some (.d (.sl 1 (cutL none (some ((g.tokens.map DV.str).length : Int)) (g.tokens.map DV.str) ++ [.str g.sep] ++ g.names.map .str)))) rfl (by rw [cutL_all]; simp [allN, smalls]))), ?_⟩ | refine ⟨(Or.inl (Eq.trans (b := some (.d (.int .i64 ((cutL none (some ((g.tokens.map DV.str).length : Int)) (g.tokens.map DV.str) ++ [DV.str g.sep] ++ g.names.map DV.str).length : Nat)))) rfl (congrArg (fun n : Nat => some (AV.d (DV.int .i64 n))) (by rw [cutL_all, hal]; simp <;> omega)))), ?_⟩ | fail)) rfl rfl) ?_
  refine Run.loop (fun i : Nat => ⟨PT.ofList [(1, (.d (.ep [.int .i64 g.k, strs g.tokens, .str g.sep, strs g.names, .int .i64 g.start, .sl 2 (g.prods.map encP)]))), (3, .mp 0), (22, .d (strs (allN g))), (23, .d (.int .i64 (allN g).length)), (24, .d (.int .i64 i))], [.map (kvs ((allN g).take i))], []⟩) (fun i => i ≤ (allN g).length ∧ ((allN g).take i).Nodup) (fun i => (allN g).length - i) 0 ⟨Nat.zero_le _, by simp⟩ (weak_of' rfl rfl (by repeat' (first | exact trivial | refine ⟨rfl, ?_⟩))) (fun i hi => ?_)
  obtain ⟨hi1, hi2⟩ := hi
  rcases Nat.lt_or_ge i (allN g).length with hlt | hge
  · obtain ⟨s, hs⟩ := get_ok hlt
    by_cases hm : s ∈ (allN g).take i
    · obtain ⟨j, hj⟩ := find_in (E := Et) (t := 9) hm
      repeat' (first
        | refine Run.region ?_
        | refine Run.seq ?_
        | ((refine oB (frz := [1, 18]) Et_ok (fun h => ?_) (fun h => ?_)) <;> (first | (exfalso; simp at h <;> fail) | (exfalso; simp at h; omega) | skip))
        | ((refine eB (fun h => ?_) (fun h => ?_)) <;> (first | (exfalso; simp at h <;> fail) | (exfalso; simp at h; omega) | skip))
        | refine oX (frz := [1, 18]) Et_ok ?_
        | refine oS ?_
        | refine RunOps.nil ?_
        | refine Run.skip ?_
        | refine cT ?_
        | refine cF ?_
        | refine Run.block ?_
        | refine Run.exit ?_
        | refine Run.draw (frz := [1, 18]) Et_ok (by kernel_rfl) ?_
        | refine eX ?_
        | refine eS ?_
        | refine eN ?_
        | refine oX (frz := [1, 18]) (v := .d (.ep [.str s])) Et_ok ?_ (hf := (by first | (simp [inB] <;> fail) | (simp [inB]; omega))) (he := (by first | (simp [List.getD_eq_getElem?_getD, cellsD, hs] <;> fail) | fail))
        | refine eX (v := .d (.ep [.str s])) ?_ (hf := (by first | (simp [inB] <;> fail) | (simp [inB]; omega))) (he := (by first | (simp [List.getD_eq_getElem?_getD, cellsD, hs] <;> fail) | fail))
        | refine RunOps.x (frz := [1, 18]) Et_ok (by rfl) (evAny_lookup (by rfl) (by rfl) (by rfl) (by rfl) (by rfl) (by rfl) (by rfl) (by rfl) (by rfl) hj (by rfl)) rfl (v := .d (.bool true)) rfl rfl (by rfl) (by rfl) ?_
        | (refine Run.ret ?_; (first | refine rB ?_ | refine rI ?_ | refine rA ?_ | refine rII ?_ | refine rSI ?_ | refine rT ?_ | refine rS ?_); first | done | (rw [diffF, if_neg (nodup_not hs hm)]))
        | fail)
    · have hj := find_not (E := Et) (t := 9) hm
      repeat' (first
        | refine Run.region ?_
        | refine Run.seq ?_
        | ((refine oB (frz := [1, 18]) Et_ok (fun h => ?_) (fun h => ?_)) <;> (first | (exfalso; simp at h <;> fail) | (exfalso; simp at h; omega) | skip))
        | ((refine eB (fun h => ?_) (fun h => ?_)) <;> (first | (exfalso; simp at h <;> fail) | (exfalso; simp at h; omega) | skip))
        | refine oX (frz := [1, 18]) Et_ok ?_
        | refine oS ?_
        | refine RunOps.nil ?_
        | refine Run.skip ?_
        | refine cT ?_
        | refine cF ?_
        | refine Run.block ?_
        | refine Run.exit ?_
        | refine Run.draw (frz := [1, 18]) Et_ok (by kernel_rfl) ?_
        | refine eX ?_
        | refine eS ?_
        | refine eN ?_
        | refine oX (frz := [1, 18]) (v := .d (.ep [.str s])) Et_ok ?_ (hf := (by first | (simp [inB] <;> fail) | (simp [inB]; omega))) (he := (by first | (simp [List.getD_eq_getElem?_getD, cellsD, hs] <;> fail) | fail))
        | refine eX (v := .d (.ep [.str s])) ?_ (hf := (by first | (simp [inB] <;> fail) | (simp [inB]; omega))) (he := (by first | (simp [List.getD_eq_getElem?_getD, cellsD, hs] <;> fail) | fail))
        | refine RunOps.x (frz := [1, 18]) Et_ok (by rfl) (evAny_lookup (by rfl) (by rfl) (by rfl) (by rfl) (by rfl) (by rfl) (by rfl) (by rfl) (by rfl) hj (by rfl)) rfl (v := .d (.bool false)) rfl rfl (by rfl) (by rfl) ?_
        | refine RunOps.x (frz := [1, 18]) Et_ok (by rfl) (evAny_mapUpdate (by rfl) (by rfl) (by rfl) (by rfl) (by rfl) (by rfl) (by rfl) (by rfl) (by rfl) hj) rfl rfl rfl (by rfl) (by rfl) ?_
        | (refine Run.ret ?_; (first | refine rB ?_ | refine rI ?_ | refine rA ?_ | refine rII ?_ | refine rSI ?_ | refine rT ?_ | refine rS ?_); first | done | (skip))
        | (refine ⟨i + 1, ⟨by omega, nodup_take hs hi2 hm⟩, by omega, weak_of' (by rw [List.take_add_one, hs]; exact congrArg (fun q => [Ob.map q]) (kvs_app _ _).symm) rfl (by repeat' (first | exact trivial | refine ⟨rfl, ?_⟩ | refine ⟨(inc_get (k := i) (by kernel_rfl) (by omega)), ?_⟩))⟩)
        | fail)
  · have hnd : (allN g).Nodup := by rw [List.take_of_length_le hge] at hi2; exact hi2
    repeat' (first
      | refine Run.region ?_
      | refine Run.seq ?_
      | ((refine oB (frz := [1, 18]) Et_ok (fun h => ?_) (fun h => ?_)) <;> (first | (exfalso; simp at h <;> fail) | (exfalso; simp at h; omega) | skip))
      | ((refine eB (fun h => ?_) (fun h => ?_)) <;> (first | (exfalso; simp at h <;> fail) | (exfalso; simp at h; omega) | skip))
      | refine oX (frz := [1, 18]) Et_ok ?_
      | refine oS ?_
      | refine RunOps.nil ?_
      | refine Run.skip ?_
      | refine cT ?_
      | refine cF ?_
      | refine Run.block ?_
      | refine Run.exit ?_
      | refine Run.draw (frz := [1, 18]) Et_ok (by kernel_rfl) ?_
      | refine eX ?_
      | refine eS ?_
      | refine eN ?_
      | (refine Run.ret ?_; (first | refine rB ?_ | refine rI ?_ | refine rA ?_ | refine rII ?_ | refine rSI ?_ | refine rT ?_ | refine rS ?_); first | done | (rw [diffF, if_pos hnd]))
      | fail)
end Go.Av
end
noncomputable section
namespace Go.Av
open Go Go.Proofs
set_option maxRecDepth 10000
def idxP {α : Type} (l : List α) (p : α → Bool) : Int := if l.any p then (l.findIdx p : Nat) else -1
theorem idxP_at {α : Type} {l : List α} {p : α → Bool} {i : Nat} {x : α} (h : l[i]? = some x) (hx : p x = true) (hb : ∀ j, j < i → ∀ y, l[j]? = some y → p y = false) : idxP l p = i := by
  have hm := List.mem_of_getElem? h
  have ha : l.any p = true := List.any_eq_true.2 ⟨x, hm, hx⟩
  rw [idxP, if_pos ha]
  have h1 : l.findIdx p < l.length := List.findIdx_lt_length_of_exists ⟨x, hm, hx⟩
  have h2 := List.findIdx_getElem (w := h1)
  have h3 : ¬ l.findIdx p < i := fun hlt => by
    have := hb _ hlt _ (List.getElem?_eq_getElem h1)
    rw [this] at h2; cases h2
  have h4 : ¬ i < l.findIdx p := fun hlt => by
    have h5 := List.not_of_lt_findIdx hlt
    rw [(List.getElem?_eq_some_iff.1 h).2] at h5
    simp [hx] at h5
  omega
theorem idxP_none {α : Type} {l : List α} {p : α → Bool} (hb : ∀ j, j < l.length → ∀ y, l[j]? = some y → p y = false) : idxP l p = -1 := by
  rw [idxP, if_neg]
  intro ha
  obtain ⟨x, hx, hp⟩ := List.any_eq_true.1 ha
  obtain ⟨j, hj, e⟩ := List.getElem_of_mem hx
  have := hb j hj x (by rw [List.getElem?_eq_getElem hj, e])
  rw [this] at hp; cases hp
theorem idxP_any {α : Type} (l : List α) (p : α → Bool) : decide (0 ≤ idxP l p) = l.any p := by
  unfold idxP
  cases h : l.any p <;> simp
theorem indexFuncInts (l : List Int) (hl : l.length ≤ 1099511627776) (F : FuncId) (caps : List DV) (p : Int → Bool) (hp : ∀ x ∈ l, KnownCall Try.prog F ((.int .i64 x) :: caps) (.d (.bool (p x)))) :
    KnownCall Try.prog 87 [(.sl 1 (l.map (.int .i64))), .fn (.func F) [] caps] (.d (.int .i64 (idxP l p))) := by
  refine knownE Et_ok (fnAt Try.func87 (by kernel_rfl) (by kernel_rfl) : FnAt _ _ (mkFn Try.f87 [])) ?_
  repeat' (first
    | refine Run.region ?_
    | refine Run.seq ?_
    | ((refine oB (frz := []) Et_ok (fun h => ?_) (fun h => ?_)) <;> (first | (exfalso; simp at h <;> fail) | (exfalso; simp at h; omega) | skip))
    | ((refine eB (fun h => ?_) (fun h => ?_)) <;> (first | (exfalso; simp at h <;> fail) | (exfalso; simp at h; omega) | skip))
    | refine oX (frz := []) Et_ok ?_
    | refine oS ?_
    | refine RunOps.nil ?_
    | refine Run.skip ?_
    | refine cT ?_
    | refine cF ?_
    | refine Run.block ?_
    | refine Run.exit ?_
    | refine Run.draw (frz := []) Et_ok (by kernel_rfl) ?_
    | refine eX ?_
    | refine eS ?_
    | refine eN ?_
    | (refine Run.ret ?_; (first | refine rB ?_ | refine rI ?_ | refine rA ?_ | refine rII ?_ | refine rSI ?_ | refine rT ?_ | refine rS ?_); first | done | (skip))
    | fail)
  refine Run.loop (fun i : Nat => ⟨PT.ofList [(0, .d (.sl 1 (l.map (.int .i64)))), (1, .d (.fn (.func F) [] caps)), (7, .d (.int .i64 l.length)), (8, .d (.int .i64 i))], [], []⟩) (fun i => i ≤ l.length ∧ ∀ j, j < i → ∀ y, l[j]? = some y → p y = false) (fun i => l.length - i) 0 ⟨Nat.zero_le _, fun j hj => by omega⟩ (weak_of (by repeat' (first | exact trivial | refine ⟨rfl, ?_⟩ | refine ⟨Eq.trans (b := some (.d (.int .i64 (l.map _).length))) rfl (by rw [List.length_map]), ?_⟩ | fail))) (fun i hi => ?_)
  obtain ⟨hi1, hi2⟩ := hi
  rcases Nat.lt_or_ge i l.length with hlt | hge
  · obtain ⟨x, hx⟩ := get_ok hlt
    have hc := hp x (List.mem_of_getElem? hx)
    repeat' (first
      | refine Run.region ?_
      | refine Run.seq ?_
      | ((refine oB (frz := []) Et_ok (fun h => ?_) (fun h => ?_)) <;> (first | (exfalso; simp at h <;> fail) | (exfalso; simp at h; omega) | skip))
      | ((refine eB (fun h => ?_) (fun h => ?_)) <;> (first | (exfalso; simp at h <;> fail) | (exfalso; simp at h; omega) | skip))
      | refine oX (frz := []) Et_ok ?_
      | refine oS ?_
      | refine RunOps.nil ?_
      | refine Run.skip ?_
      | refine cT ?_
      | refine cF ?_
      | refine Run.block ?_
      | refine Run.exit ?_
      | refine Run.draw (frz := []) Et_ok (by kernel_rfl) ?_
      | refine eX ?_
      | refine eS ?_
      | refine eN ?_
      | refine oX (frz := []) (v := .d (.ep [.int .i64 x])) Et_ok ?_ (hf := (by first | (simp [inB] <;> fail) | (simp [inB]; omega))) (he := (by first | (simp [List.getD_eq_getElem?_getD, cellsD, hx] <;> fail) | fail))
      | refine eX (v := .d (.ep [.int .i64 x])) ?_ (hf := (by first | (simp [inB] <;> fail) | (simp [inB]; omega))) (he := (by first | (simp [List.getD_eq_getElem?_getD, cellsD, hx] <;> fail) | fail))
      | ((refine oK (hc) (fun h => ?_) (fun h => ?_)) <;> (first | (exfalso; simp at h <;> fail) | (exfalso; simp at h; omega) | skip))
      | refine oC (hc) ?_
      | ((refine eK (hc) (fun h => ?_) (fun h => ?_)) <;> (first | (exfalso; simp at h <;> fail) | (exfalso; simp at h; omega) | skip))
      | refine eC (hc) ?_
      | (refine Run.ret ?_; (first | refine rB ?_ | refine rI ?_ | refine rA ?_ | refine rII ?_ | refine rSI ?_ | refine rT ?_ | refine rS ?_); first | done | (rw [idxP_at hx (by simp_all) hi2]))
      | (exact ⟨i + 1, ⟨by omega, all_succ hi2 (fun q hq => by rw [hx] at hq; cases hq; simp_all)⟩, by omega, weak_of (by repeat' (first | exact trivial | refine ⟨rfl, ?_⟩ | refine ⟨(inc_get (k := i) (by kernel_rfl) (by omega)), ?_⟩))⟩)
      | fail)
  · have hge : i = l.length := by omega
    repeat' (first
      | refine Run.region ?_
      | refine Run.seq ?_
      | ((refine oB (frz := []) Et_ok (fun h => ?_) (fun h => ?_)) <;> (first | (exfalso; simp at h <;> fail) | (exfalso; simp at h; omega) | skip))
      | ((refine eB (fun h => ?_) (fun h => ?_)) <;> (first | (exfalso; simp at h <;> fail) | (exfalso; simp at h; omega) | skip))
      | refine oX (frz := []) Et_ok ?_
      | refine oS ?_
      | refine RunOps.nil ?_
      | refine Run.skip ?_
      | refine cT ?_
      | refine cF ?_
      | refine Run.block ?_
      | refine Run.exit ?_
      | refine Run.draw (frz := []) Et_ok (by kernel_rfl) ?_
      | refine eX ?_
      | refine eS ?_
      | refine eN ?_
      | (refine Run.ret ?_; (first | refine rB ?_ | refine rI ?_ | refine rA ?_ | refine rII ?_ | refine rSI ?_ | refine rT ?_ | refine rS ?_); first | done | (rw [idxP_none (fun j hj => hi2 j (by omega))]))
      | fail)
theorem containsFuncInts (l : List Int) (hl : l.length ≤ 1099511627776) (F : FuncId) (caps : List DV) (p : Int → Bool) (hp : ∀ x ∈ l, KnownCall Try.prog F ((.int .i64 x) :: caps) (.d (.bool (p x)))) :
    KnownCall Try.prog 61 [(.sl 1 (l.map (.int .i64))), .fn (.func F) [] caps] (.d (.bool (l.any p))) := by
  refine knownE Et_ok (fnAt Try.func61 (by kernel_rfl) (by kernel_rfl) : FnAt _ _ (mkFn Try.f61 [])) ?_
  have e := idxP_any l p
  repeat' (first
    | refine Run.region ?_
    | refine Run.seq ?_
    | ((refine oB (frz := []) Et_ok (fun h => ?_) (fun h => ?_)) <;> (first | (exfalso; simp at h <;> fail) | (exfalso; simp at h; omega) | skip))
    | ((refine eB (fun h => ?_) (fun h => ?_)) <;> (first | (exfalso; simp at h <;> fail) | (exfalso; simp at h; omega) | skip))
    | refine oX (frz := []) Et_ok ?_
    | refine oS ?_
    | refine RunOps.nil ?_
    | refine Run.skip ?_
    | refine cT ?_
    | refine cF ?_
    | refine Run.block ?_
    | refine Run.exit ?_
    | refine Run.draw (frz := []) Et_ok (by kernel_rfl) ?_
    | refine eX ?_
    | refine eS ?_
    | refine eN ?_
    | ((refine oK (indexFuncInts _ hl _ _ _ hp) (fun h => ?_) (fun h => ?_)) <;> (first | (exfalso; simp at h <;> fail) | (exfalso; simp at h; omega) | skip))
    | refine oC (indexFuncInts _ hl _ _ _ hp) ?_
    | ((refine eK (indexFuncInts _ hl _ _ _ hp) (fun h => ?_) (fun h => ?_)) <;> (first | (exfalso; simp at h <;> fail) | (exfalso; simp at h; omega) | skip))
    | refine eC (indexFuncInts _ hl _ _ _ hp) ?_
    | (refine Run.ret ?_; (first | refine rB ?_ | refine rI ?_ | refine rA ?_ | refine rII ?_ | refine rSI ?_ | refine rT ?_ | refine rS ?_); first | done | (first | (rw [← e] <;> simp_all <;> fail) | fail))
    | fail)
end Go.Av
end
noncomputable section
namespace Go.Av
open Go Go.Proofs
set_option maxRecDepth 10000
theorem prodsF_nil (g : Gram) (s : Int) : prodsF g s = [] ↔ g.prods.any (fun p => decide (p.left = s)) = false := by
  simp only [prodsF, prodsTo, List.take_length, List.map_eq_nil_iff, List.filter_eq_nil_iff, List.any_eq_false, decide_eq_true_eq]
  refine ⟨fun h p hp => ?_, fun h q hq => h q.1 (by have := List.fst_mem_of_mem_zipIdx hq; exact this)⟩
  obtain ⟨j, hj, e⟩ := List.getElem_of_mem hp
  exact h (p, j) (by rw [List.mem_zipIdx_iff_getElem?]; rw [List.getElem?_eq_getElem hj, e])
theorem indexFuncA (l : List GProd) (hl : l.length ≤ 1099511627776) (F : FuncId) (caps : List AV) (objs : List Ob) (p : GProd → Bool) (hp : ∀ x ∈ l, ACall Try.prog F (.d (encP x) :: caps) objs (.d (.bool (p x))) objs) :
    ACall Try.prog 88 [.d (.sl 2 (l.map encP)), .fn (.func F) [] caps] objs (.d (.int .i64 (idxP l p))) objs := by
  refine acall_of_run Et_ok (fnAt Try.func88 (by kernel_rfl) (by kernel_rfl) : FnAt _ _ (mkFn Try.f88 [])) rfl rfl ?_
  repeat' (first
    | refine Run.region ?_
    | refine Run.seq ?_
    | ((refine oB (frz := []) Et_ok (fun h => ?_) (fun h => ?_)) <;> (first | (exfalso; simp at h <;> fail) | (exfalso; simp at h; omega) | skip))
    | ((refine eB (fun h => ?_) (fun h => ?_)) <;> (first | (exfalso; simp at h <;> fail) | (exfalso; simp at h; omega) | skip))
    | refine oX (frz := []) Et_ok ?_
    | refine oS ?_
    | refine RunOps.nil ?_
    | refine Run.skip ?_
    | refine cT ?_
    | refine cF ?_
    | refine Run.block ?_
    | refine Run.exit ?_
    | refine Run.draw (frz := []) Et_ok (by kernel_rfl) ?_
    | refine eX ?_
    | refine eS ?_
    | refine eN ?_
    | (refine Run.ret ?_; (first | refine rB ?_ | refine rI ?_ | refine rA ?_ | refine rII ?_ | refine rSI ?_ | refine rT ?_ | refine rS ?_); first | done | (skip))
    | fail)
  refine Run.loop (fun i : Nat => ⟨PT.ofList [(0, .d (.sl 2 (l.map encP))), (1, .fn (.func F) [] caps), (7, .d (.int .i64 l.length)), (8, .d (.int .i64 i))], objs, []⟩) (fun i => i ≤ l.length ∧ ∀ j, j < i → ∀ y, l[j]? = some y → p y = false) (fun i => l.length - i) 0 ⟨Nat.zero_le _, fun j hj => by omega⟩ (weak_of (by repeat' (first | exact trivial | refine ⟨rfl, ?_⟩ | refine ⟨Eq.trans (b := some (.d (.int .i64 (l.map _).length))) rfl (by rw [List.length_map]), ?_⟩ | fail))) (fun i hi => ?_)
  obtain ⟨hi1, hi2⟩ := hi
  rcases Nat.lt_or_ge i l.length with hlt | hge
  · obtain ⟨x, hx⟩ := get_ok hlt
    have hc := hp x (List.mem_of_getElem? hx)
    cases hpx : p x with
    | true =>
      rw [hpx] at hc
      repeat' (first
        | refine Run.region ?_
        | refine Run.seq ?_
        | ((refine oB (frz := []) Et_ok (fun h => ?_) (fun h => ?_)) <;> (first | (exfalso; simp at h <;> fail) | (exfalso; simp at h; omega) | skip))
        | ((refine eB (fun h => ?_) (fun h => ?_)) <;> (first | (exfalso; simp at h <;> fail) | (exfalso; simp at h; omega) | skip))
        | refine oX (frz := []) Et_ok ?_
        | refine oS ?_
        | refine RunOps.nil ?_
        | refine Run.skip ?_
        | refine cT ?_
        | refine cF ?_
        | refine Run.block ?_
        | refine Run.exit ?_
        | refine Run.draw (frz := []) Et_ok (by kernel_rfl) ?_
        | refine eX ?_
        | refine eS ?_
        | refine eN ?_
        | refine oX (frz := []) (v := .d (.ep [.int .i64 x.left, ints x.right])) Et_ok ?_ (hf := (by first | (simp [inB] <;> fail) | (simp [inB]; omega))) (he := (by first | (simp [List.getD_eq_getElem?_getD, cellsD, hx, encP] <;> fail) | fail))
        | refine eX (v := .d (.ep [.int .i64 x.left, ints x.right])) ?_ (hf := (by first | (simp [inB] <;> fail) | (simp [inB]; omega))) (he := (by first | (simp [List.getD_eq_getElem?_getD, cellsD, hx, encP] <;> fail) | fail))
        | refine RunOps.call (by rfl) (by rfl) hc (by rfl) (by rfl) ?_
        | (refine Run.ret ?_; (first | refine rB ?_ | refine rI ?_ | refine rA ?_ | refine rII ?_ | refine rSI ?_ | refine rT ?_ | refine rS ?_); first | done | (skip))
        | fail)
      refine Run.ret ?_
      refine ⟨trivial, rfl, ?_⟩
      rw [idxP_at hx hpx hi2]; rfl
    | false =>
      rw [hpx] at hc
      repeat' (first
        | refine Run.region ?_
        | refine Run.seq ?_
        | ((refine oB (frz := []) Et_ok (fun h => ?_) (fun h => ?_)) <;> (first | (exfalso; simp at h <;> fail) | (exfalso; simp at h; omega) | skip))
        | ((refine eB (fun h => ?_) (fun h => ?_)) <;> (first | (exfalso; simp at h <;> fail) | (exfalso; simp at h; omega) | skip))
        | refine oX (frz := []) Et_ok ?_
        | refine oS ?_
        | refine RunOps.nil ?_
        | refine Run.skip ?_
        | refine cT ?_
        | refine cF ?_
        | refine Run.block ?_
        | refine Run.exit ?_
        | refine Run.draw (frz := []) Et_ok (by kernel_rfl) ?_
        | refine eX ?_
        | refine eS ?_
        | refine eN ?_
        | refine oX (frz := []) (v := .d (.ep [.int .i64 x.left, ints x.right])) Et_ok ?_ (hf := (by first | (simp [inB] <;> fail) | (simp [inB]; omega))) (he := (by first | (simp [List.getD_eq_getElem?_getD, cellsD, hx, encP] <;> fail) | fail))
        | refine eX (v := .d (.ep [.int .i64 x.left, ints x.right])) ?_ (hf := (by first | (simp [inB] <;> fail) | (simp [inB]; omega))) (he := (by first | (simp [List.getD_eq_getElem?_getD, cellsD, hx, encP] <;> fail) | fail))
        | refine RunOps.call (by rfl) (by rfl) hc (by rfl) (by rfl) ?_
        | (refine Run.ret ?_; (first | refine rB ?_ | refine rI ?_ | refine rA ?_ | refine rII ?_ | refine rSI ?_ | refine rT ?_ | refine rS ?_); first | done | (skip))
        | (exact ⟨i + 1, ⟨by omega, all_succ hi2 (fun q hq => by rw [hx] at hq; cases hq; exact hpx)⟩, by omega, weak_of (by repeat' (first | exact trivial | refine ⟨rfl, ?_⟩ | refine ⟨(inc_get (k := i) (by kernel_rfl) (by omega)), ?_⟩))⟩)
        | fail)
  · have hge : i = l.length := by omega
    repeat' (first
      | refine Run.region ?_
      | refine Run.seq ?_
      | ((refine oB (frz := []) Et_ok (fun h => ?_) (fun h => ?_)) <;> (first | (exfalso; simp at h <;> fail) | (exfalso; simp at h; omega) | skip))
      | ((refine eB (fun h => ?_) (fun h => ?_)) <;> (first | (exfalso; simp at h <;> fail) | (exfalso; simp at h; omega) | skip))
      | refine oX (frz := []) Et_ok ?_
      | refine oS ?_
      | refine RunOps.nil ?_
      | refine Run.skip ?_
      | refine cT ?_
      | refine cF ?_
      | refine Run.block ?_
      | refine Run.exit ?_
      | refine Run.draw (frz := []) Et_ok (by kernel_rfl) ?_
      | refine eX ?_
      | refine eS ?_
      | refine eN ?_
      | (refine Run.ret ?_; (first | refine rB ?_ | refine rI ?_ | refine rA ?_ | refine rII ?_ | refine rSI ?_ | refine rT ?_ | refine rS ?_); first | done | (skip))
      | fail)
    refine Run.ret ?_
    refine ⟨trivial, rfl, ?_⟩
    rw [idxP_none (fun j hj => hi2 j (by omega))]; rfl
theorem containsFuncA (l : List GProd) (hl : l.length ≤ 1099511627776) (F : FuncId) (caps : List AV) (objs : List Ob) (p : GProd → Bool) (hp : ∀ x ∈ l, ACall Try.prog F (.d (encP x) :: caps) objs (.d (.bool (p x))) objs) :
    ACall Try.prog 63 [.d (.sl 2 (l.map encP)), .fn (.func F) [] caps] objs (.d (.bool (l.any p))) objs := by
  refine acall_of_run Et_ok (fnAt Try.func63 (by kernel_rfl) (by kernel_rfl) : FnAt _ _ (mkFn Try.f63 [])) rfl rfl ?_
  repeat (first
    | refine oX (frz := []) Et_ok ?_
    | refine oS ?_
    | refine RunOps.nil ?_
    | refine Run.region ?_
    | refine Run.seq ?_
    | refine Run.skip ?_
    | refine Run.block ?_
    | refine Run.exit ?_
    | refine Run.draw (frz := []) Et_ok (by kernel_rfl) ?_
    | refine eX ?_
    | refine eS ?_
    | refine eN ?_)
  refine RunOps.call (by rfl) (by rfl) (indexFuncA l hl F caps objs p hp) (by rfl) (by rfl) ?_
  repeat (first
    | refine oX (frz := []) Et_ok ?_
    | refine oS ?_
    | refine RunOps.nil ?_
    | refine Run.region ?_
    | refine Run.seq ?_
    | refine Run.skip ?_
    | refine Run.block ?_
    | refine Run.exit ?_
    | refine Run.draw (frz := []) Et_ok (by kernel_rfl) ?_
    | refine eX ?_
    | refine eS ?_
    | refine eN ?_)
  refine Run.ret ?_
  refine ⟨trivial, rfl, Eq.trans (b := some (.d (.bool (decide (idxP l p ≥ 0))))) (by kernel_rfl) ?_⟩
  rw [show decide (idxP l p ≥ 0) = l.any p from idxP_any l p]
theorem complete1 (p : GProd) (i : Nat) (hi : i ≤ 1048576) : ACall Try.prog 64 [.d (encP p), .bp 0 0] [.box [.d (.int .i64 i)]] (.d (.bool (decide (p.left = 16 + (i : Int))))) [.box [.d (.int .i64 i)]] := by
  have hw : IntKind.i64.wrap (16 + (i : Int)) = 16 + i := wrap64 (by omega) (by omega)
  refine acall_of_run Et_ok (fnAt Try.func64 (by kernel_rfl) (by kernel_rfl) : FnAt _ _ (mkFn Try.f64 [2])) rfl rfl ?_
  repeat (first
    | refine oX (frz := [2]) Et_ok ?_
    | refine oS ?_
    | refine RunOps.nil ?_
    | refine Run.region ?_
    | refine Run.seq ?_
    | refine Run.skip ?_
    | refine Run.block ?_
    | refine Run.exit ?_
    | refine Run.draw (frz := [2]) Et_ok (by kernel_rfl) ?_
    | refine eX ?_
    | refine eS ?_
    | refine eN ?_)
  refine Run.ret ?_
  refine ⟨trivial, rfl, Eq.trans (b := some (.d (.bool (p.left == IntKind.i64.wrap (16 + (i : Int)))))) (by kernel_rfl) ?_⟩
  rw [hw]
  congr 3
open Classical in
def completeF (g : Gram) : Int := if missing g then 7 else 0
theorem complete (g : Gram) (hf : Fits g) : KnownCall Try.prog 48 [encG g] (.d (.int .i64 (completeF g))) := by
  have hfp := hf.prods
  have hfn := hf.names
  refine knownE Et_ok (fnAt Try.func48 (by kernel_rfl) (by kernel_rfl) : FnAt _ _ (mkFn Try.f48 [1])) ?_
  repeat' (first
    | refine Run.region ?_
    | refine Run.seq ?_
    | ((refine oB (frz := [1]) Et_ok (fun h => ?_) (fun h => ?_)) <;> (first | (exfalso; simp at h <;> fail) | (exfalso; simp at h; omega) | skip))
    | ((refine eB (fun h => ?_) (fun h => ?_)) <;> (first | (exfalso; simp at h <;> fail) | (exfalso; simp at h; omega) | skip))
    | refine oX (frz := [1]) Et_ok ?_
    | refine oS ?_
    | refine RunOps.nil ?_
    | refine Run.skip ?_
    | refine cT ?_
    | refine cF ?_
    | refine Run.block ?_
    | refine Run.exit ?_
    | refine Run.draw (frz := [1]) Et_ok (by kernel_rfl) ?_
    | refine eX ?_
    | refine eS ?_
    | refine eN ?_
    | (refine Run.ret ?_; (first | refine rB ?_ | refine rI ?_ | refine rA ?_ | refine rII ?_ | refine rSI ?_ | refine rT ?_ | refine rS ?_); first | done | (skip))
    | fail)
  refine Run.loopT (fun i : Nat => ⟨PT.ofList [(1, (.d (.ep [.int .i64 g.k, strs g.tokens, .str g.sep, strs g.names, .int .i64 g.start, .sl 2 (g.prods.map encP)]))), (6, .d (.int .i64 (g.names.map DV.str).length)), (7, .d (.int .i64 i))], [], []⟩) (fun i => i ≤ g.names.length ∧ ∀ j : Nat, j < i → prodsF g (16 + j) ≠ []) (fun i => g.names.length - i) 0 ⟨Nat.zero_le _, fun j hj => by omega⟩ (tidy_of (objs := _) _ 0 (by rfl) rfl (by repeat' (first | exact trivial | refine ⟨(Or.inl rfl), ?_⟩ | refine ⟨(Or.inr rfl), ?_⟩ | fail)) (by repeat' (first | exact trivial | refine ⟨rfl, ?_⟩ | fail)) rfl rfl) (fun i hi => ?_)
  obtain ⟨hi1, hi2⟩ := hi
  rcases Nat.lt_or_ge i g.names.length with hlt | hge
  · have hc := containsFuncA g.prods (by omega) 64 [.bp 0 0] [.box [.d (.int .i64 i)]] (fun p => decide (p.left = 16 + (i : Int))) (fun x _ => complete1 x i (by omega))
    cases hpx : g.prods.any (fun p => decide (p.left = 16 + (i : Int))) with
    | true =>
      rw [hpx] at hc
      repeat' (first
        | refine Run.region ?_
        | refine Run.seq ?_
        | ((refine oB (frz := [1]) Et_ok (fun h => ?_) (fun h => ?_)) <;> (first | (exfalso; simp at h <;> fail) | (exfalso; simp at h; omega) | skip))
        | ((refine eB (fun h => ?_) (fun h => ?_)) <;> (first | (exfalso; simp at h <;> fail) | (exfalso; simp at h; omega) | skip))
        | refine oX (frz := [1]) Et_ok ?_
        | refine oS ?_
        | refine RunOps.nil ?_
        | refine Run.skip ?_
        | refine cT ?_
        | refine cF ?_
        | refine Run.block ?_
        | refine Run.exit ?_
        | refine Run.draw (frz := [1]) Et_ok (by kernel_rfl) ?_
        | refine eX ?_
        | refine eS ?_
        | refine eN ?_
        | refine RunOps.call (by rfl) (by rfl) hc (by rfl) (by rfl) ?_
        | (refine Run.ret ?_; (first | refine rB ?_ | refine rI ?_ | refine rA ?_ | refine rII ?_ | refine rSI ?_ | refine rT ?_ | refine rS ?_); first | done | (skip))
        | (exact ⟨i + 1, ⟨by omega, all_succ hi2 (fun e => by rw [prodsF_nil, hpx] at e; cases e)⟩, by omega, (tidy_of (objs := _) _ 0 (by rfl) rfl (by repeat' (first | exact trivial | refine ⟨(Or.inl rfl), ?_⟩ | refine ⟨(Or.inl (inc_get (k := i) (by kernel_rfl) (by omega))), ?_⟩ | refine ⟨(Or.inr rfl), ?_⟩ | fail)) (by repeat' (first | exact trivial | refine ⟨rfl, ?_⟩ | fail)) rfl rfl)⟩)
        | fail)
    | false =>
      rw [hpx] at hc
      have hm : missing g := ⟨i, hlt, by rw [prodsF_nil]; exact hpx⟩
      repeat' (first
        | refine Run.region ?_
        | refine Run.seq ?_
        | ((refine oB (frz := [1]) Et_ok (fun h => ?_) (fun h => ?_)) <;> (first | (exfalso; simp at h <;> fail) | (exfalso; simp at h; omega) | skip))
        | ((refine eB (fun h => ?_) (fun h => ?_)) <;> (first | (exfalso; simp at h <;> fail) | (exfalso; simp at h; omega) | skip))
        | refine oX (frz := [1]) Et_ok ?_
        | refine oS ?_
        | refine RunOps.nil ?_
        | refine Run.skip ?_
        | refine cT ?_
        | refine cF ?_
        | refine Run.block ?_
        | refine Run.exit ?_
        | refine Run.draw (frz := [1]) Et_ok (by kernel_rfl) ?_
        | refine eX ?_
        | refine eS ?_
        | refine eN ?_
        | refine RunOps.call (by rfl) (by rfl) hc (by rfl) (by rfl) ?_
        | (refine Run.ret ?_; (first | refine rB ?_ | refine rI ?_ | refine rA ?_ | refine rII ?_ | refine rSI ?_ | refine rT ?_ | refine rS ?_); first | done | (rw [completeF, if_pos hm]))
        | fail)
  · have hm : ¬ missing g := fun ⟨j, h1, h2⟩ => hi2 j (by omega) h2
    repeat' (first
      | refine Run.region ?_
      | refine Run.seq ?_
      | ((refine oB (frz := [1]) Et_ok (fun h => ?_) (fun h => ?_)) <;> (first | (exfalso; simp at h <;> fail) | (exfalso; simp at h; omega) | skip))
      | ((refine eB (fun h => ?_) (fun h => ?_)) <;> (first | (exfalso; simp at h <;> fail) | (exfalso; simp at h; omega) | skip))
      | refine oX (frz := [1]) Et_ok ?_
      | refine oS ?_
      | refine RunOps.nil ?_
      | refine Run.skip ?_
      | refine cT ?_
      | refine cF ?_
      | refine Run.block ?_
      | refine Run.exit ?_
      | refine Run.draw (frz := [1]) Et_ok (by kernel_rfl) ?_
      | refine eX ?_
      | refine eS ?_
      | refine eN ?_
      | (refine Run.ret ?_; (first | refine rB ?_ | refine rI ?_ | refine rA ?_ | refine rII ?_ | refine rSI ?_ | refine rT ?_ | refine rS ?_); first | done | (rw [completeF, if_neg hm]))
      | fail)
end Go.Av
end
noncomputable section
namespace Go.Av
open Go Go.Proofs
set_option maxRecDepth 10000
abbrev cellG (g : Gram) : DV := .ep [.int .i64 g.k, strs g.tokens, .str g.sep, strs g.names, .int .i64 g.start, .sl 2 (g.prods.map encP)]
theorem symbols1 (g : Gram) (s : Int) (hf : Fits g) : KnownCall Try.prog 62 [.int .i64 s, cellG g] (.d (.bool (!goodS g s))) := by
  refine knownE Et_ok (fnAt Try.func62 (by kernel_rfl) (by kernel_rfl) : FnAt _ _ (mkFn Try.f62 [])) ?_
  repeat' (first
    | refine Run.region ?_
    | refine Run.seq ?_
    | ((refine oB (frz := []) Et_ok (fun h => ?_) (fun h => ?_)) <;> (first | (exfalso; simp at h <;> fail) | (exfalso; simp at h; omega) | skip))
    | ((refine eB (fun h => ?_) (fun h => ?_)) <;> (first | (exfalso; simp at h <;> fail) | (exfalso; simp at h; omega) | skip))
    | refine oX (frz := []) Et_ok ?_
    | refine oS ?_
    | refine RunOps.nil ?_
    | refine Run.skip ?_
    | refine cT ?_
    | refine cF ?_
    | refine Run.block ?_
    | refine Run.exit ?_
    | refine Run.draw (frz := []) Et_ok (by kernel_rfl) ?_
    | refine eX ?_
    | refine eS ?_
    | refine eN ?_
    | ((refine oK (terminal g _) (fun h => ?_) (fun h => ?_)) <;> (first | (exfalso; simp at h <;> fail) | (exfalso; simp at h; omega) | skip))
    | refine oC (terminal g _) ?_
    | ((refine eK (terminal g _) (fun h => ?_) (fun h => ?_)) <;> (first | (exfalso; simp at h <;> fail) | (exfalso; simp at h; omega) | skip))
    | refine eC (terminal g _) ?_
    | ((refine oK (nonterminal g _ hf) (fun h => ?_) (fun h => ?_)) <;> (first | (exfalso; simp at h <;> fail) | (exfalso; simp at h; omega) | skip))
    | refine oC (nonterminal g _ hf) ?_
    | ((refine eK (nonterminal g _ hf) (fun h => ?_) (fun h => ?_)) <;> (first | (exfalso; simp at h <;> fail) | (exfalso; simp at h; omega) | skip))
    | refine eC (nonterminal g _ hf) ?_
    | (refine Run.ret ?_; (first | refine rB ?_ | refine rI ?_ | refine rA ?_ | refine rII ?_ | refine rSI ?_ | refine rT ?_ | refine rS ?_); first | done | (first | (simp_all [goodS] <;> fail) | (simp_all [goodS]; omega)))
    | fail)
open Classical in
def badP (g : Gram) (p : GProd) : Bool := !isNonterm g p.left || p.right.any (fun s => !goodS g s)
theorem badP_iff (g : Gram) (p : GProd) : badP g p = false ↔ goodP g p := by
  simp only [badP, goodP, Bool.or_eq_false_iff, Bool.not_eq_false', List.any_eq_false]
  refine and_congr Iff.rfl (forall_congr' fun s => forall_congr' fun _ => ?_)
  simp
open Classical in
def symsG (g : Gram) : Int := if symbolsOK g then 0 else 14
theorem symbols (g : Gram) (hf : Fits g) : KnownCall Try.prog 46 [encG g] (.d (.int .i64 (symsG g))) := by
  have hfp := hf.prods
  cases hst : isNonterm g g.start with
  | false =>
    have e : symsG g = 14 := by unfold symsG; rw [if_neg]; exact fun h => by rw [h.1] at hst; cases hst
    rw [e]
    have hc := nonterminal g g.start hf
    rw [hst] at hc
    refine knownE Et_ok (fnAt Try.func46 (by kernel_rfl) (by kernel_rfl) : FnAt _ _ (mkFn Try.f46 [1])) ?_
    repeat' (first
      | refine Run.region ?_
      | refine Run.seq ?_
      | ((refine oB (frz := [1]) Et_ok (fun h => ?_) (fun h => ?_)) <;> (first | (exfalso; simp at h <;> fail) | (exfalso; simp at h; omega) | skip))
      | ((refine eB (fun h => ?_) (fun h => ?_)) <;> (first | (exfalso; simp at h <;> fail) | (exfalso; simp at h; omega) | skip))
      | refine oX (frz := [1]) Et_ok ?_
      | refine oS ?_
      | refine RunOps.nil ?_
      | refine Run.skip ?_
      | refine cT ?_
      | refine cF ?_
      | refine Run.block ?_
      | refine Run.exit ?_
      | refine Run.draw (frz := [1]) Et_ok (by kernel_rfl) ?_
      | refine eX ?_
      | refine eS ?_
      | refine eN ?_
      | ((refine oK (hc) (fun h => ?_) (fun h => ?_)) <;> (first | (exfalso; simp at h <;> fail) | (exfalso; simp at h; omega) | skip))
      | refine oC (hc) ?_
      | ((refine eK (hc) (fun h => ?_) (fun h => ?_)) <;> (first | (exfalso; simp at h <;> fail) | (exfalso; simp at h; omega) | skip))
      | refine eC (hc) ?_
      | (refine Run.ret ?_; (first | refine rB ?_ | refine rI ?_ | refine rA ?_ | refine rII ?_ | refine rSI ?_ | refine rT ?_ | refine rS ?_); first | done | (rfl))
      | fail)
  | true =>
    have hc := nonterminal g g.start hf
    rw [hst] at hc
    refine knownE Et_ok (fnAt Try.func46 (by kernel_rfl) (by kernel_rfl) : FnAt _ _ (mkFn Try.f46 [1])) ?_
    repeat' (first
      | refine Run.region ?_
      | refine Run.seq ?_
      | ((refine oB (frz := [1]) Et_ok (fun h => ?_) (fun h => ?_)) <;> (first | (exfalso; simp at h <;> fail) | (exfalso; simp at h; omega) | skip))
      | ((refine eB (fun h => ?_) (fun h => ?_)) <;> (first | (exfalso; simp at h <;> fail) | (exfalso; simp at h; omega) | skip))
      | refine oX (frz := [1]) Et_ok ?_
      | refine oS ?_
      | refine RunOps.nil ?_
      | refine Run.skip ?_
      | refine cT ?_
      | refine cF ?_
      | refine Run.block ?_
      | refine Run.exit ?_
      | refine Run.draw (frz := [1]) Et_ok (by kernel_rfl) ?_
      | refine eX ?_
      | refine eS ?_
      | refine eN ?_
      | refine oC (hc) ?_
      | refine eC (hc) ?_
      | ((refine oK (prodsOf g) (fun h => ?_) (fun h => ?_)) <;> (first | (exfalso; simp at h <;> fail) | (exfalso; simp at h; omega) | skip))
      | refine oC (prodsOf g) ?_
      | ((refine eK (prodsOf g) (fun h => ?_) (fun h => ?_)) <;> (first | (exfalso; simp at h <;> fail) | (exfalso; simp at h; omega) | skip))
      | refine eC (prodsOf g) ?_
      | (refine Run.ret ?_; (first | refine rB ?_ | refine rI ?_ | refine rA ?_ | refine rII ?_ | refine rSI ?_ | refine rT ?_ | refine rS ?_); first | done | (rfl))
      | fail)
    obtain ⟨n, hn⟩ : ∃ n, n = g.prods.findIdx (fun p => badP g p) := ⟨_, rfl⟩
    have hidx : n ≤ g.prods.length := by rw [hn]; exact List.findIdx_le_length
    have hcase : n < g.prods.length ∨ n = g.prods.length := by omega
    refine Run.rangeProds (frz := [1]) 1 (fun _ => [.box [.d (.int .i64 0)]]) g.prods (Nat.le_trans hf.prods (by decide)) (by rfl) (fun _ => rfl) (fun _ => rfl) (by kernel_rfl) n hidx (fun k p hk hp => ?_) ?_
    · have hgood : badP g p = false := by
        rw [hn] at hk
        have := List.not_of_lt_findIdx hk
        have e : g.prods[k] = p := by rw [List.getElem?_eq_some_iff] at hp; exact hp.2
        simpa [e] using this
      have hpr := hf.rights p (List.mem_of_getElem? hp)
      have hg := (badP_iff g p).1 hgood
      have hnt := nonterminal g p.left hf
      rw [hg.1] at hnt
      have hcf := containsFuncInts p.right (by omega) 62 [cellG g] (fun s => !goodS g s) (fun s _ => symbols1 g s hf)
      rw [show p.right.any (fun s => !goodS g s) = false from by simp only [badP, Bool.or_eq_false_iff] at hgood; exact hgood.2] at hcf
      refine ayield_of_run (i := 2) (by rfl) (by rfl) (by rfl) ?_
      repeat (first
        | refine oX (frz := [1]) Et_ok ?_
        | refine oS ?_
        | refine RunOps.nil ?_
        | refine Run.region ?_
        | refine Run.seq ?_
        | refine Run.skip ?_
        | refine Run.block ?_
        | refine Run.exit ?_
        | refine Run.draw (frz := [1]) Et_ok (by kernel_rfl) ?_
        | refine eX ?_
        | refine eS ?_
        | refine eN ?_)
      refine ⟨rfl, _, _, _, _, _, _, _, by rfl, ?_⟩
      refine Run.less ?_
      repeat' (first
        | refine Run.region ?_
        | refine Run.seq ?_
        | ((refine oB (frz := [1]) Et_ok (fun h => ?_) (fun h => ?_)) <;> (first | (exfalso; simp at h <;> fail) | (exfalso; simp at h; omega) | skip))
        | ((refine eB (fun h => ?_) (fun h => ?_)) <;> (first | (exfalso; simp at h <;> fail) | (exfalso; simp at h; omega) | skip))
        | refine oX (frz := [1]) Et_ok ?_
        | refine oS ?_
        | refine RunOps.nil ?_
        | refine Run.skip ?_
        | refine cT ?_
        | refine cF ?_
        | refine Run.block ?_
        | refine Run.exit ?_
        | refine Run.draw (frz := [1]) Et_ok (by kernel_rfl) ?_
        | refine eX ?_
        | refine eS ?_
        | refine eN ?_
        | refine oC (hnt) ?_
        | refine eC (hnt) ?_
        | refine oC (hcf) ?_
        | refine eC (hcf) ?_
        | (exact ⟨rfl, _, less_of [] 3 rfl (by rfl) trivial trivial (by kernel_rfl) rfl, _, _, _, _, _, _, _, _, by rfl, rfl, by rfl⟩)
        | fail)
    · rcases hcase with hlt | hge
      · obtain ⟨p, hp⟩ := get_ok hlt
        have hbad : badP g p = true := by
          rw [hn] at hp hlt
          have := List.findIdx_getElem (p := fun p : GProd => badP g p) (xs := g.prods) (w := hlt)
          have e : g.prods[g.prods.findIdx fun p => badP g p] = p := by rw [List.getElem?_eq_some_iff] at hp; exact hp.2
          rw [e] at this
          simpa using this
        have hpr := hf.rights p (List.mem_of_getElem? hp)
        have e : symsG g = 14 := by
          unfold symsG
          rw [if_neg]
          intro h
          have := (badP_iff g p).2 (h.2 p (List.mem_of_getElem? hp))
          rw [hbad] at this; cases this
        rw [e]
        have hcf := containsFuncInts p.right (by omega) 62 [cellG g] (fun s => !goodS g s) (fun s _ => symbols1 g s hf)
        refine .inr ⟨p, [.box [.d (.int .i64 14)]], hp, rfl, .inl ⟨?_, ?_⟩⟩
        · cases hl : isNonterm g p.left with
          | false =>
            have hnt := nonterminal g p.left hf
            rw [hl] at hnt
            refine ayield_of_run (i := 2) (by rfl) (by rfl) (by rfl) ?_
            repeat (first
              | refine oX (frz := [1]) Et_ok ?_
              | refine oS ?_
              | refine RunOps.nil ?_
              | refine Run.region ?_
              | refine Run.seq ?_
              | refine Run.skip ?_
              | refine Run.block ?_
              | refine Run.exit ?_
              | refine Run.draw (frz := [1]) Et_ok (by kernel_rfl) ?_
              | refine eX ?_
              | refine eS ?_
              | refine eN ?_)
            refine ⟨rfl, _, _, _, _, _, _, _, by rfl, ?_⟩
            refine Run.less ?_
            repeat' (first
              | refine Run.region ?_
              | refine Run.seq ?_
              | ((refine oB (frz := [1]) Et_ok (fun h => ?_) (fun h => ?_)) <;> (first | (exfalso; simp at h <;> fail) | (exfalso; simp at h; omega) | skip))
              | ((refine eB (fun h => ?_) (fun h => ?_)) <;> (first | (exfalso; simp at h <;> fail) | (exfalso; simp at h; omega) | skip))
              | refine oX (frz := [1]) Et_ok ?_
              | refine oS ?_
              | refine RunOps.nil ?_
              | refine Run.skip ?_
              | refine cT ?_
              | refine cF ?_
              | refine Run.block ?_
              | refine Run.exit ?_
              | refine Run.draw (frz := [1]) Et_ok (by kernel_rfl) ?_
              | refine eX ?_
              | refine eS ?_
              | refine eN ?_
              | refine oC (hnt) ?_
              | refine eC (hnt) ?_
              | ((refine Run.ret ?_; exact ⟨rfl, _, less_of [] 3 rfl (by rfl) trivial trivial (by kernel_rfl) rfl, _, _, _, _, _, _, _, _, by rfl, rfl, by rfl⟩))
              | fail)
          | true =>
            have hnt := nonterminal g p.left hf
            rw [hl] at hnt
            rw [show p.right.any (fun s => !goodS g s) = true from by simpa [badP, hl] using hbad] at hcf
            refine ayield_of_run (i := 2) (by rfl) (by rfl) (by rfl) ?_
            repeat (first
              | refine oX (frz := [1]) Et_ok ?_
              | refine oS ?_
              | refine RunOps.nil ?_
              | refine Run.region ?_
              | refine Run.seq ?_
              | refine Run.skip ?_
              | refine Run.block ?_
              | refine Run.exit ?_
              | refine Run.draw (frz := [1]) Et_ok (by kernel_rfl) ?_
              | refine eX ?_
              | refine eS ?_
              | refine eN ?_)
            refine ⟨rfl, _, _, _, _, _, _, _, by rfl, ?_⟩
            refine Run.less ?_
            repeat' (first
              | refine Run.region ?_
              | refine Run.seq ?_
              | ((refine oB (frz := [1]) Et_ok (fun h => ?_) (fun h => ?_)) <;> (first | (exfalso; simp at h <;> fail) | (exfalso; simp at h; omega) | skip))
              | ((refine eB (fun h => ?_) (fun h => ?_)) <;> (first | (exfalso; simp at h <;> fail) | (exfalso; simp at h; omega) | skip))
              | refine oX (frz := [1]) Et_ok ?_
              | refine oS ?_
              | refine RunOps.nil ?_
              | refine Run.skip ?_
              | refine cT ?_
              | refine cF ?_
              | refine Run.block ?_
              | refine Run.exit ?_
              | refine Run.draw (frz := [1]) Et_ok (by kernel_rfl) ?_
              | refine eX ?_
              | refine eS ?_
              | refine eN ?_
              | refine oC (hnt) ?_
              | refine eC (hnt) ?_
              | refine oC (hcf) ?_
              | refine eC (hcf) ?_
              | ((refine Run.ret ?_; exact ⟨rfl, _, less_of [] 3 rfl (by rfl) trivial trivial (by kernel_rfl) rfl, _, _, _, _, _, _, _, _, by rfl, rfl, by rfl⟩))
              | fail)
        · refine ⟨trivial, _, _, by rfl, by rfl, Eq.trans (b := some (.d (.int .i64 14))) (by kernel_rfl) ?_⟩
          rfl
      · have e : symsG g = 0 := by
          unfold symsG
          rw [if_pos]
          refine ⟨hst, fun p hp => (badP_iff g p).1 ?_⟩
          cases hb : badP g p with
          | false => rfl
          | true =>
            have := List.findIdx_lt_length_of_exists (xs := g.prods) (p := fun p => badP g p) ⟨p, hp, hb⟩
            omega
        rw [e]
        refine .inl ⟨hge, ?_⟩
        repeat' (first
          | refine Run.region ?_
          | refine Run.seq ?_
          | ((refine oB (frz := [1]) Et_ok (fun h => ?_) (fun h => ?_)) <;> (first | (exfalso; simp at h <;> fail) | (exfalso; simp at h; omega) | skip))
          | ((refine eB (fun h => ?_) (fun h => ?_)) <;> (first | (exfalso; simp at h <;> fail) | (exfalso; simp at h; omega) | skip))
          | refine oX (frz := [1]) Et_ok ?_
          | refine oS ?_
          | refine RunOps.nil ?_
          | refine Run.skip ?_
          | refine cT ?_
          | refine cF ?_
          | refine Run.block ?_
          | refine Run.exit ?_
          | refine Run.draw (frz := [1]) Et_ok (by kernel_rfl) ?_
          | refine eX ?_
          | refine eS ?_
          | refine eN ?_
          | (refine Run.ret ?_; (first | refine rB ?_ | refine rI ?_ | refine rA ?_ | refine rII ?_ | refine rSI ?_ | refine rT ?_ | refine rS ?_); first | done | (rfl))
          | fail)
end Go.Av
end
noncomputable section
namespace Go.Av
open Go Go.Proofs
set_option maxRecDepth 10000
theorem first_or (P : Nat → Bool) : ∀ N : Nat, ∃ n, n ≤ N ∧ (∀ k, k < n → P k = false) ∧ (n = N ∨ (n < N ∧ P n = true))
  | 0 => ⟨0, Nat.le_refl _, fun k hk => by omega, .inl rfl⟩
  | N + 1 => by
    obtain ⟨n, h1, h2, h3⟩ := first_or P N
    rcases h3 with rfl | ⟨h3, h4⟩
    · cases hp : P n with
      | true => exact ⟨n, by omega, h2, .inr ⟨by omega, hp⟩⟩
      | false => exact ⟨n + 1, by omega, all_succ h2 hp, .inl rfl⟩
    · exact ⟨n, by omega, h2, .inr ⟨by omega, h4⟩⟩
open Classical in
def ordBad (g : Gram) (k : Nat) : Bool := decide (0 < k ∧ ∃ p q, g.prods[k - 1]? = some p ∧ g.prods[k]? = some q ∧ q.left < p.left)
open Classical in
theorem ordBad_iff (g : Gram) (k : Nat) : ordBad g k = true ↔ (0 < k ∧ ∃ p q, g.prods[k - 1]? = some p ∧ g.prods[k]? = some q ∧ q.left < p.left) := by unfold ordBad; exact decide_eq_true_iff
open Classical in
def orderedG (g : Gram) : Int := if orderBad g then 9 else 0
theorem ordered (g : Gram) (hf : Fits g) : KnownCall Try.prog 47 [encG g] (.d (.int .i64 (orderedG g))) := by
  have hfp := hf.prods
  refine knownE Et_ok (fnAt Try.func47 (by kernel_rfl) (by kernel_rfl) : FnAt _ _ (mkFn Try.f47 [1])) ?_
  repeat' (first
    | refine Run.region ?_
    | refine Run.seq ?_
    | ((refine oB (frz := [1]) Et_ok (fun h => ?_) (fun h => ?_)) <;> (first | (exfalso; simp at h <;> fail) | (exfalso; simp at h; omega) | skip))
    | ((refine eB (fun h => ?_) (fun h => ?_)) <;> (first | (exfalso; simp at h <;> fail) | (exfalso; simp at h; omega) | skip))
    | refine oX (frz := [1]) Et_ok ?_
    | refine oS ?_
    | refine RunOps.nil ?_
    | refine Run.skip ?_
    | refine cT ?_
    | refine cF ?_
    | refine Run.block ?_
    | refine Run.exit ?_
    | refine Run.draw (frz := [1]) Et_ok (by kernel_rfl) ?_
    | refine eX ?_
    | refine eS ?_
    | refine eN ?_
    | ((refine oK (prodsOf g) (fun h => ?_) (fun h => ?_)) <;> (first | (exfalso; simp at h <;> fail) | (exfalso; simp at h; omega) | skip))
    | refine oC (prodsOf g) ?_
    | ((refine eK (prodsOf g) (fun h => ?_) (fun h => ?_)) <;> (first | (exfalso; simp at h <;> fail) | (exfalso; simp at h; omega) | skip))
    | refine eC (prodsOf g) ?_
    | (refine Run.ret ?_; (first | refine rB ?_ | refine rI ?_ | refine rA ?_ | refine rII ?_ | refine rSI ?_ | refine rT ?_ | refine rS ?_); first | done | (skip))
    | fail)
  obtain ⟨n, hidx, hbefore, hcase⟩ := first_or (ordBad g) g.prods.length
  refine Run.rangeProds (frz := [1]) 1 (fun _ => [.box [.d (.int .i64 0)]]) g.prods (Nat.le_trans hf.prods (by decide)) (by rfl) (fun _ => rfl) (fun _ => rfl) (by kernel_rfl) n hidx (fun k p hk hp => ?_) ?_
  · have hgood := hbefore k hk
    have hkl := (List.getElem?_eq_some_iff.1 hp).1
    rcases k with _ | k
    · refine ayield_of_run (i := 2) (by rfl) (by rfl) (by rfl) ?_
      repeat (first
        | refine oX (frz := [1]) Et_ok ?_
        | refine oS ?_
        | refine RunOps.nil ?_
        | refine Run.region ?_
        | refine Run.seq ?_
        | refine Run.skip ?_
        | refine Run.block ?_
        | refine Run.exit ?_
        | refine Run.draw (frz := [1]) Et_ok (by kernel_rfl) ?_
        | refine eX ?_
        | refine eS ?_
        | refine eN ?_)
      refine ⟨rfl, _, _, _, _, _, _, _, by rfl, ?_⟩
      refine Run.less ?_
      repeat' (first
        | refine Run.region ?_
        | refine Run.seq ?_
        | ((refine oB (frz := [1]) Et_ok (fun h => ?_) (fun h => ?_)) <;> (first | (exfalso; simp at h <;> fail) | (exfalso; simp at h; omega) | skip))
        | ((refine eB (fun h => ?_) (fun h => ?_)) <;> (first | (exfalso; simp at h <;> fail) | (exfalso; simp at h; omega) | skip))
        | refine oX (frz := [1]) Et_ok ?_
        | refine oS ?_
        | refine RunOps.nil ?_
        | refine Run.skip ?_
        | refine cT ?_
        | refine cF ?_
        | refine Run.block ?_
        | refine Run.exit ?_
        | refine Run.draw (frz := [1]) Et_ok (by kernel_rfl) ?_
        | refine eX ?_
        | refine eS ?_
        | refine eN ?_
        | (exact ⟨rfl, _, less_of [] 3 rfl (by rfl) trivial trivial (by kernel_rfl) rfl, _, _, _, _, _, _, _, _, by rfl, rfl, by rfl⟩)
        | fail)
    · obtain ⟨q, hq⟩ := get_ok (show k < g.prods.length by omega)
      have hno : ¬ p.left < q.left := fun h => by
        have : ordBad g (k + 1) = true := (ordBad_iff _ _).2 ⟨Nat.succ_pos _, q, p, hq, hp, h⟩
        rw [this] at hgood; cases hgood
      have hw : IntKind.i64.wrap (((k + 1 : Nat) : Int) - 1) = (k : Nat) := by rw [wrap64 (by omega) (by omega)]; omega
      refine ayield_of_run (i := 2) (by rfl) (by rfl) (by rfl) ?_
      repeat (first
        | refine oX (frz := [1]) Et_ok ?_
        | refine oS ?_
        | refine RunOps.nil ?_
        | refine Run.region ?_
        | refine Run.seq ?_
        | refine Run.skip ?_
        | refine Run.block ?_
        | refine Run.exit ?_
        | refine Run.draw (frz := [1]) Et_ok (by kernel_rfl) ?_
        | refine eX ?_
        | refine eS ?_
        | refine eN ?_)
      refine ⟨rfl, _, _, _, _, _, _, _, by rfl, ?_⟩
      refine Run.less ?_
      repeat' (first
        | refine oX (frz := [1]) (v := .d (.int .i64 (k : Nat))) Et_ok ?_ (he := (congrArg (fun n => AV.d (.int .i64 n)) hw))
        | refine eX (v := .d (.int .i64 (k : Nat))) ?_ (he := (congrArg (fun n => AV.d (.int .i64 n)) hw))
        | refine Run.region ?_
        | refine Run.seq ?_
        | ((refine oB (frz := [1]) Et_ok (fun h => ?_) (fun h => ?_)) <;> (first | (exfalso; simp at h <;> fail) | (exfalso; simp at h; omega) | skip))
        | ((refine eB (fun h => ?_) (fun h => ?_)) <;> (first | (exfalso; simp at h <;> fail) | (exfalso; simp at h; omega) | skip))
        | refine oX (frz := [1]) Et_ok ?_
        | refine oS ?_
        | refine RunOps.nil ?_
        | refine Run.skip ?_
        | refine cT ?_
        | refine cF ?_
        | refine Run.block ?_
        | refine Run.exit ?_
        | refine Run.draw (frz := [1]) Et_ok (by kernel_rfl) ?_
        | refine eX ?_
        | refine eS ?_
        | refine eN ?_
        | refine oX (frz := [1]) (v := .d (.ep [.int .i64 q.left, ints q.right])) Et_ok ?_ (hf := (by first | (simp [inB] <;> fail) | (simp [inB]; omega))) (he := (by first | (simp [List.getD_eq_getElem?_getD, cellsD, hq, encP] <;> fail) | fail))
        | refine eX (v := .d (.ep [.int .i64 q.left, ints q.right])) ?_ (hf := (by first | (simp [inB] <;> fail) | (simp [inB]; omega))) (he := (by first | (simp [List.getD_eq_getElem?_getD, cellsD, hq, encP] <;> fail) | fail))
        | (exact ⟨rfl, _, less_of [] 3 rfl (by rfl) trivial trivial (by kernel_rfl) rfl, _, _, _, _, _, _, _, _, by rfl, rfl, by rfl⟩)
        | ((exfalso; first | (simp_all <;> fail) | (simp_all; omega)))
        | fail)
  · rcases hcase with hge | ⟨hlt, hbad⟩
    · have e : orderedG g = 0 := by
        unfold orderedG
        rw [if_neg]
        rintro ⟨i, p, q, h1, h2, h3⟩
        have hi := (List.getElem?_eq_some_iff.1 h2).1
        have := hbefore (i + 1) (by omega)
        rw [show ordBad g (i + 1) = true from (ordBad_iff _ _).2 ⟨Nat.succ_pos _, p, q, h1, h2, h3⟩] at this
        cases this
      rw [e]
      refine .inl ⟨hge, ?_⟩
      repeat' (first
        | refine Run.region ?_
        | refine Run.seq ?_
        | ((refine oB (frz := [1]) Et_ok (fun h => ?_) (fun h => ?_)) <;> (first | (exfalso; simp at h <;> fail) | (exfalso; simp at h; omega) | skip))
        | ((refine eB (fun h => ?_) (fun h => ?_)) <;> (first | (exfalso; simp at h <;> fail) | (exfalso; simp at h; omega) | skip))
        | refine oX (frz := [1]) Et_ok ?_
        | refine oS ?_
        | refine RunOps.nil ?_
        | refine Run.skip ?_
        | refine cT ?_
        | refine cF ?_
        | refine Run.block ?_
        | refine Run.exit ?_
        | refine Run.draw (frz := [1]) Et_ok (by kernel_rfl) ?_
        | refine eX ?_
        | refine eS ?_
        | refine eN ?_
        | (refine Run.ret ?_; (first | refine rB ?_ | refine rI ?_ | refine rA ?_ | refine rII ?_ | refine rSI ?_ | refine rT ?_ | refine rS ?_); first | done | (rfl))
        | fail)
    · have hb := (ordBad_iff _ _).1 hbad
      obtain ⟨hn0, q, p, hq, hp, hlt2⟩ := hb
      rcases n with _ | k
      · omega
      · have hq : g.prods[k]? = some q := hq
        have e : orderedG g = 9 := by unfold orderedG; rw [if_pos ⟨k, q, p, hq, hp, hlt2⟩]
        rw [e]
        have hkl := (List.getElem?_eq_some_iff.1 hp).1
        have hw : IntKind.i64.wrap (((k + 1 : Nat) : Int) - 1) = (k : Nat) := by rw [wrap64 (by omega) (by omega)]; omega
        refine .inr ⟨p, [.box [.d (.int .i64 9)]], hp, rfl, .inl ⟨?_, ?_⟩⟩
        · refine ayield_of_run (i := 2) (by rfl) (by rfl) (by rfl) ?_
          repeat (first
            | refine oX (frz := [1]) Et_ok ?_
            | refine oS ?_
            | refine RunOps.nil ?_
            | refine Run.region ?_
            | refine Run.seq ?_
            | refine Run.skip ?_
            | refine Run.block ?_
            | refine Run.exit ?_
            | refine Run.draw (frz := [1]) Et_ok (by kernel_rfl) ?_
            | refine eX ?_
            | refine eS ?_
            | refine eN ?_)
          refine ⟨rfl, _, _, _, _, _, _, _, by rfl, ?_⟩
          refine Run.less ?_
          repeat' (first
            | refine oX (frz := [1]) (v := .d (.int .i64 (k : Nat))) Et_ok ?_ (he := (congrArg (fun n => AV.d (.int .i64 n)) hw))
            | refine eX (v := .d (.int .i64 (k : Nat))) ?_ (he := (congrArg (fun n => AV.d (.int .i64 n)) hw))
            | refine Run.region ?_
            | refine Run.seq ?_
            | ((refine oB (frz := [1]) Et_ok (fun h => ?_) (fun h => ?_)) <;> (first | (exfalso; simp at h <;> fail) | (exfalso; simp at h; omega) | skip))
            | ((refine eB (fun h => ?_) (fun h => ?_)) <;> (first | (exfalso; simp at h <;> fail) | (exfalso; simp at h; omega) | skip))
            | refine oX (frz := [1]) Et_ok ?_
            | refine oS ?_
            | refine RunOps.nil ?_
            | refine Run.skip ?_
            | refine cT ?_
            | refine cF ?_
            | refine Run.block ?_
            | refine Run.exit ?_
            | refine Run.draw (frz := [1]) Et_ok (by kernel_rfl) ?_
            | refine eX ?_
            | refine eS ?_
            | refine eN ?_
            | refine oX (frz := [1]) (v := .d (.ep [.int .i64 q.left, ints q.right])) Et_ok ?_ (hf := (by first | (simp [inB] <;> fail) | (simp [inB]; omega))) (he := (by first | (simp [List.getD_eq_getElem?_getD, cellsD, hq, encP] <;> fail) | fail))
            | refine eX (v := .d (.ep [.int .i64 q.left, ints q.right])) ?_ (hf := (by first | (simp [inB] <;> fail) | (simp [inB]; omega))) (he := (by first | (simp [List.getD_eq_getElem?_getD, cellsD, hq, encP] <;> fail) | fail))
            | ((refine Run.ret ?_; exact ⟨rfl, _, less_of [] 3 rfl (by rfl) trivial trivial (by kernel_rfl) rfl, _, _, _, _, _, _, _, _, by rfl, rfl, by rfl⟩))
            | ((exfalso; first | (simp_all <;> fail) | (simp_all; omega)))
            | fail)
        · refine ⟨trivial, _, _, by rfl, by rfl, Eq.trans (b := some (.d (.int .i64 9))) (by kernel_rfl) ?_⟩
          rfl
def checks (g : Gram) : List Int := [manyF g, namedG g, diffF g, symsG g, orderedG g, completeF g]
def firstErr : List Int → Int
  | [] => 0
  | e :: r => if e = 0 then firstErr r else e
def checkG (g : Gram) : Int := if g.k < 1 ∨ 4 < g.k then 2 else firstErr (checks g)
theorem firstErr_at : ∀ {l : List Int} {i : Nat} {e : Int}, l[i]? = some e → e ≠ 0 → (∀ j, j < i → l[j]? = some 0) → firstErr l = e
  | [], i, e, h, _, _ => by simp at h
  | a :: r, 0, e, h, he, _ => by simp at h; subst h; simp [firstErr, he]
  | a :: r, i + 1, e, h, he, hb => by
    have ha : a = 0 := by have := hb 0 (by omega); simpa using this
    subst ha
    simp only [firstErr, if_true]
    exact firstErr_at (i := i) (by simpa using h) he (fun j hj => by have := hb (j + 1) (by omega); simpa using this)
theorem firstErr_none : ∀ {l : List Int}, (∀ j, j < l.length → l[j]? = some 0) → firstErr l = 0
  | [], _ => rfl
  | a :: r, hb => by
    have ha : a = 0 := by have := hb 0 (by simp); simpa using this
    subst ha
    simp only [firstErr, if_true]
    exact firstErr_none (fun j hj => by have := hb (j + 1) (by simpa using hj); simpa using this)
abbrev looksD : List DV := [.fn (.func 43) [] [], .fn (.func 44) [] [], .fn (.func 45) [] [], .fn (.func 46) [] [], .fn (.func 47) [] [], .fn (.func 48) [] []]
theorem checkGr (g : Gram) (hf : Fits g) : KnownCall Try.prog 23 [encG g] (.d (.int .i64 (checkG g))) := by
  by_cases hk : g.k < 1 ∨ 4 < g.k
  · have e : checkG g = 2 := if_pos hk
    rw [e]
    refine knownE Et_ok (fnAt Try.func23 (by kernel_rfl) (by kernel_rfl) : FnAt _ _ (mkFn Try.f23 [1, 13, 200001])) ?_
    refine Run.seq ?_
    repeat' (first
      | refine Run.region ?_
      | refine Run.seq ?_
      | ((refine oB (frz := [1, 13, 200001]) Et_ok (fun h => ?_) (fun h => ?_)) <;> (first | (exfalso; simp at h <;> fail) | (exfalso; simp at h; omega) | skip))
      | ((refine eB (fun h => ?_) (fun h => ?_)) <;> (first | (exfalso; simp at h <;> fail) | (exfalso; simp at h; omega) | skip))
      | refine oX (frz := [1, 13, 200001]) Et_ok ?_
      | refine oS ?_
      | refine RunOps.nil ?_
      | refine Run.skip ?_
      | refine cT ?_
      | refine cF ?_
      | refine Run.block ?_
      | refine Run.exit ?_
      | refine Run.draw (frz := [1, 13, 200001]) Et_ok (by kernel_rfl) ?_
      | refine eX ?_
      | refine eS ?_
      | refine eN ?_
      | (refine Run.ret ?_; (first | refine rB ?_ | refine rI ?_ | refine rA ?_ | refine rII ?_ | refine rSI ?_ | refine rT ?_ | refine rS ?_); first | done | (skip))
      | fail)
    refine Run.scope ?_
    repeat' (first
      | refine Run.region ?_
      | refine Run.seq ?_
      | ((refine oB (frz := [1, 13, 200001]) Et_ok (fun h => ?_) (fun h => ?_)) <;> (first | (exfalso; simp at h <;> fail) | (exfalso; simp at h; omega) | skip))
      | ((refine eB (fun h => ?_) (fun h => ?_)) <;> (first | (exfalso; simp at h <;> fail) | (exfalso; simp at h; omega) | skip))
      | refine oX (frz := [1, 13, 200001]) Et_ok ?_
      | refine oS ?_
      | refine RunOps.nil ?_
      | refine Run.skip ?_
      | refine cT ?_
      | refine cF ?_
      | refine Run.block ?_
      | refine Run.exit ?_
      | refine Run.draw (frz := [1, 13, 200001]) Et_ok (by kernel_rfl) ?_
      | refine eX ?_
      | refine eS ?_
      | refine eN ?_
      | (refine Run.ret ?_; (first | refine rB ?_ | refine rI ?_ | refine rA ?_ | refine rII ?_ | refine rSI ?_ | refine rT ?_ | refine rS ?_); first | done | (rfl))
      | ((exfalso; first | (simp_all <;> fail) | (simp_all; omega)))
      | fail)
  · have e : checkG g = firstErr (checks g) := if_neg hk
    rw [e]
    rw [not_or] at hk
    refine knownE Et_ok (fnAt Try.func23 (by kernel_rfl) (by kernel_rfl) : FnAt _ _ (mkFn Try.f23 [1, 13, 200001])) ?_
    repeat' (first
      | refine Run.region ?_
      | refine Run.seq ?_
      | ((refine oB (frz := [1, 13, 200001]) Et_ok (fun h => ?_) (fun h => ?_)) <;> (first | (exfalso; simp at h <;> fail) | (exfalso; simp at h; omega) | skip))
      | ((refine eB (fun h => ?_) (fun h => ?_)) <;> (first | (exfalso; simp at h <;> fail) | (exfalso; simp at h; omega) | skip))
      | refine oX (frz := [1, 13, 200001]) Et_ok ?_
      | refine oS ?_
      | refine RunOps.nil ?_
      | refine Run.skip ?_
      | refine cT ?_
      | refine cF ?_
      | refine Run.block ?_
      | refine Run.exit ?_
      | refine Run.draw (frz := [1, 13, 200001]) Et_ok (by kernel_rfl) ?_
      | refine eX ?_
      | refine eS ?_
      | refine eN ?_
      | (refine Run.ret ?_; (first | refine rB ?_ | refine rI ?_ | refine rA ?_ | refine rII ?_ | refine rSI ?_ | refine rT ?_ | refine rS ?_); first | done | (skip))
      | fail)
    refine Run.scope ?_
    repeat' (first
      | refine Run.region ?_
      | refine Run.seq ?_
      | ((refine oB (frz := [1, 13, 200001]) Et_ok (fun h => ?_) (fun h => ?_)) <;> (first | (exfalso; simp at h <;> fail) | (exfalso; simp at h; omega) | skip))
      | ((refine eB (fun h => ?_) (fun h => ?_)) <;> (first | (exfalso; simp at h <;> fail) | (exfalso; simp at h; omega) | skip))
      | refine oX (frz := [1, 13, 200001]) Et_ok ?_
      | refine oS ?_
      | refine RunOps.nil ?_
      | refine Run.skip ?_
      | refine cT ?_
      | refine cF ?_
      | refine Run.block ?_
      | refine Run.exit ?_
      | refine Run.draw (frz := [1, 13, 200001]) Et_ok (by kernel_rfl) ?_
      | refine eX ?_
      | refine eS ?_
      | refine eN ?_
      | refine Run.label ?_
      | (refine Run.ret ?_; (first | refine rB ?_ | refine rI ?_ | refine rA ?_ | refine rII ?_ | refine rSI ?_ | refine rT ?_ | refine rS ?_); first | done | (skip))
      | ((exfalso; first | (simp_all <;> fail) | (simp_all; omega)))
      | fail)
    refine Run.loop (fun i : Nat => ⟨PT.ofList [(1, (.d (.ep [.int .i64 g.k, strs g.tokens, .str g.sep, strs g.names, .int .i64 g.start, .sl 2 (g.prods.map encP)]))), (2, .d (.int .i64 0)), (13, .d (.sl 1 looksD)), (14, .d (.int .i64 6)), (15, .d (.int .i64 i))], [], []⟩) (fun i => i ≤ 6 ∧ ∀ j, j < i → (checks g)[j]? = some 0) (fun i => 6 - i) 0 ⟨Nat.zero_le _, fun j hj => by omega⟩ (weak_of (by repeat' (first | exact trivial | refine ⟨rfl, ?_⟩))) (fun i hi => ?_)
    obtain ⟨hi1, hi2⟩ := hi
    have hcs : i = 0 ∨ i = 1 ∨ i = 2 ∨ i = 3 ∨ i = 4 ∨ i = 5 ∨ i = 6 := by omega
    rcases hcs with h | h | h | h | h | h | h <;> subst h
    · have hc := many g hf
      by_cases he : manyF g = 0
      · have hnext : (checks g)[0]? = some 0 := by rw [← he]; rfl
        rw [he] at hc
        repeat' (first
          | refine Run.region ?_
          | refine Run.seq ?_
          | ((refine oB (frz := [1, 13, 200001]) Et_ok (fun h => ?_) (fun h => ?_)) <;> (first | (exfalso; simp at h <;> fail) | (exfalso; simp at h; omega) | skip))
          | ((refine eB (fun h => ?_) (fun h => ?_)) <;> (first | (exfalso; simp at h <;> fail) | (exfalso; simp at h; omega) | skip))
          | refine oX (frz := [1, 13, 200001]) Et_ok ?_
          | refine oS ?_
          | refine RunOps.nil ?_
          | refine Run.skip ?_
          | refine cT ?_
          | refine cF ?_
          | refine Run.block ?_
          | refine Run.exit ?_
          | refine Run.draw (frz := [1, 13, 200001]) Et_ok (by kernel_rfl) ?_
          | refine eX ?_
          | refine eS ?_
          | refine eN ?_
          | refine oC (hc) ?_
          | refine eC (hc) ?_
          | (refine Run.ret ?_; (first | refine rB ?_ | refine rI ?_ | refine rA ?_ | refine rII ?_ | refine rSI ?_ | refine rT ?_ | refine rS ?_); first | done | (skip))
          | (exact ⟨1, ⟨by omega, all_succ hi2 hnext⟩, by omega, weak_of (by repeat' (first | exact trivial | refine ⟨rfl, ?_⟩))⟩)
          | fail)
      · repeat' (first
          | refine Run.region ?_
          | refine Run.seq ?_
          | ((refine oB (frz := [1, 13, 200001]) Et_ok (fun h => ?_) (fun h => ?_)) <;> (first | (exfalso; simp at h <;> fail) | (exfalso; simp at h; omega) | skip))
          | ((refine eB (fun h => ?_) (fun h => ?_)) <;> (first | (exfalso; simp at h <;> fail) | (exfalso; simp at h; omega) | skip))
          | refine oX (frz := [1, 13, 200001]) Et_ok ?_
          | refine oS ?_
          | refine RunOps.nil ?_
          | refine Run.skip ?_
          | refine cT ?_
          | refine cF ?_
          | refine Run.block ?_
          | refine Run.exit ?_
          | refine Run.draw (frz := [1, 13, 200001]) Et_ok (by kernel_rfl) ?_
          | refine eX ?_
          | refine eS ?_
          | refine eN ?_
          | refine oC (hc) ?_
          | refine eC (hc) ?_
          | (refine Run.ret ?_; (first | refine rB ?_ | refine rI ?_ | refine rA ?_ | refine rII ?_ | refine rSI ?_ | refine rT ?_ | refine rS ?_); first | done | (rw [firstErr_at (i := 0) (show (checks g)[0]? = some (manyF g) from rfl) he hi2]))
          | ((exfalso; (simp_all <;> fail)))
          | fail)
    · have hc := named g hf
      by_cases he : namedG g = 0
      · have hnext : (checks g)[1]? = some 0 := by rw [← he]; rfl
        rw [he] at hc
        repeat' (first
          | refine Run.region ?_
          | refine Run.seq ?_
          | ((refine oB (frz := [1, 13, 200001]) Et_ok (fun h => ?_) (fun h => ?_)) <;> (first | (exfalso; simp at h <;> fail) | (exfalso; simp at h; omega) | skip))
          | ((refine eB (fun h => ?_) (fun h => ?_)) <;> (first | (exfalso; simp at h <;> fail) | (exfalso; simp at h; omega) | skip))
          | refine oX (frz := [1, 13, 200001]) Et_ok ?_
          | refine oS ?_
          | refine RunOps.nil ?_
          | refine Run.skip ?_
          | refine cT ?_
          | refine cF ?_
          | refine Run.block ?_
          | refine Run.exit ?_
          | refine Run.draw (frz := [1, 13, 200001]) Et_ok (by kernel_rfl) ?_
          | refine eX ?_
          | refine eS ?_
          | refine eN ?_
          | refine oC (hc) ?_
          | refine eC (hc) ?_
          | (refine Run.ret ?_; (first | refine rB ?_ | refine rI ?_ | refine rA ?_ | refine rII ?_ | refine rSI ?_ | refine rT ?_ | refine rS ?_); first | done | (skip))
          | (exact ⟨2, ⟨by omega, all_succ hi2 hnext⟩, by omega, weak_of (by repeat' (first | exact trivial | refine ⟨rfl, ?_⟩))⟩)
          | fail)
      · repeat' (first
          | refine Run.region ?_
          | refine Run.seq ?_
          | ((refine oB (frz := [1, 13, 200001]) Et_ok (fun h => ?_) (fun h => ?_)) <;> (first | (exfalso; simp at h <;> fail) | (exfalso; simp at h; omega) | skip))
          | ((refine eB (fun h => ?_) (fun h => ?_)) <;> (first | (exfalso; simp at h <;> fail) | (exfalso; simp at h; omega) | skip))
          | refine oX (frz := [1, 13, 200001]) Et_ok ?_
          | refine oS ?_
          | refine RunOps.nil ?_
          | refine Run.skip ?_
          | refine cT ?_
          | refine cF ?_
          | refine Run.block ?_
          | refine Run.exit ?_
          | refine Run.draw (frz := [1, 13, 200001]) Et_ok (by kernel_rfl) ?_
          | refine eX ?_
          | refine eS ?_
          | refine eN ?_
          | refine oC (hc) ?_
          | refine eC (hc) ?_
          | (refine Run.ret ?_; (first | refine rB ?_ | refine rI ?_ | refine rA ?_ | refine rII ?_ | refine rSI ?_ | refine rT ?_ | refine rS ?_); first | done | (rw [firstErr_at (i := 1) (show (checks g)[1]? = some (namedG g) from rfl) he hi2]))
          | ((exfalso; (simp_all <;> fail)))
          | fail)
    · have hc := different g hf
      by_cases he : diffF g = 0
      · have hnext : (checks g)[2]? = some 0 := by rw [← he]; rfl
        rw [he] at hc
        repeat' (first
          | refine Run.region ?_
          | refine Run.seq ?_
          | ((refine oB (frz := [1, 13, 200001]) Et_ok (fun h => ?_) (fun h => ?_)) <;> (first | (exfalso; simp at h <;> fail) | (exfalso; simp at h; omega) | skip))
          | ((refine eB (fun h => ?_) (fun h => ?_)) <;> (first | (exfalso; simp at h <;> fail) | (exfalso; simp at h; omega) | skip))
          | refine oX (frz := [1, 13, 200001]) Et_ok ?_
          | refine oS ?_
          | refine RunOps.nil ?_
          | refine Run.skip ?_
          | refine cT ?_
          | refine cF ?_
          | refine Run.block ?_
          | refine Run.exit ?_
          | refine Run.draw (frz := [1, 13, 200001]) Et_ok (by kernel_rfl) ?_
          | refine eX ?_
          | refine eS ?_
          | refine eN ?_
          | refine oC (hc) ?_
          | refine eC (hc) ?_
          | (refine Run.ret ?_; (first | refine rB ?_ | refine rI ?_ | refine rA ?_ | refine rII ?_ | refine rSI ?_ | refine rT ?_ | refine rS ?_); first | done | (skip))
          | (exact ⟨3, ⟨by omega, all_succ hi2 hnext⟩, by omega, weak_of (by repeat' (first | exact trivial | refine ⟨rfl, ?_⟩))⟩)
          | fail)
      · repeat' (first
          | refine Run.region ?_
          | refine Run.seq ?_
          | ((refine oB (frz := [1, 13, 200001]) Et_ok (fun h => ?_) (fun h => ?_)) <;> (first | (exfalso; simp at h <;> fail) | (exfalso; simp at h; omega) | skip))
          | ((refine eB (fun h => ?_) (fun h => ?_)) <;> (first | (exfalso; simp at h <;> fail) | (exfalso; simp at h; omega) | skip))
          | refine oX (frz := [1, 13, 200001]) Et_ok ?_
          | refine oS ?_
          | refine RunOps.nil ?_
          | refine Run.skip ?_
          | refine cT ?_
          | refine cF ?_
          | refine Run.block ?_
          | refine Run.exit ?_
          | refine Run.draw (frz := [1, 13, 200001]) Et_ok (by kernel_rfl) ?_
          | refine eX ?_
          | refine eS ?_
          | refine eN ?_
          | refine oC (hc) ?_
          | refine eC (hc) ?_
          | (refine Run.ret ?_; (first | refine rB ?_ | refine rI ?_ | refine rA ?_ | refine rII ?_ | refine rSI ?_ | refine rT ?_ | refine rS ?_); first | done | (rw [firstErr_at (i := 2) (show (checks g)[2]? = some (diffF g) from rfl) he hi2]))
          | ((exfalso; (simp_all <;> fail)))
          | fail)
    · have hc := symbols g hf
      by_cases he : symsG g = 0
      · have hnext : (checks g)[3]? = some 0 := by rw [← he]; rfl
        rw [he] at hc
        repeat' (first
          | refine Run.region ?_
          | refine Run.seq ?_
          | ((refine oB (frz := [1, 13, 200001]) Et_ok (fun h => ?_) (fun h => ?_)) <;> (first | (exfalso; simp at h <;> fail) | (exfalso; simp at h; omega) | skip))
          | ((refine eB (fun h => ?_) (fun h => ?_)) <;> (first | (exfalso; simp at h <;> fail) | (exfalso; simp at h; omega) | skip))
          | refine oX (frz := [1, 13, 200001]) Et_ok ?_
          | refine oS ?_
          | refine RunOps.nil ?_
          | refine Run.skip ?_
          | refine cT ?_
          | refine cF ?_
          | refine Run.block ?_
          | refine Run.exit ?_
          | refine Run.draw (frz := [1, 13, 200001]) Et_ok (by kernel_rfl) ?_
          | refine eX ?_
          | refine eS ?_
          | refine eN ?_
          | refine oC (hc) ?_
          | refine eC (hc) ?_
          | (refine Run.ret ?_; (first | refine rB ?_ | refine rI ?_ | refine rA ?_ | refine rII ?_ | refine rSI ?_ | refine rT ?_ | refine rS ?_); first | done | (skip))
          | (exact ⟨4, ⟨by omega, all_succ hi2 hnext⟩, by omega, weak_of (by repeat' (first | exact trivial | refine ⟨rfl, ?_⟩))⟩)
          | fail)
      · repeat' (first
          | refine Run.region ?_
          | refine Run.seq ?_
          | ((refine oB (frz := [1, 13, 200001]) Et_ok (fun h => ?_) (fun h => ?_)) <;> (first | (exfalso; simp at h <;> fail) | (exfalso; simp at h; omega) | skip))
          | ((refine eB (fun h => ?_) (fun h => ?_)) <;> (first | (exfalso; simp at h <;> fail) | (exfalso; simp at h; omega) | skip))
          | refine oX (frz := [1, 13, 200001]) Et_ok ?_
          | refine oS ?_
          | refine RunOps.nil ?_
          | refine Run.skip ?_
          | refine cT ?_
          | refine cF ?_
          | refine Run.block ?_
          | refine Run.exit ?_
          | refine Run.draw (frz := [1, 13, 200001]) Et_ok (by kernel_rfl) ?_
          | refine eX ?_
          | refine eS ?_
          | refine eN ?_
          | refine oC (hc) ?_
          | refine eC (hc) ?_
          | (refine Run.ret ?_; (first | refine rB ?_ | refine rI ?_ | refine rA ?_ | refine rII ?_ | refine rSI ?_ | refine rT ?_ | refine rS ?_); first | done | (rw [firstErr_at (i := 3) (show (checks g)[3]? = some (symsG g) from rfl) he hi2]))
          | ((exfalso; (simp_all <;> fail)))
          | fail)
    · have hc := ordered g hf
      by_cases he : orderedG g = 0
      · have hnext : (checks g)[4]? = some 0 := by rw [← he]; rfl
        rw [he] at hc
        repeat' (first
          | refine Run.region ?_
          | refine Run.seq ?_
          | ((refine oB (frz := [1, 13, 200001]) Et_ok (fun h => ?_) (fun h => ?_)) <;> (first | (exfalso; simp at h <;> fail) | (exfalso; simp at h; omega) | skip))
          | ((refine eB (fun h => ?_) (fun h => ?_)) <;> (first | (exfalso; simp at h <;> fail) | (exfalso; simp at h; omega) | skip))
          | refine oX (frz := [1, 13, 200001]) Et_ok ?_
          | refine oS ?_
          | refine RunOps.nil ?_
          | refine Run.skip ?_
          | refine cT ?_
          | refine cF ?_
          | refine Run.block ?_
          | refine Run.exit ?_
          | refine Run.draw (frz := [1, 13, 200001]) Et_ok (by kernel_rfl) ?_
          | refine eX ?_
          | refine eS ?_
          | refine eN ?_
          | refine oC (hc) ?_
          | refine eC (hc) ?_
          | (refine Run.ret ?_; (first | refine rB ?_ | refine rI ?_ | refine rA ?_ | refine rII ?_ | refine rSI ?_ | refine rT ?_ | refine rS ?_); first | done | (skip))
          | (exact ⟨5, ⟨by omega, all_succ hi2 hnext⟩, by omega, weak_of (by repeat' (first | exact trivial | refine ⟨rfl, ?_⟩))⟩)
          | fail)
      · repeat' (first
          | refine Run.region ?_
          | refine Run.seq ?_
          | ((refine oB (frz := [1, 13, 200001]) Et_ok (fun h => ?_) (fun h => ?_)) <;> (first | (exfalso; simp at h <;> fail) | (exfalso; simp at h; omega) | skip))
          | ((refine eB (fun h => ?_) (fun h => ?_)) <;> (first | (exfalso; simp at h <;> fail) | (exfalso; simp at h; omega) | skip))
          | refine oX (frz := [1, 13, 200001]) Et_ok ?_
          | refine oS ?_
          | refine RunOps.nil ?_
          | refine Run.skip ?_
          | refine cT ?_
          | refine cF ?_
          | refine Run.block ?_
          | refine Run.exit ?_
          | refine Run.draw (frz := [1, 13, 200001]) Et_ok (by kernel_rfl) ?_
          | refine eX ?_
          | refine eS ?_
          | refine eN ?_
          | refine oC (hc) ?_
          | refine eC (hc) ?_
          | (refine Run.ret ?_; (first | refine rB ?_ | refine rI ?_ | refine rA ?_ | refine rII ?_ | refine rSI ?_ | refine rT ?_ | refine rS ?_); first | done | (rw [firstErr_at (i := 4) (show (checks g)[4]? = some (orderedG g) from rfl) he hi2]))
          | ((exfalso; (simp_all <;> fail)))
          | fail)
    · have hc := complete g hf
      by_cases he : completeF g = 0
      · have hnext : (checks g)[5]? = some 0 := by rw [← he]; rfl
        rw [he] at hc
        repeat' (first
          | refine Run.region ?_
          | refine Run.seq ?_
          | ((refine oB (frz := [1, 13, 200001]) Et_ok (fun h => ?_) (fun h => ?_)) <;> (first | (exfalso; simp at h <;> fail) | (exfalso; simp at h; omega) | skip))
          | ((refine eB (fun h => ?_) (fun h => ?_)) <;> (first | (exfalso; simp at h <;> fail) | (exfalso; simp at h; omega) | skip))
          | refine oX (frz := [1, 13, 200001]) Et_ok ?_
          | refine oS ?_
          | refine RunOps.nil ?_
          | refine Run.skip ?_
          | refine cT ?_
          | refine cF ?_
          | refine Run.block ?_
          | refine Run.exit ?_
          | refine Run.draw (frz := [1, 13, 200001]) Et_ok (by kernel_rfl) ?_
          | refine eX ?_
          | refine eS ?_
          | refine eN ?_
          | refine oC (hc) ?_
          | refine eC (hc) ?_
          | (refine Run.ret ?_; (first | refine rB ?_ | refine rI ?_ | refine rA ?_ | refine rII ?_ | refine rSI ?_ | refine rT ?_ | refine rS ?_); first | done | (skip))
          | (exact ⟨6, ⟨by omega, all_succ hi2 hnext⟩, by omega, weak_of (by repeat' (first | exact trivial | refine ⟨rfl, ?_⟩))⟩)
          | fail)
      · repeat' (first
          | refine Run.region ?_
          | refine Run.seq ?_
          | ((refine oB (frz := [1, 13, 200001]) Et_ok (fun h => ?_) (fun h => ?_)) <;> (first | (exfalso; simp at h <;> fail) | (exfalso; simp at h; omega) | skip))
          | ((refine eB (fun h => ?_) (fun h => ?_)) <;> (first | (exfalso; simp at h <;> fail) | (exfalso; simp at h; omega) | skip))
          | refine oX (frz := [1, 13, 200001]) Et_ok ?_
          | refine oS ?_
          | refine RunOps.nil ?_
          | refine Run.skip ?_
          | refine cT ?_
          | refine cF ?_
          | refine Run.block ?_
          | refine Run.exit ?_
          | refine Run.draw (frz := [1, 13, 200001]) Et_ok (by kernel_rfl) ?_
          | refine eX ?_
          | refine eS ?_
          | refine eN ?_
          | refine oC (hc) ?_
          | refine eC (hc) ?_
          | (refine Run.ret ?_; (first | refine rB ?_ | refine rI ?_ | refine rA ?_ | refine rII ?_ | refine rSI ?_ | refine rT ?_ | refine rS ?_); first | done | (rw [firstErr_at (i := 5) (show (checks g)[5]? = some (completeF g) from rfl) he hi2]))
          | ((exfalso; (simp_all <;> fail)))
          | fail)
    · repeat' (first
        | refine Run.region ?_
        | refine Run.seq ?_
        | ((refine oB (frz := [1, 13, 200001]) Et_ok (fun h => ?_) (fun h => ?_)) <;> (first | (exfalso; simp at h <;> fail) | (exfalso; simp at h; omega) | skip))
        | ((refine eB (fun h => ?_) (fun h => ?_)) <;> (first | (exfalso; simp at h <;> fail) | (exfalso; simp at h; omega) | skip))
        | refine oX (frz := [1, 13, 200001]) Et_ok ?_
        | refine oS ?_
        | refine RunOps.nil ?_
        | refine Run.skip ?_
        | refine cT ?_
        | refine cF ?_
        | refine Run.block ?_
        | refine Run.exit ?_
        | refine Run.draw (frz := [1, 13, 200001]) Et_ok (by kernel_rfl) ?_
        | refine eX ?_
        | refine eS ?_
        | refine eN ?_
        | (refine Run.ret ?_; (first | refine rB ?_ | refine rI ?_ | refine rA ?_ | refine rII ?_ | refine rSI ?_ | refine rT ?_ | refine rS ?_); first | done | (rw [firstErr_none (l := checks g) hi2]))
        | fail)
end Go.Av
end
noncomputable section
namespace Go.Av
open Go Go.Proofs
set_option maxRecDepth 10000
theorem named_zero {g : Gram} (h : namedF g = 0) : (∀ s ∈ smalls g, smallF s = true) ∧ ∀ s ∈ g.names, capitalF s = true := by
  unfold namedF at h
  split at h
  · omega
  · rename_i hn
    simp only [not_or, not_exists, not_and, Bool.not_eq_false] at hn
    exact hn
theorem small_capital {s : List Nat} (h1 : smallF s = true) (h2 : capitalF s = true) : False := by
  simp only [smallF, capitalF, Bool.and_eq_true, decide_eq_true_eq] at h1 h2
  omega
theorem allN_nodup {g : Gram} (h : namedF g = 0) : (allN g).Nodup ↔ (smalls g).Nodup ∧ g.names.Nodup := by
  obtain ⟨h1, h2⟩ := named_zero h
  rw [allN, List.nodup_append]
  refine ⟨fun h => ⟨h.1, h.2.1⟩, fun h => ⟨h.1, h.2, fun a ha b hb e => small_capital (h1 a ha) (e ▸ h2 b hb)⟩⟩
theorem checkG_eq (g : Gram) : checkG g = checkF g := by
  unfold checkG checkF
  split
  · rfl
  · simp only [checks, firstErr]
    by_cases h1 : manyF g = 0
    · simp only [h1, ne_eq, not_true_eq_false, if_false, if_true]
      by_cases h2 : g.tokens = [] ∨ g.names = []
      · have : namedG g = 5 := if_pos h2
        simp [this, h2]
      · have : namedG g = namedF g := if_neg h2
        simp only [this, if_neg h2]
        by_cases h3 : namedF g = 0
        · simp only [h3, if_true]
          by_cases h4 : (allN g).Nodup
          · have h5 := (allN_nodup h3).1 h4
            have h6 : diffF g = 0 := if_pos h4
            have h7 : namesF g = 0 := by unfold namesF; rw [if_neg (by simp [h5.1, h5.2]), h3]
            simp only [h6, h7, ne_eq, not_true_eq_false, if_false, if_true]
            unfold symsG orderedG completeF symbolsF
            by_cases a : symbolsOK g <;> by_cases b : orderBad g <;> by_cases c : missing g <;> simp [a, b, c]
          · have h6 : diffF g = 8 := if_neg h4
            have h7 : namesF g = 8 := by
              unfold namesF
              rw [if_pos]
              refine ⟨h3, ?_⟩
              by_cases h5 : (smalls g).Nodup
              · exact .inr fun h8 => h4 ((allN_nodup h3).2 ⟨h5, h8⟩)
              · exact .inl h5
            simp [h6, h7]
        · have h7 : namesF g = namedF g := by unfold namesF; rw [if_neg (by simp [h3])]
          simp [h3, h7]
    · simp [h1]
theorem grCheck (g : Gram) (hf : Fits g) : KnownCall Try.prog 23 [encG g] (.d (.int .i64 (checkF g))) := by rw [← checkG_eq]; exact checkGr g hf
theorem called (g : Gram) (s : Int) (x : List Nat) (hf : Fits g) (ht : g.tokens.length ≤ 8) (h : symName g s = some x) : KnownCall Try.prog 39 [encG g, .int .i64 s] (.d (.str x)) := by
  have hfn := hf.names
  by_cases hs : 16 ≤ s
  · rw [symName, if_pos hs] at h
    have hlt := (List.getElem?_eq_some_iff.1 h).1
    have hw : IntKind.i64.wrap (s - 16) = s - 16 := wrap64 (by omega) (by omega)
    have hx := h
    have hc := terminal g s
    rw [show isTerm g s = false from by simp [isTerm]; omega] at hc
    refine knownE Et_ok (fnAt Try.func39 (by kernel_rfl) (by kernel_rfl) : FnAt _ _ (mkFn Try.f39 [2])) ?_
    repeat' (first
      | refine Run.region ?_
      | refine Run.seq ?_
      | ((refine oB (frz := [2]) Et_ok (fun h => ?_) (fun h => ?_)) <;> (first | (exfalso; simp at h <;> fail) | (exfalso; simp at h; omega) | skip))
      | ((refine eB (fun h => ?_) (fun h => ?_)) <;> (first | (exfalso; simp at h <;> fail) | (exfalso; simp at h; omega) | skip))
      | refine oX (frz := [2]) Et_ok ?_
      | refine oS ?_
      | refine RunOps.nil ?_
      | refine Run.skip ?_
      | refine cT ?_
      | refine cF ?_
      | refine Run.block ?_
      | refine Run.exit ?_
      | refine Run.draw (frz := [2]) Et_ok (by kernel_rfl) ?_
      | refine eX ?_
      | refine eS ?_
      | refine eN ?_
      | refine oC (hc) ?_
      | refine eC (hc) ?_
      | refine oX (frz := [2]) (v := .d (.ep [.str x])) Et_ok ?_ (hf := (by first | (simp [inB] <;> fail) | (simp [inB]; omega))) (he := (by first | (simp [List.getD_eq_getElem?_getD, cellsD, hx, hw] <;> fail) | fail))
      | refine eX (v := .d (.ep [.str x])) ?_ (hf := (by first | (simp [inB] <;> fail) | (simp [inB]; omega))) (he := (by first | (simp [List.getD_eq_getElem?_getD, cellsD, hx, hw] <;> fail) | fail))
      | (refine Run.ret ?_; (first | refine rB ?_ | refine rI ?_ | refine rA ?_ | refine rII ?_ | refine rSI ?_ | refine rT ?_ | refine rS ?_); first | done | (rfl))
      | fail)
  · rw [symName, if_neg hs] at h
    by_cases hs0 : 0 ≤ s
    · rw [if_pos hs0] at h
      have hlt := (List.getElem?_eq_some_iff.1 h).1
      have hx := h
      have hc := terminal g s
      rw [show isTerm g s = true from by simp [isTerm]; omega] at hc
      refine knownE Et_ok (fnAt Try.func39 (by kernel_rfl) (by kernel_rfl) : FnAt _ _ (mkFn Try.f39 [2])) ?_
      repeat' (first
        | refine Run.region ?_
        | refine Run.seq ?_
        | ((refine oB (frz := [2]) Et_ok (fun h => ?_) (fun h => ?_)) <;> (first | (exfalso; simp at h <;> fail) | (exfalso; simp at h; omega) | skip))
        | ((refine eB (fun h => ?_) (fun h => ?_)) <;> (first | (exfalso; simp at h <;> fail) | (exfalso; simp at h; omega) | skip))
        | refine oX (frz := [2]) Et_ok ?_
        | refine oS ?_
        | refine RunOps.nil ?_
        | refine Run.skip ?_
        | refine cT ?_
        | refine cF ?_
        | refine Run.block ?_
        | refine Run.exit ?_
        | refine Run.draw (frz := [2]) Et_ok (by kernel_rfl) ?_
        | refine eX ?_
        | refine eS ?_
        | refine eN ?_
        | refine oC (hc) ?_
        | refine eC (hc) ?_
        | refine oX (frz := [2]) (v := .d (.ep [.str x])) Et_ok ?_ (hf := (by first | (simp [inB] <;> fail) | (simp [inB]; omega))) (he := (by first | (simp [List.getD_eq_getElem?_getD, cellsD, hx] <;> fail) | fail))
        | refine eX (v := .d (.ep [.str x])) ?_ (hf := (by first | (simp [inB] <;> fail) | (simp [inB]; omega))) (he := (by first | (simp [List.getD_eq_getElem?_getD, cellsD, hx] <;> fail) | fail))
        | (refine Run.ret ?_; (first | refine rB ?_ | refine rI ?_ | refine rA ?_ | refine rII ?_ | refine rSI ?_ | refine rT ?_ | refine rS ?_); first | done | (rfl))
        | fail)
    · rw [if_neg hs0] at h; cases h
theorem askNonterm (g : Gram) (s : Int) (hf : Fits g) : KnownCall Try.prog 10 [encG g, .int .i64 s] (.tup [.d (.int .i64 (ntermF g s).1), .d (.int .i64 (ntermF g s).2)]) := by
  have hn := hf.names
  by_cases hs : isNonterm g s = true
  · have hr : 16 ≤ s ∧ s < 16 + g.names.length := by simpa [isNonterm] using hs
    have hw : IntKind.i64.wrap (s - 16) = s - 16 := wrap64 (by omega) (by omega)
    refine knownE Et_ok (fnAt Try.func10 (by kernel_rfl) (by kernel_rfl) : FnAt _ _ (mkFn Try.f10 [2])) ?_
    repeat' (first
      | refine Run.region ?_
      | refine Run.seq ?_
      | ((refine oB (frz := [2]) Et_ok (fun h => ?_) (fun h => ?_)) <;> (first | (exfalso; simp at h <;> fail) | (exfalso; simp at h; omega) | skip))
      | ((refine eB (fun h => ?_) (fun h => ?_)) <;> (first | (exfalso; simp at h <;> fail) | (exfalso; simp at h; omega) | skip))
      | refine oX (frz := [2]) Et_ok ?_
      | refine oS ?_
      | refine RunOps.nil ?_
      | refine Run.skip ?_
      | refine cT ?_
      | refine cF ?_
      | refine Run.block ?_
      | refine Run.exit ?_
      | refine Run.draw (frz := [2]) Et_ok (by kernel_rfl) ?_
      | refine eX ?_
      | refine eS ?_
      | refine eN ?_
      | ((refine oK (grCheck _ hf) (fun h => ?_) (fun h => ?_)) <;> (first | (exfalso; simp at h <;> fail) | (exfalso; simp at h; omega) | skip))
      | refine oC (grCheck _ hf) ?_
      | ((refine eK (grCheck _ hf) (fun h => ?_) (fun h => ?_)) <;> (first | (exfalso; simp at h <;> fail) | (exfalso; simp at h; omega) | skip))
      | refine eC (grCheck _ hf) ?_
      | ((refine oK (nonterminal _ _ hf) (fun h => ?_) (fun h => ?_)) <;> (first | (exfalso; simp at h <;> fail) | (exfalso; simp at h; omega) | skip))
      | refine oC (nonterminal _ _ hf) ?_
      | ((refine eK (nonterminal _ _ hf) (fun h => ?_) (fun h => ?_)) <;> (first | (exfalso; simp at h <;> fail) | (exfalso; simp at h; omega) | skip))
      | refine eC (nonterminal _ _ hf) ?_
      | (refine Run.ret ?_; (first | refine rB ?_ | refine rI ?_ | refine rA ?_ | refine rII ?_ | refine rSI ?_ | refine rT ?_ | refine rS ?_); first | done | (first | (simp_all [ntermF] <;> fail) | (simp_all [ntermF]; omega)))
      | (exfalso; (simp_all <;> fail))
      | fail)
  · refine knownE Et_ok (fnAt Try.func10 (by kernel_rfl) (by kernel_rfl) : FnAt _ _ (mkFn Try.f10 [2])) ?_
    repeat' (first
      | refine Run.region ?_
      | refine Run.seq ?_
      | ((refine oB (frz := [2]) Et_ok (fun h => ?_) (fun h => ?_)) <;> (first | (exfalso; simp at h <;> fail) | (exfalso; simp at h; omega) | skip))
      | ((refine eB (fun h => ?_) (fun h => ?_)) <;> (first | (exfalso; simp at h <;> fail) | (exfalso; simp at h; omega) | skip))
      | refine oX (frz := [2]) Et_ok ?_
      | refine oS ?_
      | refine RunOps.nil ?_
      | refine Run.skip ?_
      | refine cT ?_
      | refine cF ?_
      | refine Run.block ?_
      | refine Run.exit ?_
      | refine Run.draw (frz := [2]) Et_ok (by kernel_rfl) ?_
      | refine eX ?_
      | refine eS ?_
      | refine eN ?_
      | ((refine oK (grCheck _ hf) (fun h => ?_) (fun h => ?_)) <;> (first | (exfalso; simp at h <;> fail) | (exfalso; simp at h; omega) | skip))
      | refine oC (grCheck _ hf) ?_
      | ((refine eK (grCheck _ hf) (fun h => ?_) (fun h => ?_)) <;> (first | (exfalso; simp at h <;> fail) | (exfalso; simp at h; omega) | skip))
      | refine eC (grCheck _ hf) ?_
      | ((refine oK (nonterminal _ _ hf) (fun h => ?_) (fun h => ?_)) <;> (first | (exfalso; simp at h <;> fail) | (exfalso; simp at h; omega) | skip))
      | refine oC (nonterminal _ _ hf) ?_
      | ((refine eK (nonterminal _ _ hf) (fun h => ?_) (fun h => ?_)) <;> (first | (exfalso; simp at h <;> fail) | (exfalso; simp at h; omega) | skip))
      | refine eC (nonterminal _ _ hf) ?_
      | (refine Run.ret ?_; (first | refine rB ?_ | refine rI ?_ | refine rA ?_ | refine rII ?_ | refine rSI ?_ | refine rT ?_ | refine rS ?_); first | done | (first | (simp_all [ntermF] <;> fail) | (simp_all [ntermF]; omega)))
      | (exfalso; (simp_all <;> fail))
      | fail)
theorem names_apart {g : Gram} (h0 : checkF g = 0) (s : List Nat) (h1 : s ∈ g.tokens) (h2 : s ∈ g.names) : False := by
  obtain ⟨_, _, _, hn, _⟩ := check_parts h0
  have h3 : namedF g = 0 := by
    unfold namesF at hn
    split at hn
    · omega
    · exact hn
  obtain ⟨h4, h5⟩ := named_zero h3
  exact small_capital (h4 s (by simp [smalls, h1])) (h5 s h2)
theorem findF_mem {l : List (List Nat)} {s : List Nat} : 0 ≤ findF l s ↔ s ∈ l := by
  unfold findF
  split
  · rename_i h; simp [h]
  · rename_i h; simp [h]
theorem askSym (g : Gram) (s : List Nat) (hf : Fits g) : KnownCall Try.prog 15 [encG g, .str s] (.tup [.d (.int .i64 (askSymF g s).1), .d (.int .i64 (askSymF g s).2)]) := by
  have hft := hf.tokens
  have hfn := hf.names
  have hr := findF_range g.names s
  have hw : IntKind.i64.wrap (16 + findF g.names s) = 16 + findF g.names s := wrap64 (by omega) (by omega)
  by_cases h0 : checkF g = 0
  · have hap := names_apart h0 s
    rw [← findF_mem, ← findF_mem] at hap
    refine knownE Et_ok (fnAt Try.func15 (by kernel_rfl) (by kernel_rfl) : FnAt _ _ (mkFn Try.f15 [2])) ?_
    repeat' (first
      | refine Run.region ?_
      | refine Run.seq ?_
      | ((refine oB (frz := [2]) Et_ok (fun h => ?_) (fun h => ?_)) <;> (first | (exfalso; simp at h <;> fail) | (exfalso; simp at h; omega) | skip))
      | ((refine eB (fun h => ?_) (fun h => ?_)) <;> (first | (exfalso; simp at h <;> fail) | (exfalso; simp at h; omega) | skip))
      | refine oX (frz := [2]) Et_ok ?_
      | refine oS ?_
      | refine RunOps.nil ?_
      | refine Run.skip ?_
      | refine cT ?_
      | refine cF ?_
      | refine Run.block ?_
      | refine Run.exit ?_
      | refine Run.draw (frz := [2]) Et_ok (by kernel_rfl) ?_
      | refine eX ?_
      | refine eS ?_
      | refine eN ?_
      | ((refine oK (grCheck _ hf) (fun h => ?_) (fun h => ?_)) <;> (first | (exfalso; simp at h <;> fail) | (exfalso; simp at h; omega) | skip))
      | refine oC (grCheck _ hf) ?_
      | ((refine eK (grCheck _ hf) (fun h => ?_) (fun h => ?_)) <;> (first | (exfalso; simp at h <;> fail) | (exfalso; simp at h; omega) | skip))
      | refine eC (grCheck _ hf) ?_
      | ((refine oK (index _ _ (show g.names.length ≤ _ by omega)) (fun h => ?_) (fun h => ?_)) <;> (first | (exfalso; simp at h <;> fail) | (exfalso; simp at h; omega) | skip))
      | refine oC (index _ _ (show g.names.length ≤ _ by omega)) ?_
      | ((refine eK (index _ _ (show g.names.length ≤ _ by omega)) (fun h => ?_) (fun h => ?_)) <;> (first | (exfalso; simp at h <;> fail) | (exfalso; simp at h; omega) | skip))
      | refine eC (index _ _ (show g.names.length ≤ _ by omega)) ?_
      | ((refine oK (index _ _ (show g.tokens.length ≤ _ by omega)) (fun h => ?_) (fun h => ?_)) <;> (first | (exfalso; simp at h <;> fail) | (exfalso; simp at h; omega) | skip))
      | refine oC (index _ _ (show g.tokens.length ≤ _ by omega)) ?_
      | ((refine eK (index _ _ (show g.tokens.length ≤ _ by omega)) (fun h => ?_) (fun h => ?_)) <;> (first | (exfalso; simp at h <;> fail) | (exfalso; simp at h; omega) | skip))
      | refine eC (index _ _ (show g.tokens.length ≤ _ by omega)) ?_
      | (refine Run.ret ?_; (first | refine rB ?_ | refine rI ?_ | refine rA ?_ | refine rII ?_ | refine rSI ?_ | refine rT ?_ | refine rS ?_); first | done | (((simp only [askSymF, symF]; repeat' split) <;> (first | rfl | (simp_all <;> fail) | (simp_all; omega)))))
      | (exfalso; (simp_all <;> fail))
      | fail)
  · refine knownE Et_ok (fnAt Try.func15 (by kernel_rfl) (by kernel_rfl) : FnAt _ _ (mkFn Try.f15 [2])) ?_
    repeat' (first
      | refine Run.region ?_
      | refine Run.seq ?_
      | ((refine oB (frz := [2]) Et_ok (fun h => ?_) (fun h => ?_)) <;> (first | (exfalso; simp at h <;> fail) | (exfalso; simp at h; omega) | skip))
      | ((refine eB (fun h => ?_) (fun h => ?_)) <;> (first | (exfalso; simp at h <;> fail) | (exfalso; simp at h; omega) | skip))
      | refine oX (frz := [2]) Et_ok ?_
      | refine oS ?_
      | refine RunOps.nil ?_
      | refine Run.skip ?_
      | refine cT ?_
      | refine cF ?_
      | refine Run.block ?_
      | refine Run.exit ?_
      | refine Run.draw (frz := [2]) Et_ok (by kernel_rfl) ?_
      | refine eX ?_
      | refine eS ?_
      | refine eN ?_
      | ((refine oK (grCheck _ hf) (fun h => ?_) (fun h => ?_)) <;> (first | (exfalso; simp at h <;> fail) | (exfalso; simp at h; omega) | skip))
      | refine oC (grCheck _ hf) ?_
      | ((refine eK (grCheck _ hf) (fun h => ?_) (fun h => ?_)) <;> (first | (exfalso; simp at h <;> fail) | (exfalso; simp at h; omega) | skip))
      | refine eC (grCheck _ hf) ?_
      | (refine Run.ret ?_; (first | refine rB ?_ | refine rI ?_ | refine rA ?_ | refine rII ?_ | refine rSI ?_ | refine rT ?_ | refine rS ?_); first | done | (((simp only [askSymF, symF]; repeat' split) <;> (first | rfl | (simp_all <;> fail) | (simp_all; omega)))))
      | (exfalso; (simp_all <;> fail))
      | fail)
end Go.Av
end
noncomputable section
namespace Go.Av
open Go Go.Proofs
set_option maxRecDepth 10000
theorem allProdsX (ps : List GProd) (hl : ps.length ≤ 1099511627776) (yi : Nat) (B : Nat → List Ob) (hyi : ∀ k, Nat.blt yi (B k).length = true) (hL : ∀ k, Nat.ble (B 0).length (B k).length = true) (hR : ∀ k, (B k).all (refOb (B k).length) = true)
    (hy : ∀ k p, k < ps.length → ps[k]? = some p → AYield Try.prog yi [.d (.int .i64 k), .d (encP p)] (B k) (.d (.bool true)) (B (k + 1))) :
    ACall Try.prog 85 [.yl yi, .d (.ep [.sl 2 (ps.map encP)])] (B 0) (.tup []) (B ps.length) := by
  refine acall_of_run Et_ok (fnAt Try.func85 (by kernel_rfl) (by kernel_rfl) : FnAt _ _ (mkFn Try.f85 [])) rfl rfl ?_
  repeat (first
    | refine oX (frz := []) Et_ok ?_
    | refine oS ?_
    | refine RunOps.nil ?_
    | refine Run.region ?_
    | refine Run.seq ?_
    | refine Run.skip ?_
    | refine Run.block ?_
    | refine Run.exit ?_
    | refine Run.draw (frz := []) Et_ok (by kernel_rfl) ?_
    | refine eX ?_
    | refine eS ?_
    | refine eN ?_)
  refine Run.loop (fun k : Nat => ⟨PT.ofList [(0, .yl yi), (5, .d (.sl 2 (ps.map encP))), (6, .d (.int .i64 (ps.map encP).length)), (7, .d (.int .i64 k))], B k, []⟩) (fun k => k ≤ ps.length) (fun k => ps.length - k) 0 (Nat.zero_le _) (weak_of ⟨rfl, rfl, rfl, rfl, trivial⟩) (fun k hk => ?_)
  repeat (first
    | refine oX (frz := []) Et_ok ?_
    | refine oS ?_
    | refine RunOps.nil ?_
    | refine Run.region ?_
    | refine Run.seq ?_
    | refine Run.skip ?_
    | refine Run.block ?_
    | refine Run.exit ?_
    | refine Run.draw (frz := []) Et_ok (by kernel_rfl) ?_
    | refine eX ?_
    | refine eS ?_
    | refine eN ?_)
  refine Run.cond (by rfl) (fun h => ?_) (fun h => ?_)
  · have hlt : k < ps.length := by simpa using h
    obtain ⟨p, hp⟩ := get_ok hlt
    repeat (first
      | refine oX (frz := []) Et_ok ?_
      | refine oS ?_
      | refine RunOps.nil ?_
      | refine Run.region ?_
      | refine Run.seq ?_
      | refine Run.skip ?_
      | refine Run.block ?_
      | refine Run.exit ?_
      | refine Run.draw (frz := []) Et_ok (by kernel_rfl) ?_
      | refine eX ?_
      | refine eS ?_
      | refine eN ?_)
    first | refine oX (frz := []) (v := .d (.ep [.int .i64 p.left, ints p.right])) Et_ok ?_ (hf := (by first | (simp [inB] <;> fail) | (simp [inB]; omega))) (he := (by first | (simp [List.getD_eq_getElem?_getD, cellsD, hp, encP] <;> fail) | fail)) | refine eX (v := .d (.ep [.int .i64 p.left, ints p.right])) ?_ (hf := (by first | (simp [inB] <;> fail) | (simp [inB]; omega))) (he := (by first | (simp [List.getD_eq_getElem?_getD, cellsD, hp, encP] <;> fail) | fail))
    repeat (first
      | refine oX (frz := []) Et_ok ?_
      | refine oS ?_
      | refine RunOps.nil ?_
      | refine Run.region ?_
      | refine Run.seq ?_
      | refine Run.skip ?_
      | refine Run.block ?_
      | refine Run.exit ?_
      | refine Run.draw (frz := []) Et_ok (by kernel_rfl) ?_
      | refine eX ?_
      | refine eS ?_
      | refine eN ?_)
    refine RunOps.x (frz := []) (v := .d .any) (ob := some (B k ++ [.box [.d (.int .i64 p.left), .d (ints p.right)]])) (fl := true) Et_ok (by rfl)
      (Eq.trans (b := Option.map (fun (p : AV × List Ob × Bool) => (p.1, some p.2.1, p.2.2)) (storeR Et 43 (.bp (B k).length 0) (.d (.agg [.int .i64 p.left, ints p.right])) (B k ++ [.box [.d (.int .i64 0), .d .nilsl]]))) rfl (by rw [store_last (y := ty43) (by rfl) (B k) _ (by rfl) (by rfl) (by rfl)]; rfl)) rfl rfl rfl rfl (by rfl) ?_
    repeat (first
      | refine oX (frz := []) Et_ok ?_
      | refine oS ?_
      | refine RunOps.nil ?_
      | refine Run.region ?_
      | refine Run.seq ?_
      | refine Run.skip ?_
      | refine Run.block ?_
      | refine Run.exit ?_
      | refine Run.draw (frz := []) Et_ok (by kernel_rfl) ?_
      | refine eX ?_
      | refine eS ?_
      | refine eN ?_)
    refine RunOps.x (frz := []) (v := .d (.agg [.int .i64 p.left, ints p.right])) (ob := none) (fl := true) Et_ok (by rfl)
      (Eq.trans (b := Option.map (fun (p : AV × List Ob × Bool) => (p.1, none, p.2.2)) (loadR Et 43 (.bp (B k).length 0) (B k ++ [.box [.d (.int .i64 p.left), .d (ints p.right)]]))) rfl (by rw [load_last (y := ty43) (by rfl) (by rfl) (B k) _ (by rfl)]; rfl)) rfl rfl rfl rfl (by rfl) ?_
    have hb := hyi k
    refine RunOps.less (less_of [(5, .d (.sl 2 (ps.map encP))), (6, .d (.int .i64 (ps.map encP).length)), (7, .d (.int .i64 k)), (12, .yl yi), (0, .yl yi), (13, .d (.int .i64 k)), (14, .d (encP p))] (B k).length (List.take_left) (hL k)
      ⟨by kernel_rfl, by kernel_rfl, by kernel_rfl, by kernel_rfl, by kernel_rfl, by kernel_rfl, by kernel_rfl, trivial⟩ ⟨rfl, rfl, rfl, hb, hb, rfl, rfl, trivial⟩ (hR k) rfl) ?_
    refine RunOps.yield (by rfl) (by rfl) (hy k p hlt hp) (by rfl) (by rfl) ?_
    repeat (first
      | refine oX (frz := []) Et_ok ?_
      | refine oS ?_
      | refine RunOps.nil ?_
      | refine Run.region ?_
      | refine Run.seq ?_
      | refine Run.skip ?_
      | refine Run.block ?_
      | refine Run.exit ?_
      | refine Run.draw (frz := []) Et_ok (by kernel_rfl) ?_
      | refine eX ?_
      | refine eS ?_
      | refine eN ?_)
    refine Run.cond (b := false) (by rfl) (fun h => by cases h) (fun _ => ?_)
    repeat (first
      | refine oX (frz := []) Et_ok ?_
      | refine oS ?_
      | refine RunOps.nil ?_
      | refine Run.region ?_
      | refine Run.seq ?_
      | refine Run.skip ?_
      | refine Run.block ?_
      | refine Run.exit ?_
      | refine Run.draw (frz := []) Et_ok (by kernel_rfl) ?_
      | refine eX ?_
      | refine eS ?_
      | refine eN ?_)
    exact ⟨k + 1, hlt, by omega, weak_of ⟨(by kernel_rfl), (by kernel_rfl), (by kernel_rfl), (inc_get (k := k) (by kernel_rfl) (by omega)), trivial⟩⟩
  · have hge : ps.length ≤ k := by simpa using h
    have hkn : k = ps.length := by omega
    subst hkn
    repeat (first
      | refine oX (frz := []) Et_ok ?_
      | refine oS ?_
      | refine RunOps.nil ?_
      | refine Run.region ?_
      | refine Run.seq ?_
      | refine Run.skip ?_
      | refine Run.block ?_
      | refine Run.exit ?_
      | refine Run.draw (frz := []) Et_ok (by kernel_rfl) ?_
      | refine eX ?_
      | refine eS ?_
      | refine eN ?_)
    exact ⟨trivial, rfl, by kernel_rfl⟩
theorem Run.rangeProdsX {nt m : Nat} {frz : List Nat} {K : Ex → S → Prop} {tm : PT AV} {dl : List Dl} {f : Operand} {qs : Array Tmp} {assign body : Code} (L : Nat) (Bs Xs : Nat → List Ob) (ps : List GProd) (hl : ps.length ≤ 1099511627776)
    (hf : rd tm f = .d (allProdsF ps)) (hX0 : Xs 0 = []) (hBL : ∀ k, (Bs k).length = L) (hBr : ∀ k, (Bs k).all (refOb (L + 2 + (Xs k).length)) = true) (hXr : ∀ k, (Xs k).all (refOb (L + 2 + (Xs k).length)) = true) (hT : ∀ n, ptAll (refA 8 (L + 2 + n)) tm = true)
    (hround : ∀ k p, k < ps.length → ps[k]? = some p → AYield Try.prog (L + 1) [.d (.int .i64 k), .d (encP p)] (rangeObs (Bs k) tm nt frz qs assign body .ready none ++ Xs k) (.d (.bool true)) (rangeObs (Bs (k + 1)) tm nt frz qs assign body .ready none ++ Xs (k + 1)))
    (hend : K .normal ⟨tm, rangeObs (Bs ps.length) tm nt frz qs assign body .exhausted none ++ Xs ps.length, .mark L :: dl⟩) :
    Run Try.prog nt m none (.rangeFunc f qs assign body) ⟨tm, Bs 0, dl⟩ K := by
  have hlen : ∀ k, (rangeObs (Bs k) tm nt frz qs assign body .ready none ++ Xs k).length = L + 2 + (Xs k).length := fun k => by simp [rangeObs, hBL k]; omega
  have hrefs : ∀ k, (rangeObs (Bs k) tm nt frz qs assign body .ready none ++ Xs k).all (refOb (rangeObs (Bs k) tm nt frz qs assign body .ready none ++ Xs k).length) = true := fun k => by
    rw [hlen k]
    simp only [rangeObs, List.all_append, hBr k, hXr k, Bool.true_and, List.all_cons, List.all_nil, Bool.and_true]
    simp only [refOb, hT, Bool.and_self]
  have hget : ∀ k, (rangeObs (Bs k) tm nt frz qs assign body .ready none ++ Xs k)[L + 1]? = some (.loop tm nt frz qs assign body .ready none) := fun k => by
    have := hBL k
    subst this; simp [rangeObs]
  have hset : ∀ k, (rangeObs (Bs k) tm nt frz qs assign body .ready none ++ Xs k).set (L + 1) (.loop tm nt frz qs assign body .exhausted none) = rangeObs (Bs k) tm nt frz qs assign body .exhausted none ++ Xs k := fun k => by
    have := hBL k
    subst this
    rw [List.set_append_left _ _ (by simp [rangeObs])]
    congr 1
    unfold rangeObs
    rw [List.set_append_right _ _ (by simp)]
    simp
  have hm : Try.prog.follows .mixedOrders = true := by kernel_rfl
  have hA := allProdsX ps hl (L + 1) (fun k => rangeObs (Bs k) tm nt frz qs assign body .ready none ++ Xs k) (fun k => by rw [hlen k, Nat.blt_eq]; omega) (fun k => Nat.ble_eq_true_of_le (by rw [hlen 0, hlen k, hX0]; simp)) hrefs hround
  simp only [hX0, List.append_nil] at hA
  rw [← hBL 0] at hA
  have := Run.range (m := m) (s := ⟨tm, Bs 0, dl⟩) (K := K) Et_ok hm hf hA rfl (by rw [hBL 0]; exact hget _) (by simp) (by
    simp only [hBL 0]
    rw [hset]
    exact hend)
  exact this
end Go.Av
end
noncomputable section
namespace Go.Av
open Go Go.Proofs
set_option maxRecDepth 10000
def askNameF (g : Gram) (s : Int) : List Nat × Int := if checkF g ≠ 0 then ([], checkF g) else if goodS g s = true then (nameS g s, 0) else ([], 14)
theorem askName (g : Gram) (s : Int) (hf : Fits g) : KnownCall Try.prog 17 [encG g, .int .i64 s] (.tup [.d (.str (askNameF g s).1), .d (.int .i64 (askNameF g s).2)]) := by
  by_cases h0 : checkF g = 0
  · obtain ⟨hm, _⟩ := check_parts h0
    have ht := (many_zero hm).1
    cases hg : goodS g s with
    | true =>
      obtain ⟨x, hx⟩ := name_of_good ht hg
      have e : askNameF g s = (x, 0) := by simp [askNameF, h0, hg, nameS_of hx]
      rw [e]
      simp only [goodS, Bool.or_eq_true] at hg
      refine knownE Et_ok (fnAt Try.func17 (by kernel_rfl) (by kernel_rfl) : FnAt _ _ (mkFn Try.f17 [2])) ?_
      repeat' (first
        | refine Run.region ?_
        | refine Run.seq ?_
        | ((refine oB (frz := [2]) Et_ok (fun h => ?_) (fun h => ?_)) <;> (first | (exfalso; simp at h <;> fail) | (exfalso; simp at h; omega) | skip))
        | ((refine eB (fun h => ?_) (fun h => ?_)) <;> (first | (exfalso; simp at h <;> fail) | (exfalso; simp at h; omega) | skip))
        | refine oX (frz := [2]) Et_ok ?_
        | refine oS ?_
        | refine RunOps.nil ?_
        | refine Run.skip ?_
        | refine cT ?_
        | refine cF ?_
        | refine Run.block ?_
        | refine Run.exit ?_
        | refine Run.draw (frz := [2]) Et_ok (by kernel_rfl) ?_
        | refine eX ?_
        | refine eS ?_
        | refine eN ?_
        | ((refine oK (grCheck _ hf) (fun h => ?_) (fun h => ?_)) <;> (first | (exfalso; simp at h <;> fail) | (exfalso; simp at h; omega) | skip))
        | refine oC (grCheck _ hf) ?_
        | ((refine eK (grCheck _ hf) (fun h => ?_) (fun h => ?_)) <;> (first | (exfalso; simp at h <;> fail) | (exfalso; simp at h; omega) | skip))
        | refine eC (grCheck _ hf) ?_
        | ((refine oK (terminal _ _) (fun h => ?_) (fun h => ?_)) <;> (first | (exfalso; simp at h <;> fail) | (exfalso; simp at h; omega) | skip))
        | refine oC (terminal _ _) ?_
        | ((refine eK (terminal _ _) (fun h => ?_) (fun h => ?_)) <;> (first | (exfalso; simp at h <;> fail) | (exfalso; simp at h; omega) | skip))
        | refine eC (terminal _ _) ?_
        | ((refine oK (nonterminal _ _ hf) (fun h => ?_) (fun h => ?_)) <;> (first | (exfalso; simp at h <;> fail) | (exfalso; simp at h; omega) | skip))
        | refine oC (nonterminal _ _ hf) ?_
        | ((refine eK (nonterminal _ _ hf) (fun h => ?_) (fun h => ?_)) <;> (first | (exfalso; simp at h <;> fail) | (exfalso; simp at h; omega) | skip))
        | refine eC (nonterminal _ _ hf) ?_
        | ((refine oK (called _ s _ hf ht hx) (fun h => ?_) (fun h => ?_)) <;> (first | (exfalso; simp at h <;> fail) | (exfalso; simp at h; omega) | skip))
        | refine oC (called _ s _ hf ht hx) ?_
        | ((refine eK (called _ s _ hf ht hx) (fun h => ?_) (fun h => ?_)) <;> (first | (exfalso; simp at h <;> fail) | (exfalso; simp at h; omega) | skip))
        | refine eC (called _ s _ hf ht hx) ?_
        | (refine Run.ret ?_; (first | refine rB ?_ | refine rI ?_ | refine rA ?_ | refine rII ?_ | refine rSI ?_ | refine rT ?_ | refine rS ?_); first | done | (rfl))
        | (exfalso; (simp_all <;> fail))
        | fail)
    | false =>
      have e : askNameF g s = ([], 14) := by simp [askNameF, h0, hg]
      rw [e]
      simp only [goodS, Bool.or_eq_false_iff] at hg
      refine knownE Et_ok (fnAt Try.func17 (by kernel_rfl) (by kernel_rfl) : FnAt _ _ (mkFn Try.f17 [2])) ?_
      repeat' (first
        | refine Run.region ?_
        | refine Run.seq ?_
        | ((refine oB (frz := [2]) Et_ok (fun h => ?_) (fun h => ?_)) <;> (first | (exfalso; simp at h <;> fail) | (exfalso; simp at h; omega) | skip))
        | ((refine eB (fun h => ?_) (fun h => ?_)) <;> (first | (exfalso; simp at h <;> fail) | (exfalso; simp at h; omega) | skip))
        | refine oX (frz := [2]) Et_ok ?_
        | refine oS ?_
        | refine RunOps.nil ?_
        | refine Run.skip ?_
        | refine cT ?_
        | refine cF ?_
        | refine Run.block ?_
        | refine Run.exit ?_
        | refine Run.draw (frz := [2]) Et_ok (by kernel_rfl) ?_
        | refine eX ?_
        | refine eS ?_
        | refine eN ?_
        | ((refine oK (grCheck _ hf) (fun h => ?_) (fun h => ?_)) <;> (first | (exfalso; simp at h <;> fail) | (exfalso; simp at h; omega) | skip))
        | refine oC (grCheck _ hf) ?_
        | ((refine eK (grCheck _ hf) (fun h => ?_) (fun h => ?_)) <;> (first | (exfalso; simp at h <;> fail) | (exfalso; simp at h; omega) | skip))
        | refine eC (grCheck _ hf) ?_
        | ((refine oK (terminal _ _) (fun h => ?_) (fun h => ?_)) <;> (first | (exfalso; simp at h <;> fail) | (exfalso; simp at h; omega) | skip))
        | refine oC (terminal _ _) ?_
        | ((refine eK (terminal _ _) (fun h => ?_) (fun h => ?_)) <;> (first | (exfalso; simp at h <;> fail) | (exfalso; simp at h; omega) | skip))
        | refine eC (terminal _ _) ?_
        | ((refine oK (nonterminal _ _ hf) (fun h => ?_) (fun h => ?_)) <;> (first | (exfalso; simp at h <;> fail) | (exfalso; simp at h; omega) | skip))
        | refine oC (nonterminal _ _ hf) ?_
        | ((refine eK (nonterminal _ _ hf) (fun h => ?_) (fun h => ?_)) <;> (first | (exfalso; simp at h <;> fail) | (exfalso; simp at h; omega) | skip))
        | refine eC (nonterminal _ _ hf) ?_
        | (refine Run.ret ?_; (first | refine rB ?_ | refine rI ?_ | refine rA ?_ | refine rII ?_ | refine rSI ?_ | refine rT ?_ | refine rS ?_); first | done | (rfl))
        | (exfalso; (simp_all <;> fail))
        | fail)
  · have e : askNameF g s = ([], checkF g) := by simp [askNameF, h0]
    rw [e]
    refine knownE Et_ok (fnAt Try.func17 (by kernel_rfl) (by kernel_rfl) : FnAt _ _ (mkFn Try.f17 [2])) ?_
    repeat' (first
      | refine Run.region ?_
      | refine Run.seq ?_
      | ((refine oB (frz := [2]) Et_ok (fun h => ?_) (fun h => ?_)) <;> (first | (exfalso; simp at h <;> fail) | (exfalso; simp at h; omega) | skip))
      | ((refine eB (fun h => ?_) (fun h => ?_)) <;> (first | (exfalso; simp at h <;> fail) | (exfalso; simp at h; omega) | skip))
      | refine oX (frz := [2]) Et_ok ?_
      | refine oS ?_
      | refine RunOps.nil ?_
      | refine Run.skip ?_
      | refine cT ?_
      | refine cF ?_
      | refine Run.block ?_
      | refine Run.exit ?_
      | refine Run.draw (frz := [2]) Et_ok (by kernel_rfl) ?_
      | refine eX ?_
      | refine eS ?_
      | refine eN ?_
      | ((refine oK (grCheck _ hf) (fun h => ?_) (fun h => ?_)) <;> (first | (exfalso; simp at h <;> fail) | (exfalso; simp at h; omega) | skip))
      | refine oC (grCheck _ hf) ?_
      | ((refine eK (grCheck _ hf) (fun h => ?_) (fun h => ?_)) <;> (first | (exfalso; simp at h <;> fail) | (exfalso; simp at h; omega) | skip))
      | refine eC (grCheck _ hf) ?_
      | (refine Run.ret ?_; (first | refine rB ?_ | refine rI ?_ | refine rA ?_ | refine rII ?_ | refine rSI ?_ | refine rT ?_ | refine rS ?_); first | done | (rfl))
      | (exfalso; (simp_all <;> fail))
      | fail)
end Go.Av
end
noncomputable section
namespace Go.Av
open Go Go.Proofs
set_option maxRecDepth 10000
def xsF (p : GProd) : List DV → List Ob
  | [] => []
  | _ :: l => [.box [.d (.int .i64 p.left), .d (ints p.right)], .room (l.length + 1) 1]
def p0F (g : Gram) (s : Int) : GProd := (g.prods.find? (fun p => decide (p.left = s))).getD ⟨0, []⟩
theorem p0_first {g : Gram} {s : Int} {k : Nat} {p : GProd} (hp : g.prods[k]? = some p) (h : p.left = s) (hn : natsD (prodsTo g s k) = []) : p0F g s = p := by
  have hno : ∀ q ∈ g.prods.take k, ¬ q.left = s := by
    intro q hq he
    obtain ⟨j, hj, e⟩ := List.getElem_of_mem hq
    have hm : (q, j) ∈ (g.prods.take k).zipIdx := by rw [List.mem_zipIdx_iff_getElem?, List.getElem?_eq_getElem hj, e]
    have : j ∈ prodsTo g s k := by
      simp only [prodsTo, List.mem_map, List.mem_filter]
      exact ⟨(q, j), ⟨hm, by simp [he]⟩, rfl⟩
    have hn' : prodsTo g s k = [] := by simpa [natsD] using hn
    rw [hn'] at this
    cases this
  have hlt := (List.getElem?_eq_some_iff.1 hp).1
  have hsplit : g.prods = g.prods.take k ++ p :: g.prods.drop (k + 1) := by
    rw [← (List.getElem?_eq_some_iff.1 hp).2, ← List.drop_eq_getElem_cons hlt, List.take_append_drop]
  unfold p0F
  rw [hsplit, List.find?_append, List.find?_eq_none.2 (by simpa using hno)]
  simp [h]
theorem askProds (g : Gram) (s : Int) (hf : Fits g) : KnownCall Try.prog 12 [encG g, .int .i64 s] (.tup [.d (.sl 1 (natsD (askProdsF g s).1)), .d (.int .i64 (askProdsF g s).2)]) := by
  have hfp := hf.prods
  by_cases h0 : (ntermF g s).2 = 0
  · have e : askProdsF g s = (prodsF g s, 0) := by simp [askProdsF, h0]
    rw [e]
    refine knownE2 Et_ok (fnAt Try.func12 (by kernel_rfl) (by kernel_rfl) : FnAt _ _ (mkFn Try.f12 [2, 3, 30])) ?_
    repeat' (first
      | refine Run.region ?_
      | refine Run.seq ?_
      | ((refine oB (frz := [2, 3, 30]) Et_ok (fun h => ?_) (fun h => ?_)) <;> (first | (exfalso; simp at h <;> fail) | (exfalso; simp at h; omega) | skip))
      | ((refine eB (fun h => ?_) (fun h => ?_)) <;> (first | (exfalso; simp at h <;> fail) | (exfalso; simp at h; omega) | skip))
      | refine oX (frz := [2, 3, 30]) Et_ok ?_
      | refine oS ?_
      | refine RunOps.nil ?_
      | refine Run.skip ?_
      | refine cT ?_
      | refine cF ?_
      | refine Run.block ?_
      | refine Run.exit ?_
      | refine Run.draw (frz := [2, 3, 30]) Et_ok (by kernel_rfl) ?_
      | refine eX ?_
      | refine eS ?_
      | refine eN ?_
      | ((refine oK (askNonterm _ _ hf) (fun h => ?_) (fun h => ?_)) <;> (first | (exfalso; simp at h <;> fail) | (exfalso; simp at h; omega) | skip))
      | refine oC (askNonterm _ _ hf) ?_
      | ((refine eK (askNonterm _ _ hf) (fun h => ?_) (fun h => ?_)) <;> (first | (exfalso; simp at h <;> fail) | (exfalso; simp at h; omega) | skip))
      | refine eC (askNonterm _ _ hf) ?_
      | ((refine oK (prodsOf g) (fun h => ?_) (fun h => ?_)) <;> (first | (exfalso; simp at h <;> fail) | (exfalso; simp at h; omega) | skip))
      | refine oC (prodsOf g) ?_
      | ((refine eK (prodsOf g) (fun h => ?_) (fun h => ?_)) <;> (first | (exfalso; simp at h <;> fail) | (exfalso; simp at h; omega) | skip))
      | refine eC (prodsOf g) ?_
      | (refine Run.ret ?_; refine r2 ?_; first | done | (skip))
      | (exfalso; (simp [h0] at h <;> fail))
      | fail)
    refine Run.rangeProdsX (frz := [2, 3, 30]) 1 (fun k => [.box [rowA 4 1 (natsD (prodsTo g s k))]]) (fun k => xsF (p0F g s) (natsD (prodsTo g s k))) g.prods (by omega) (by rfl) rfl (fun _ => rfl) (fun k => ?_) (fun k => ?_) (fun n => ?_) (fun k p hk hp => ?_) ?_
    · generalize natsD (prodsTo g s k) = acc
      cases acc with
      | nil => rfl
      | cons a l => rfl
    · generalize natsD (prodsTo g s k) = acc
      cases acc with
      | nil => rfl
      | cons a l => rfl
    · rw [show 1 + 2 + n = n + 3 from by omega]; rfl
    · have hal : (natsD (prodsTo g s k)).length ≤ k := by simpa using prodsTo_len g s k
      simp only [prodsTo_succ hp, natsD_append]
      by_cases hps : p.left = s
      · rw [if_pos hps]
        have hfirst := p0_first hp hps
        generalize natsD (prodsTo g s k) = acc at hal hfirst ⊢
        rcases acc with _ | ⟨a, l⟩
        · rw [hfirst rfl]
          refine ayield_of_run (i := 2) (by rfl) (by rfl) (by rfl) ?_
          repeat (first
            | refine oX (frz := [2, 3, 30]) Et_ok ?_
            | refine oS ?_
            | refine RunOps.nil ?_
            | refine Run.region ?_
            | refine Run.seq ?_
            | refine Run.skip ?_
            | refine Run.block ?_
            | refine Run.exit ?_
            | refine Run.draw (frz := [2, 3, 30]) Et_ok (by kernel_rfl) ?_
            | refine eX ?_
            | refine eS ?_
            | refine eN ?_)
          refine ⟨rfl, _, _, _, _, _, _, _, by rfl, ?_⟩
          refine Run.less ?_
          repeat' (first
            | refine Run.region ?_
            | refine Run.seq ?_
            | ((refine oB (frz := [2, 3, 30]) Et_ok (fun h => ?_) (fun h => ?_)) <;> (first | (exfalso; simp at h <;> fail) | (exfalso; simp at h; omega) | skip))
            | ((refine eB (fun h => ?_) (fun h => ?_)) <;> (first | (exfalso; simp at h <;> fail) | (exfalso; simp at h; omega) | skip))
            | refine oX (frz := [2, 3, 30]) Et_ok ?_
            | refine oS ?_
            | refine RunOps.nil ?_
            | refine Run.skip ?_
            | refine cT ?_
            | refine cF ?_
            | refine Run.block ?_
            | refine Run.exit ?_
            | refine Run.draw (frz := [2, 3, 30]) Et_ok (by kernel_rfl) ?_
            | refine eX ?_
            | refine eS ?_
            | refine eN ?_
            | refine oX (frz := [2, 3, 30]) Et_ok ?_ (hv := app1) (hf := rfl) (he := rfl)
            | refine eX ?_ (hv := app1) (hf := rfl) (he := rfl)
            | refine oX (frz := [2, 3, 30]) Et_ok ?_ (hv := app0) (hf := rfl) (he := rfl)
            | refine eX ?_ (hv := app0) (hf := rfl) (he := rfl)
            | (exact ⟨rfl, _, less_of [] 5 rfl (by rfl) trivial trivial (by kernel_rfl) rfl, _, _, _, _, _, _, _, _, by rfl, rfl, by rfl⟩)
            | ((exfalso; (simp_all <;> fail)))
            | fail)
        · have hal' : l.length + 1 ≤ k := hal
          rw [show xsF (p0F g s) (a :: l ++ natsD [k]) = [.box [.d (.int .i64 (p0F g s).left), .d (ints (p0F g s).right)], .room (l.length + 1 + 1) 1] from by simp [xsF, natsD]]
          refine ayield_of_run (i := 2) (by rfl) (by rfl) (by rfl) ?_
          repeat (first
            | refine oX (frz := [2, 3, 30]) Et_ok ?_
            | refine oS ?_
            | refine RunOps.nil ?_
            | refine Run.region ?_
            | refine Run.seq ?_
            | refine Run.skip ?_
            | refine Run.block ?_
            | refine Run.exit ?_
            | refine Run.draw (frz := [2, 3, 30]) Et_ok (by kernel_rfl) ?_
            | refine eX ?_
            | refine eS ?_
            | refine eN ?_)
          refine ⟨rfl, _, _, _, _, _, _, _, by rfl, ?_⟩
          refine Run.less ?_
          repeat' (first
            | refine Run.region ?_
            | refine Run.seq ?_
            | ((refine oB (frz := [2, 3, 30]) Et_ok (fun h => ?_) (fun h => ?_)) <;> (first | (exfalso; simp at h <;> fail) | (exfalso; simp at h; omega) | skip))
            | ((refine eB (fun h => ?_) (fun h => ?_)) <;> (first | (exfalso; simp at h <;> fail) | (exfalso; simp at h; omega) | skip))
            | refine oX (frz := [2, 3, 30]) Et_ok ?_
            | refine oS ?_
            | refine RunOps.nil ?_
            | refine Run.skip ?_
            | refine cT ?_
            | refine cF ?_
            | refine Run.block ?_
            | refine Run.exit ?_
            | refine Run.draw (frz := [2, 3, 30]) Et_ok (by kernel_rfl) ?_
            | refine eX ?_
            | refine eS ?_
            | refine eN ?_
            | refine oX (frz := [2, 3, 30]) Et_ok ?_ (hv := app1) (hf := rfl) (he := rfl)
            | refine eX ?_ (hv := app1) (hf := rfl) (he := rfl)
            | refine oX (frz := [2, 3, 30]) Et_ok ?_ (hv := app0) (hf := rfl) (he := rfl)
            | refine eX ?_ (hv := app0) (hf := rfl) (he := rfl)
            | (exact ⟨rfl, _, less_of [] 5 rfl (by rfl) trivial trivial (by kernel_rfl) rfl, _, _, _, _, _, _, _, _, by rfl, rfl, by rfl⟩)
            | ((exfalso; (simp_all <;> fail)))
            | fail)
      · rw [if_neg hps]
        generalize natsD (prodsTo g s k) = acc at hal ⊢
        rw [show acc ++ natsD [] = acc from List.append_nil _]
        rcases acc with _ | ⟨a, l⟩
        · refine ayield_of_run (i := 2) (by rfl) (by rfl) (by rfl) ?_
          repeat (first
            | refine oX (frz := [2, 3, 30]) Et_ok ?_
            | refine oS ?_
            | refine RunOps.nil ?_
            | refine Run.region ?_
            | refine Run.seq ?_
            | refine Run.skip ?_
            | refine Run.block ?_
            | refine Run.exit ?_
            | refine Run.draw (frz := [2, 3, 30]) Et_ok (by kernel_rfl) ?_
            | refine eX ?_
            | refine eS ?_
            | refine eN ?_)
          refine ⟨rfl, _, _, _, _, _, _, _, by rfl, ?_⟩
          refine Run.less ?_
          repeat' (first
            | refine Run.region ?_
            | refine Run.seq ?_
            | ((refine oB (frz := [2, 3, 30]) Et_ok (fun h => ?_) (fun h => ?_)) <;> (first | (exfalso; simp at h <;> fail) | (exfalso; simp at h; omega) | skip))
            | ((refine eB (fun h => ?_) (fun h => ?_)) <;> (first | (exfalso; simp at h <;> fail) | (exfalso; simp at h; omega) | skip))
            | refine oX (frz := [2, 3, 30]) Et_ok ?_
            | refine oS ?_
            | refine RunOps.nil ?_
            | refine Run.skip ?_
            | refine cT ?_
            | refine cF ?_
            | refine Run.block ?_
            | refine Run.exit ?_
            | refine Run.draw (frz := [2, 3, 30]) Et_ok (by kernel_rfl) ?_
            | refine eX ?_
            | refine eS ?_
            | refine eN ?_
            | refine oX (frz := [2, 3, 30]) Et_ok ?_ (hv := app1) (hf := rfl) (he := rfl)
            | refine eX ?_ (hv := app1) (hf := rfl) (he := rfl)
            | refine oX (frz := [2, 3, 30]) Et_ok ?_ (hv := app0) (hf := rfl) (he := rfl)
            | refine eX ?_ (hv := app0) (hf := rfl) (he := rfl)
            | (exact ⟨rfl, _, less_of [] 3 rfl (by rfl) trivial trivial (by kernel_rfl) rfl, _, _, _, _, _, _, _, _, by rfl, rfl, by rfl⟩)
            | ((exfalso; (simp_all <;> fail)))
            | fail)
        · refine ayield_of_run (i := 2) (by rfl) (by rfl) (by rfl) ?_
          repeat (first
            | refine oX (frz := [2, 3, 30]) Et_ok ?_
            | refine oS ?_
            | refine RunOps.nil ?_
            | refine Run.region ?_
            | refine Run.seq ?_
            | refine Run.skip ?_
            | refine Run.block ?_
            | refine Run.exit ?_
            | refine Run.draw (frz := [2, 3, 30]) Et_ok (by kernel_rfl) ?_
            | refine eX ?_
            | refine eS ?_
            | refine eN ?_)
          refine ⟨rfl, _, _, _, _, _, _, _, by rfl, ?_⟩
          refine Run.less ?_
          repeat' (first
            | refine Run.region ?_
            | refine Run.seq ?_
            | ((refine oB (frz := [2, 3, 30]) Et_ok (fun h => ?_) (fun h => ?_)) <;> (first | (exfalso; simp at h <;> fail) | (exfalso; simp at h; omega) | skip))
            | ((refine eB (fun h => ?_) (fun h => ?_)) <;> (first | (exfalso; simp at h <;> fail) | (exfalso; simp at h; omega) | skip))
            | refine oX (frz := [2, 3, 30]) Et_ok ?_
            | refine oS ?_
            | refine RunOps.nil ?_
            | refine Run.skip ?_
            | refine cT ?_
            | refine cF ?_
            | refine Run.block ?_
            | refine Run.exit ?_
            | refine Run.draw (frz := [2, 3, 30]) Et_ok (by kernel_rfl) ?_
            | refine eX ?_
            | refine eS ?_
            | refine eN ?_
            | refine oX (frz := [2, 3, 30]) Et_ok ?_ (hv := app1) (hf := rfl) (he := rfl)
            | refine eX ?_ (hv := app1) (hf := rfl) (he := rfl)
            | refine oX (frz := [2, 3, 30]) Et_ok ?_ (hv := app0) (hf := rfl) (he := rfl)
            | refine eX ?_ (hv := app0) (hf := rfl) (he := rfl)
            | (exact ⟨rfl, _, less_of [] 5 rfl (by rfl) trivial trivial (by kernel_rfl) rfl, _, _, _, _, _, _, _, _, by rfl, rfl, by rfl⟩)
            | ((exfalso; (simp_all <;> fail)))
            | fail)
    · show _
      rw [show natsD (prodsTo g s g.prods.length) = natsD (prodsF g s) from rfl]
      generalize natsD (prodsF g s) = acc
      rcases acc with _ | ⟨a, l⟩
      · repeat' (first
          | refine Run.region ?_
          | refine Run.seq ?_
          | ((refine oB (frz := [2, 3, 30]) Et_ok (fun h => ?_) (fun h => ?_)) <;> (first | (exfalso; simp at h <;> fail) | (exfalso; simp at h; omega) | skip))
          | ((refine eB (fun h => ?_) (fun h => ?_)) <;> (first | (exfalso; simp at h <;> fail) | (exfalso; simp at h; omega) | skip))
          | refine oX (frz := [2, 3, 30]) Et_ok ?_
          | refine oS ?_
          | refine RunOps.nil ?_
          | refine Run.skip ?_
          | refine cT ?_
          | refine cF ?_
          | refine Run.block ?_
          | refine Run.exit ?_
          | refine Run.draw (frz := [2, 3, 30]) Et_ok (by kernel_rfl) ?_
          | refine eX ?_
          | refine eS ?_
          | refine eN ?_
          | (refine Run.ret ?_; refine r2 ?_; first | done | (exact .tup2 .nil .refl))
          | fail)
      · repeat' (first
          | refine Run.region ?_
          | refine Run.seq ?_
          | ((refine oB (frz := [2, 3, 30]) Et_ok (fun h => ?_) (fun h => ?_)) <;> (first | (exfalso; simp at h <;> fail) | (exfalso; simp at h; omega) | skip))
          | ((refine eB (fun h => ?_) (fun h => ?_)) <;> (first | (exfalso; simp at h <;> fail) | (exfalso; simp at h; omega) | skip))
          | refine oX (frz := [2, 3, 30]) Et_ok ?_
          | refine oS ?_
          | refine RunOps.nil ?_
          | refine Run.skip ?_
          | refine cT ?_
          | refine cF ?_
          | refine Run.block ?_
          | refine Run.exit ?_
          | refine Run.draw (frz := [2, 3, 30]) Et_ok (by kernel_rfl) ?_
          | refine eX ?_
          | refine eS ?_
          | refine eN ?_
          | (refine Run.ret ?_; refine r2 ?_; first | done | (exact .refl))
          | fail)
  · have e : askProdsF g s = ([], (ntermF g s).2) := by simp [askProdsF, h0]
    rw [e]
    refine knownE2 Et_ok (fnAt Try.func12 (by kernel_rfl) (by kernel_rfl) : FnAt _ _ (mkFn Try.f12 [2, 3, 30])) ?_
    repeat' (first
      | refine Run.region ?_
      | refine Run.seq ?_
      | ((refine oB (frz := [2, 3, 30]) Et_ok (fun h => ?_) (fun h => ?_)) <;> (first | (exfalso; simp at h <;> fail) | (exfalso; simp at h; omega) | skip))
      | ((refine eB (fun h => ?_) (fun h => ?_)) <;> (first | (exfalso; simp at h <;> fail) | (exfalso; simp at h; omega) | skip))
      | refine oX (frz := [2, 3, 30]) Et_ok ?_
      | refine oS ?_
      | refine RunOps.nil ?_
      | refine Run.skip ?_
      | refine cT ?_
      | refine cF ?_
      | refine Run.block ?_
      | refine Run.exit ?_
      | refine Run.draw (frz := [2, 3, 30]) Et_ok (by kernel_rfl) ?_
      | refine eX ?_
      | refine eS ?_
      | refine eN ?_
      | ((refine oK (askNonterm _ _ hf) (fun h => ?_) (fun h => ?_)) <;> (first | (exfalso; simp at h <;> fail) | (exfalso; simp at h; omega) | skip))
      | refine oC (askNonterm _ _ hf) ?_
      | ((refine eK (askNonterm _ _ hf) (fun h => ?_) (fun h => ?_)) <;> (first | (exfalso; simp at h <;> fail) | (exfalso; simp at h; omega) | skip))
      | refine eC (askNonterm _ _ hf) ?_
      | (refine Run.ret ?_; refine r2 ?_; first | done | (exact .tup2 .nil .refl))
      | (exfalso; (simp [h0] at h <;> fail))
      | fail)
end Go.Av
end
noncomputable section
namespace Go.Av
open Go Go.Proofs
set_option maxRecDepth 10000
end Go.Av
end
noncomputable section
namespace Go.Av
open Go Go.Proofs
set_option maxRecDepth 10000
abbrev boxG (g : Gram) : Ob := .box [.d (.int .i64 g.k), .d (strs g.tokens), .d (.str g.sep), .d (strs g.names), .d (.int .i64 g.start), .d (.sl 2 (g.prods.map encP))]
abbrev boxG0 : Ob := .box [.d (.int .i64 0), .d .nilsl, .d (.str []), .d .nilsl, .d (.int .i64 0), .d .nilsl]
end Go.Av
end
noncomputable section
namespace Go.Av
open Go Go.Proofs
set_option maxRecDepth 10000
def W64 (n : Int) : Prop := -9223372036854775808 ≤ n ∧ n ≤ 9223372036854775807
def m30 (n : Int) : Nat := (n % 1073741824).toNat
theorem m30_lt (n : Int) : m30 n < 1073741824 := by unfold m30; omega
theorem mod30 (n : Int) (hn : W64 n) : KnownCall Try.prog 49 [.int .i64 n, .int .i64 1073741824] (.d (.int .i64 (m30 n : Nat))) := by
  have hw := hn
  unfold W64 at hw
  have hm : (m30 n : Int) = n % 1073741824 := by unfold m30; omega
  have ht : n.tmod 1073741824 = if 0 ≤ n ∨ (1073741824 : Int) ∣ n then n % 1073741824 else n % 1073741824 - 1073741824 := by
    rw [Int.tmod_eq_emod]
    by_cases h : 0 ≤ n ∨ (1073741824 : Int) ∣ n
    · rw [if_pos h, if_pos h]; simp
    · rw [if_neg h, if_neg h]; rfl
  by_cases h : 0 ≤ n ∨ (1073741824 : Int) ∣ n
  · rw [if_pos h] at ht
    rw [hm]
    refine knownE Et_ok (fnAt Try.func49 (by kernel_rfl) (by kernel_rfl) : FnAt _ _ (mkFn Try.f49 [])) ?_
    repeat' (first
      | refine oX (frz := []) (v := .d (.int .i64 (n % 1073741824))) Et_ok ?_ (he := (congrArg (fun x => AV.d (.int .i64 x)) ht))
      | refine eX (v := .d (.int .i64 (n % 1073741824))) ?_ (he := (congrArg (fun x => AV.d (.int .i64 x)) ht))
      | refine Run.region ?_
      | refine Run.seq ?_
      | ((refine oB (frz := []) Et_ok (fun h => ?_) (fun h => ?_)) <;> (first | (exfalso; simp at h <;> fail) | (exfalso; simp at h; omega) | skip))
      | ((refine eB (fun h => ?_) (fun h => ?_)) <;> (first | (exfalso; simp at h <;> fail) | (exfalso; simp at h; omega) | skip))
      | refine oX (frz := []) Et_ok ?_
      | refine oS ?_
      | refine RunOps.nil ?_
      | refine Run.skip ?_
      | refine cT ?_
      | refine cF ?_
      | refine Run.block ?_
      | refine Run.exit ?_
      | refine Run.draw (frz := []) Et_ok (by kernel_rfl) ?_
      | refine eX ?_
      | refine eS ?_
      | refine eN ?_
      | (refine Run.ret ?_; (first | refine rB ?_ | refine rI ?_ | refine rA ?_ | refine rII ?_ | refine rSI ?_ | refine rT ?_ | refine rS ?_); first | done | (rfl))
      | ((exfalso; first | (simp at h <;> fail) | (simp at h; omega)))
      | fail)
  · rw [if_neg h] at ht
    rw [hm]
    have hneg : n % 1073741824 - 1073741824 < 0 := by omega
    refine knownE Et_ok (fnAt Try.func49 (by kernel_rfl) (by kernel_rfl) : FnAt _ _ (mkFn Try.f49 [])) ?_
    repeat' (first
      | refine oX (frz := []) (v := .d (.int .i64 (n % 1073741824))) Et_ok ?_ (he := (congrArg (fun x => AV.d (.int .i64 x)) ((wrap64 (by omega) (by omega)).trans (by omega))))
      | refine eX (v := .d (.int .i64 (n % 1073741824))) ?_ (he := (congrArg (fun x => AV.d (.int .i64 x)) ((wrap64 (by omega) (by omega)).trans (by omega))))
      | refine oX (frz := []) (v := .d (.int .i64 (n % 1073741824 - 1073741824))) Et_ok ?_ (he := (congrArg (fun x => AV.d (.int .i64 x)) ht))
      | refine eX (v := .d (.int .i64 (n % 1073741824 - 1073741824))) ?_ (he := (congrArg (fun x => AV.d (.int .i64 x)) ht))
      | refine Run.region ?_
      | refine Run.seq ?_
      | ((refine oB (frz := []) Et_ok (fun h => ?_) (fun h => ?_)) <;> (first | (exfalso; simp at h <;> fail) | (exfalso; simp at h; omega) | skip))
      | ((refine eB (fun h => ?_) (fun h => ?_)) <;> (first | (exfalso; simp at h <;> fail) | (exfalso; simp at h; omega) | skip))
      | refine oX (frz := []) Et_ok ?_
      | refine oS ?_
      | refine RunOps.nil ?_
      | refine Run.skip ?_
      | refine cT ?_
      | refine cF ?_
      | refine Run.block ?_
      | refine Run.exit ?_
      | refine Run.draw (frz := []) Et_ok (by kernel_rfl) ?_
      | refine eX ?_
      | refine eS ?_
      | refine eN ?_
      | (refine Run.ret ?_; (first | refine rB ?_ | refine rI ?_ | refine rA ?_ | refine rII ?_ | refine rSI ?_ | refine rT ?_ | refine rS ?_); first | done | (rfl))
      | ((exfalso; first | (simp at h <;> fail) | (simp at h; omega)))
      | fail)
def atF (l : List Int) (i : Nat) : Int := (l[i]?).getD 0
theorem atF_wf {l : List Int} (h : ∀ n ∈ l, W64 n) (i : Nat) : W64 (atF l i) := by
  unfold atF
  cases e : l[i]? with
  | none => exact ⟨by decide, by decide⟩
  | some x => exact h x (List.mem_of_getElem? e)
theorem atS (l : List Int) (i : Nat) : KnownCall Try.prog 50 [ints l, .int .i64 (i : Nat)] (.d (.int .i64 (atF l i))) := by
  rcases Nat.lt_or_ge i l.length with hlt | hge
  · obtain ⟨x, hx⟩ := get_ok hlt
    rw [show atF l i = x from by simp [atF, hx]]
    refine knownE Et_ok (fnAt Try.func50 (by kernel_rfl) (by kernel_rfl) : FnAt _ _ (mkFn Try.f50 [])) ?_
    repeat' (first
      | refine Run.region ?_
      | refine Run.seq ?_
      | ((refine oB (frz := []) Et_ok (fun h => ?_) (fun h => ?_)) <;> (first | (exfalso; simp at h <;> fail) | (exfalso; simp at h; omega) | skip))
      | ((refine eB (fun h => ?_) (fun h => ?_)) <;> (first | (exfalso; simp at h <;> fail) | (exfalso; simp at h; omega) | skip))
      | refine oX (frz := []) Et_ok ?_
      | refine oS ?_
      | refine RunOps.nil ?_
      | refine Run.skip ?_
      | refine cT ?_
      | refine cF ?_
      | refine Run.block ?_
      | refine Run.exit ?_
      | refine Run.draw (frz := []) Et_ok (by kernel_rfl) ?_
      | refine eX ?_
      | refine eS ?_
      | refine eN ?_
      | refine oX (frz := []) (v := .d (.ep [.int .i64 x])) Et_ok ?_ (hf := (by first | (simp [inB] <;> fail) | (simp [inB]; omega))) (he := (by first | (simp [List.getD_eq_getElem?_getD, cellsD, hx] <;> fail) | fail))
      | refine eX (v := .d (.ep [.int .i64 x])) ?_ (hf := (by first | (simp [inB] <;> fail) | (simp [inB]; omega))) (he := (by first | (simp [List.getD_eq_getElem?_getD, cellsD, hx] <;> fail) | fail))
      | (refine Run.ret ?_; (first | refine rB ?_ | refine rI ?_ | refine rA ?_ | refine rII ?_ | refine rSI ?_ | refine rT ?_ | refine rS ?_); first | done | (rfl))
      | ((exfalso; first | (simp at h <;> fail) | (simp at h; omega)))
      | fail)
  · rw [show atF l i = 0 from by simp [atF, List.getElem?_eq_none hge]]
    refine knownE Et_ok (fnAt Try.func50 (by kernel_rfl) (by kernel_rfl) : FnAt _ _ (mkFn Try.f50 [])) ?_
    repeat' (first
      | refine Run.region ?_
      | refine Run.seq ?_
      | ((refine oB (frz := []) Et_ok (fun h => ?_) (fun h => ?_)) <;> (first | (exfalso; simp at h <;> fail) | (exfalso; simp at h; omega) | skip))
      | ((refine eB (fun h => ?_) (fun h => ?_)) <;> (first | (exfalso; simp at h <;> fail) | (exfalso; simp at h; omega) | skip))
      | refine oX (frz := []) Et_ok ?_
      | refine oS ?_
      | refine RunOps.nil ?_
      | refine Run.skip ?_
      | refine cT ?_
      | refine cF ?_
      | refine Run.block ?_
      | refine Run.exit ?_
      | refine Run.draw (frz := []) Et_ok (by kernel_rfl) ?_
      | refine eX ?_
      | refine eS ?_
      | refine eN ?_
      | (refine Run.ret ?_; (first | refine rB ?_ | refine rI ?_ | refine rA ?_ | refine rII ?_ | refine rSI ?_ | refine rT ?_ | refine rS ?_); first | done | (rfl))
      | ((exfalso; first | (simp at h <;> fail) | (simp at h; omega)))
      | fail)
def numF (l : List Int) (i : Nat) : Nat := m30 (atF l i)
theorem numF_lt (l : List Int) (i : Nat) : numF l i < 1073741824 := m30_lt _
end Go.Av
end

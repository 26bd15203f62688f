/-
  Parts of the way to the law, joined: rules for code over data, and what the functions return. Conditions stand at each.
-/
import Derived.Test.YtchoocpngfhkpaaO2
import Derived.Test.YtchoocpngfhkpaaRows
namespace Go.Av
open Go Go.Proofs
def ty3 : Ty := ⟨.int .i64, 1, 8, [(.int .i64 0)]⟩
def ty4 : Ty := ⟨.bool, 1, 1, [(.bool false)]⟩
def ty5 : Ty := ⟨.int .u8, 1, 1, [(.int .u8 0)]⟩
def ty9 : Ty := ⟨.string, 1, 16, [(.str [])]⟩
def ty20 : Ty := ⟨.interface #[], 1, 16, [.niliface]⟩
def ty21 : Ty := ⟨.int .i32, 1, 4, [(.int .i32 0)]⟩
def ty22 : Ty := ⟨.slice 9, 1, 24, [.nilsl]⟩
def ty23 : Ty := ⟨.slice 43, 1, 24, [.nilsl]⟩
def ty25 : Ty := ⟨.struct #[⟨ "K", 3, 0, false, "", "", 0⟩, ⟨ "Tokens", 22, 1, false, "", "", 8⟩, ⟨ "Sep", 9, 2, false, "", "", 32⟩, ⟨ "Names", 22, 3, false, "", "", 48⟩, ⟨ "Start", 3, 4, false, "", "", 72⟩, ⟨ "Prods", 23, 5, false, "", "", 80⟩], 6, 104, [(.int .i64 0), .nilsl, (.str []), .nilsl, (.int .i64 0), .nilsl]⟩
def ty29 : Ty := ⟨.int .i64, 1, 8, [(.int .i64 0)]⟩
def ty32 : Ty := ⟨.slice 3, 1, 24, [.nilsl]⟩
def ty43 : Ty := ⟨.struct #[⟨ "Left", 3, 0, false, "", "", 0⟩, ⟨ "Right", 32, 1, false, "", "", 8⟩], 2, 32, [(.int .i64 0), .nilsl]⟩
def ty44 : Ty := ⟨.func #[25] #[29] false, 1, 8, [.nilfunc]⟩
def ty47 : Ty := ⟨.slice 53, 1, 24, [.nilsl]⟩
def ty49 : Ty := ⟨.struct #[⟨ "K", 3, 0, false, "", "", 0⟩, ⟨ "Tokens", 22, 1, false, "", "", 8⟩, ⟨ "Sep", 9, 2, false, "", "", 32⟩, ⟨ "Start", 9, 3, false, "", "", 48⟩, ⟨ "Rules", 47, 4, false, "", "", 64⟩], 5, 88, [(.int .i64 0), .nilsl, (.str []), (.str []), .nilsl]⟩
def ty51 : Ty := ⟨.slice 22, 1, 24, [.nilsl]⟩
def ty53 : Ty := ⟨.struct #[⟨ "Name", 9, 0, false, "", "", 0⟩, ⟨ "Alts", 51, 1, false, "", "", 16⟩], 2, 40, [(.str []), .nilsl]⟩
def ty61 : Ty := ⟨.func #[90] #[] false, 1, 8, [.nilfunc]⟩
def ty62 : Ty := ⟨.func #[90] #[] false, 1, 8, [.nilfunc]⟩
def ty69 : Ty := ⟨.slice 44, 1, 24, [.nilsl]⟩
def ty72 : Ty := ⟨.slice 5, 1, 24, [.nilsl]⟩
def ty73 : Ty := ⟨.int .u64, 1, 8, [(.int .u64 0)]⟩
def ty75 : Ty := ⟨.map 9 3, 1, 8, [.nilmap]⟩
def ty77 : Ty := ⟨.func #[9] #[4] false, 1, 8, [.nilfunc]⟩
def ty78 : Ty := ⟨.map 9 4, 1, 8, [.nilmap]⟩
def ty80 : Ty := ⟨.func #[3] #[4] false, 1, 8, [.nilfunc]⟩
def ty82 : Ty := ⟨.func #[43] #[4] false, 1, 8, [.nilfunc]⟩
def ty85 : Ty := ⟨.func #[53] #[4] false, 1, 8, [.nilfunc]⟩
def ty90 : Ty := ⟨.func #[3, 43] #[4] false, 1, 8, [.nilfunc]⟩
def ty99 : Ty := ⟨.array 4 9, 4, 64, [(.str []), (.str []), (.str []), (.str [])]⟩
noncomputable def Et : PT Ty := (.node (.node (.node (.node (.node .nil none (.node .nil (some ty47) .nil)) none (.node .nil (some ty23) .nil)) (some ty3) (.node (.node (.node .nil none (.node .nil (some ty99) .nil)) none (.node .nil (some ty51) .nil)) none (.node (.node (.node .nil (some ty75) .nil) (some ty43) .nil) none .nil))) none (.node (.node (.node .nil none (.node .nil (some ty49) .nil)) (some ty9) (.node (.node (.node .nil (some ty73) .nil) none .nil) (some ty25) .nil)) (some ty5) (.node (.node (.node (.node .nil (some ty69) .nil) none .nil) (some ty21) (.node (.node .nil (some ty85) .nil) (some ty53) .nil)) none (.node (.node (.node .nil (some ty77) .nil) none .nil) (some ty29) (.node .nil (some ty61) .nil))))) none (.node (.node (.node (.node (.node .nil (some ty32) .nil) none (.node (.node .nil (some ty80) .nil) none .nil)) none (.node (.node (.node .nil (some ty72) .nil) none .nil) none .nil)) (some ty4) (.node (.node .nil (some ty20) .nil) none (.node (.node .nil (some ty44) .nil) none .nil))) none (.node (.node (.node .nil none (.node (.node .nil (some ty82) .nil) none .nil)) none (.node .nil none (.node (.node .nil (some ty90) .nil) none .nil))) none (.node (.node .nil (some ty22) .nil) none (.node (.node (.node .nil (some ty78) .nil) none .nil) none (.node .nil (some ty62) .nil))))))
noncomputable def Ft : PT FnI := (.node (.node (.node (.node (.node (.node (.node .nil (some (mkFn Try.f63 [])) .nil) (some (mkFn Try.f31 [2])) (.node .nil (some (mkFn Try.f95 [])) .nil)) (some (mkFn Try.f15 [2, 200001])) (.node (.node .nil (some (mkFn Try.f79 [1, 19])) .nil) (some (mkFn Try.f47 [1])) .nil)) (some (mkFn Try.f7 [1])) (.node (.node (.node .nil (some (mkFn Try.f71 [])) .nil) (some (mkFn Try.f39 [2])) (.node .nil (some (mkFn Try.f103 [])) .nil)) (some (mkFn Try.f23 [1, 13, 200001])) (.node (.node .nil (some (mkFn Try.f87 [])) .nil) (some (mkFn Try.f55 [1, 12])) .nil))) (some (mkFn Try.f3 [4])) (.node (.node (.node (.node .nil (some (mkFn Try.f67 [])) .nil) (some (mkFn Try.f35 [2, 24])) (.node .nil (some (mkFn Try.f99 [])) .nil)) (some (mkFn Try.f19 [2, 200001])) (.node (.node .nil (some (mkFn Try.f83 [])) .nil) (some (mkFn Try.f51 [131080, 1, 11])) .nil)) (some (mkFn Try.f11 [2])) (.node (.node (.node .nil (some (mkFn Try.f75 [1])) .nil) (some (mkFn Try.f43 [1])) .nil) (some (mkFn Try.f27 [1, 42, 94, 100])) (.node (.node .nil (some (mkFn Try.f91 [])) .nil) (some (mkFn Try.f59 [])) .nil)))) none (.node (.node (.node (.node (.node .nil (some (mkFn Try.f65 [1, 16])) .nil) (some (mkFn Try.f33 [2])) (.node .nil (some (mkFn Try.f97 [65558, 200000])) .nil)) (some (mkFn Try.f17 [2, 200001])) (.node (.node .nil (some (mkFn Try.f81 [1])) .nil) (some (mkFn Try.f49 [])) .nil)) (some (mkFn Try.f9 [35])) (.node (.node (.node .nil (some (mkFn Try.f73 [])) .nil) (some (mkFn Try.f41 [2])) .nil) (some (mkFn Try.f25 [])) (.node (.node .nil (some (mkFn Try.f89 [131096])) .nil) (some (mkFn Try.f57 [1])) .nil))) (some (mkFn Try.f5 [])) (.node (.node (.node (.node .nil (some (mkFn Try.f69 [1])) .nil) (some (mkFn Try.f37 [2])) (.node .nil (some (mkFn Try.f101 [])) .nil)) (some (mkFn Try.f21 [2, 3])) (.node (.node .nil (some (mkFn Try.f85 [])) .nil) (some (mkFn Try.f53 [1, 28])) .nil)) (some (mkFn Try.f13 [2])) (.node (.node (.node .nil (some (mkFn Try.f77 [1])) .nil) (some (mkFn Try.f45 [1, 18])) .nil) (some (mkFn Try.f29 [])) (.node (.node .nil (some (mkFn Try.f93 [])) .nil) (some (mkFn Try.f61 [])) .nil))))) none (.node (.node (.node (.node (.node (.node .nil (some (mkFn Try.f64 [2])) .nil) (some (mkFn Try.f32 [1])) (.node .nil (some (mkFn Try.f96 [])) .nil)) (some (mkFn Try.f16 [2])) (.node (.node .nil (some (mkFn Try.f80 [2])) .nil) (some (mkFn Try.f48 [1])) .nil)) (some (mkFn Try.f8 [39])) (.node (.node (.node .nil (some (mkFn Try.f72 [])) .nil) (some (mkFn Try.f40 [2])) (.node .nil (some (mkFn Try.f104 [])) .nil)) (some (mkFn Try.f24 [19, 40, 42, 96, 105, 111])) (.node (.node .nil (some (mkFn Try.f88 [])) .nil) (some (mkFn Try.f56 [1])) .nil))) (some (mkFn Try.f4 [73, 101, 102, 114, 134, 131181])) (.node (.node (.node (.node .nil (some (mkFn Try.f68 [1])) .nil) (some (mkFn Try.f36 [])) (.node .nil (some (mkFn Try.f100 [])) .nil)) (some (mkFn Try.f20 [2])) (.node (.node .nil (some (mkFn Try.f84 [])) .nil) (some (mkFn Try.f52 [])) .nil)) (some (mkFn Try.f12 [2, 3, 30])) (.node (.node (.node .nil (some (mkFn Try.f76 [1])) .nil) (some (mkFn Try.f44 [1, 28])) .nil) (some (mkFn Try.f28 [])) (.node (.node .nil (some (mkFn Try.f92 [])) .nil) (some (mkFn Try.f60 [])) .nil)))) none (.node (.node (.node (.node (.node .nil (some (mkFn Try.f66 [1])) .nil) (some (mkFn Try.f34 [1])) (.node .nil (some (mkFn Try.f98 [])) .nil)) (some (mkFn Try.f18 [2])) (.node (.node .nil (some (mkFn Try.f82 [])) .nil) (some (mkFn Try.f50 [])) .nil)) (some (mkFn Try.f10 [2, 200001])) (.node (.node (.node .nil (some (mkFn Try.f74 [])) .nil) (some (mkFn Try.f42 [])) .nil) (some (mkFn Try.f26 [1, 57, 95, 102])) (.node (.node .nil (some (mkFn Try.f90 [])) .nil) (some (mkFn Try.f58 [])) .nil))) (some (mkFn Try.f6 [1])) (.node (.node (.node (.node .nil (some (mkFn Try.f70 [3])) .nil) (some (mkFn Try.f38 [2])) (.node .nil (some (mkFn Try.f102 [])) .nil)) (some (mkFn Try.f22 [65537, 65538, 65539, 65542, 65544])) (.node (.node .nil (some (mkFn Try.f86 [])) .nil) (some (mkFn Try.f54 [1])) .nil)) (some (mkFn Try.f14 [])) (.node (.node (.node .nil (some (mkFn Try.f78 [])) .nil) (some (mkFn Try.f46 [1])) .nil) (some (mkFn Try.f30 [])) (.node (.node .nil (some (mkFn Try.f94 [])) .nil) (some (mkFn Try.f62 [])) .nil))))))
theorem Et_ok : EnvOK Try.prog Et := envOK_of ⟨trivial, ⟨trivial, ⟨⟨by kernel_rfl, by kernel_rfl⟩, ⟨trivial, ⟨trivial, trivial, ⟨⟨by kernel_rfl, by kernel_rfl⟩, trivial, trivial⟩⟩, ⟨⟨by kernel_rfl, by kernel_rfl⟩, trivial, trivial⟩⟩, ⟨trivial, ⟨trivial, ⟨trivial, trivial, ⟨⟨by kernel_rfl, by kernel_rfl⟩, trivial, trivial⟩⟩, ⟨⟨by kernel_rfl, by kernel_rfl⟩, trivial, trivial⟩⟩, ⟨trivial, ⟨⟨by kernel_rfl, by kernel_rfl⟩, ⟨⟨by kernel_rfl, by kernel_rfl⟩, trivial, trivial⟩, trivial⟩, trivial⟩⟩⟩, ⟨⟨by kernel_rfl, by kernel_rfl⟩, ⟨⟨by kernel_rfl, by kernel_rfl⟩, ⟨trivial, trivial, ⟨⟨by kernel_rfl, by kernel_rfl⟩, trivial, trivial⟩⟩, ⟨⟨by kernel_rfl, by kernel_rfl⟩, ⟨trivial, ⟨⟨by kernel_rfl, by kernel_rfl⟩, trivial, trivial⟩, trivial⟩, trivial⟩⟩, ⟨trivial, ⟨⟨by kernel_rfl, by kernel_rfl⟩, ⟨trivial, ⟨⟨by kernel_rfl, by kernel_rfl⟩, trivial, trivial⟩, trivial⟩, ⟨⟨by kernel_rfl, by kernel_rfl⟩, ⟨⟨by kernel_rfl, by kernel_rfl⟩, trivial, trivial⟩, trivial⟩⟩, ⟨⟨by kernel_rfl, by kernel_rfl⟩, ⟨trivial, ⟨⟨by kernel_rfl, by kernel_rfl⟩, trivial, trivial⟩, trivial⟩, ⟨⟨by kernel_rfl, by kernel_rfl⟩, trivial, trivial⟩⟩⟩⟩⟩, ⟨trivial, ⟨⟨by kernel_rfl, by kernel_rfl⟩, ⟨trivial, ⟨trivial, ⟨⟨by kernel_rfl, by kernel_rfl⟩, trivial, trivial⟩, ⟨trivial, ⟨⟨by kernel_rfl, by kernel_rfl⟩, trivial, trivial⟩, trivial⟩⟩, ⟨trivial, ⟨trivial, ⟨⟨by kernel_rfl, by kernel_rfl⟩, trivial, trivial⟩, trivial⟩, trivial⟩⟩, ⟨trivial, ⟨⟨by kernel_rfl, by kernel_rfl⟩, trivial, trivial⟩, ⟨trivial, ⟨⟨by kernel_rfl, by kernel_rfl⟩, trivial, trivial⟩, trivial⟩⟩⟩, ⟨trivial, ⟨trivial, ⟨trivial, trivial, ⟨trivial, ⟨⟨by kernel_rfl, by kernel_rfl⟩, trivial, trivial⟩, trivial⟩⟩, ⟨trivial, trivial, ⟨trivial, ⟨⟨by kernel_rfl, by kernel_rfl⟩, trivial, trivial⟩, trivial⟩⟩⟩, ⟨trivial, ⟨⟨by kernel_rfl, by kernel_rfl⟩, trivial, trivial⟩, ⟨trivial, ⟨trivial, ⟨⟨by kernel_rfl, by kernel_rfl⟩, trivial, trivial⟩, trivial⟩, ⟨⟨by kernel_rfl, by kernel_rfl⟩, trivial, trivial⟩⟩⟩⟩⟩⟩
theorem Ft_ok : FnsOK Try.prog Ft.get? := fnsOK_of ⟨trivial, ⟨trivial, ⟨(fnAt Try.func3 (by kernel_rfl) (by kernel_rfl)), ⟨(fnAt Try.func7 (by kernel_rfl) (by kernel_rfl)), ⟨(fnAt Try.func15 (by kernel_rfl) (by kernel_rfl)), ⟨(fnAt Try.func31 (by kernel_rfl) (by kernel_rfl)), ⟨(fnAt Try.func63 (by kernel_rfl) (by kernel_rfl)), trivial, trivial⟩, ⟨(fnAt Try.func95 (by kernel_rfl) (by kernel_rfl)), trivial, trivial⟩⟩, ⟨(fnAt Try.func47 (by kernel_rfl) (by kernel_rfl)), ⟨(fnAt Try.func79 (by kernel_rfl) (by kernel_rfl)), trivial, trivial⟩, trivial⟩⟩, ⟨(fnAt Try.func23 (by kernel_rfl) (by kernel_rfl)), ⟨(fnAt Try.func39 (by kernel_rfl) (by kernel_rfl)), ⟨(fnAt Try.func71 (by kernel_rfl) (by kernel_rfl)), trivial, trivial⟩, ⟨(fnAt Try.func103 (by kernel_rfl) (by kernel_rfl)), trivial, trivial⟩⟩, ⟨(fnAt Try.func55 (by kernel_rfl) (by kernel_rfl)), ⟨(fnAt Try.func87 (by kernel_rfl) (by kernel_rfl)), trivial, trivial⟩, trivial⟩⟩⟩, ⟨(fnAt Try.func11 (by kernel_rfl) (by kernel_rfl)), ⟨(fnAt Try.func19 (by kernel_rfl) (by kernel_rfl)), ⟨(fnAt Try.func35 (by kernel_rfl) (by kernel_rfl)), ⟨(fnAt Try.func67 (by kernel_rfl) (by kernel_rfl)), trivial, trivial⟩, ⟨(fnAt Try.func99 (by kernel_rfl) (by kernel_rfl)), trivial, trivial⟩⟩, ⟨(fnAt Try.func51 (by kernel_rfl) (by kernel_rfl)), ⟨(fnAt Try.func83 (by kernel_rfl) (by kernel_rfl)), trivial, trivial⟩, trivial⟩⟩, ⟨(fnAt Try.func27 (by kernel_rfl) (by kernel_rfl)), ⟨(fnAt Try.func43 (by kernel_rfl) (by kernel_rfl)), ⟨(fnAt Try.func75 (by kernel_rfl) (by kernel_rfl)), trivial, trivial⟩, trivial⟩, ⟨(fnAt Try.func59 (by kernel_rfl) (by kernel_rfl)), ⟨(fnAt Try.func91 (by kernel_rfl) (by kernel_rfl)), trivial, trivial⟩, trivial⟩⟩⟩⟩, ⟨(fnAt Try.func5 (by kernel_rfl) (by kernel_rfl)), ⟨(fnAt Try.func9 (by kernel_rfl) (by kernel_rfl)), ⟨(fnAt Try.func17 (by kernel_rfl) (by kernel_rfl)), ⟨(fnAt Try.func33 (by kernel_rfl) (by kernel_rfl)), ⟨(fnAt Try.func65 (by kernel_rfl) (by kernel_rfl)), trivial, trivial⟩, ⟨(fnAt Try.func97 (by kernel_rfl) (by kernel_rfl)), trivial, trivial⟩⟩, ⟨(fnAt Try.func49 (by kernel_rfl) (by kernel_rfl)), ⟨(fnAt Try.func81 (by kernel_rfl) (by kernel_rfl)), trivial, trivial⟩, trivial⟩⟩, ⟨(fnAt Try.func25 (by kernel_rfl) (by kernel_rfl)), ⟨(fnAt Try.func41 (by kernel_rfl) (by kernel_rfl)), ⟨(fnAt Try.func73 (by kernel_rfl) (by kernel_rfl)), trivial, trivial⟩, trivial⟩, ⟨(fnAt Try.func57 (by kernel_rfl) (by kernel_rfl)), ⟨(fnAt Try.func89 (by kernel_rfl) (by kernel_rfl)), trivial, trivial⟩, trivial⟩⟩⟩, ⟨(fnAt Try.func13 (by kernel_rfl) (by kernel_rfl)), ⟨(fnAt Try.func21 (by kernel_rfl) (by kernel_rfl)), ⟨(fnAt Try.func37 (by kernel_rfl) (by kernel_rfl)), ⟨(fnAt Try.func69 (by kernel_rfl) (by kernel_rfl)), trivial, trivial⟩, ⟨(fnAt Try.func101 (by kernel_rfl) (by kernel_rfl)), trivial, trivial⟩⟩, ⟨(fnAt Try.func53 (by kernel_rfl) (by kernel_rfl)), ⟨(fnAt Try.func85 (by kernel_rfl) (by kernel_rfl)), trivial, trivial⟩, trivial⟩⟩, ⟨(fnAt Try.func29 (by kernel_rfl) (by kernel_rfl)), ⟨(fnAt Try.func45 (by kernel_rfl) (by kernel_rfl)), ⟨(fnAt Try.func77 (by kernel_rfl) (by kernel_rfl)), trivial, trivial⟩, trivial⟩, ⟨(fnAt Try.func61 (by kernel_rfl) (by kernel_rfl)), ⟨(fnAt Try.func93 (by kernel_rfl) (by kernel_rfl)), trivial, trivial⟩, trivial⟩⟩⟩⟩⟩, ⟨trivial, ⟨(fnAt Try.func4 (by kernel_rfl) (by kernel_rfl)), ⟨(fnAt Try.func8 (by kernel_rfl) (by kernel_rfl)), ⟨(fnAt Try.func16 (by kernel_rfl) (by kernel_rfl)), ⟨(fnAt Try.func32 (by kernel_rfl) (by kernel_rfl)), ⟨(fnAt Try.func64 (by kernel_rfl) (by kernel_rfl)), trivial, trivial⟩, ⟨(fnAt Try.func96 (by kernel_rfl) (by kernel_rfl)), trivial, trivial⟩⟩, ⟨(fnAt Try.func48 (by kernel_rfl) (by kernel_rfl)), ⟨(fnAt Try.func80 (by kernel_rfl) (by kernel_rfl)), trivial, trivial⟩, trivial⟩⟩, ⟨(fnAt Try.func24 (by kernel_rfl) (by kernel_rfl)), ⟨(fnAt Try.func40 (by kernel_rfl) (by kernel_rfl)), ⟨(fnAt Try.func72 (by kernel_rfl) (by kernel_rfl)), trivial, trivial⟩, ⟨(fnAt Try.func104 (by kernel_rfl) (by kernel_rfl)), trivial, trivial⟩⟩, ⟨(fnAt Try.func56 (by kernel_rfl) (by kernel_rfl)), ⟨(fnAt Try.func88 (by kernel_rfl) (by kernel_rfl)), trivial, trivial⟩, trivial⟩⟩⟩, ⟨(fnAt Try.func12 (by kernel_rfl) (by kernel_rfl)), ⟨(fnAt Try.func20 (by kernel_rfl) (by kernel_rfl)), ⟨(fnAt Try.func36 (by kernel_rfl) (by kernel_rfl)), ⟨(fnAt Try.func68 (by kernel_rfl) (by kernel_rfl)), trivial, trivial⟩, ⟨(fnAt Try.func100 (by kernel_rfl) (by kernel_rfl)), trivial, trivial⟩⟩, ⟨(fnAt Try.func52 (by kernel_rfl) (by kernel_rfl)), ⟨(fnAt Try.func84 (by kernel_rfl) (by kernel_rfl)), trivial, trivial⟩, trivial⟩⟩, ⟨(fnAt Try.func28 (by kernel_rfl) (by kernel_rfl)), ⟨(fnAt Try.func44 (by kernel_rfl) (by kernel_rfl)), ⟨(fnAt Try.func76 (by kernel_rfl) (by kernel_rfl)), trivial, trivial⟩, trivial⟩, ⟨(fnAt Try.func60 (by kernel_rfl) (by kernel_rfl)), ⟨(fnAt Try.func92 (by kernel_rfl) (by kernel_rfl)), trivial, trivial⟩, trivial⟩⟩⟩⟩, ⟨(fnAt Try.func6 (by kernel_rfl) (by kernel_rfl)), ⟨(fnAt Try.func10 (by kernel_rfl) (by kernel_rfl)), ⟨(fnAt Try.func18 (by kernel_rfl) (by kernel_rfl)), ⟨(fnAt Try.func34 (by kernel_rfl) (by kernel_rfl)), ⟨(fnAt Try.func66 (by kernel_rfl) (by kernel_rfl)), trivial, trivial⟩, ⟨(fnAt Try.func98 (by kernel_rfl) (by kernel_rfl)), trivial, trivial⟩⟩, ⟨(fnAt Try.func50 (by kernel_rfl) (by kernel_rfl)), ⟨(fnAt Try.func82 (by kernel_rfl) (by kernel_rfl)), trivial, trivial⟩, trivial⟩⟩, ⟨(fnAt Try.func26 (by kernel_rfl) (by kernel_rfl)), ⟨(fnAt Try.func42 (by kernel_rfl) (by kernel_rfl)), ⟨(fnAt Try.func74 (by kernel_rfl) (by kernel_rfl)), trivial, trivial⟩, trivial⟩, ⟨(fnAt Try.func58 (by kernel_rfl) (by kernel_rfl)), ⟨(fnAt Try.func90 (by kernel_rfl) (by kernel_rfl)), trivial, trivial⟩, trivial⟩⟩⟩, ⟨(fnAt Try.func14 (by kernel_rfl) (by kernel_rfl)), ⟨(fnAt Try.func22 (by kernel_rfl) (by kernel_rfl)), ⟨(fnAt Try.func38 (by kernel_rfl) (by kernel_rfl)), ⟨(fnAt Try.func70 (by kernel_rfl) (by kernel_rfl)), trivial, trivial⟩, ⟨(fnAt Try.func102 (by kernel_rfl) (by kernel_rfl)), trivial, trivial⟩⟩, ⟨(fnAt Try.func54 (by kernel_rfl) (by kernel_rfl)), ⟨(fnAt Try.func86 (by kernel_rfl) (by kernel_rfl)), trivial, trivial⟩, trivial⟩⟩, ⟨(fnAt Try.func30 (by kernel_rfl) (by kernel_rfl)), ⟨(fnAt Try.func46 (by kernel_rfl) (by kernel_rfl)), ⟨(fnAt Try.func78 (by kernel_rfl) (by kernel_rfl)), trivial, trivial⟩, trivial⟩, ⟨(fnAt Try.func62 (by kernel_rfl) (by kernel_rfl)), ⟨(fnAt Try.func94 (by kernel_rfl) (by kernel_rfl)), trivial, trivial⟩, trivial⟩⟩⟩⟩⟩⟩
end Go.Av
noncomputable section
namespace Go.Av
open Go Go.Proofs
set_option maxRecDepth 10000
abbrev strs (l : List (List Nat)) : DV := .sl 1 (l.map .str)
abbrev ints (l : List Int) : DV := .sl 1 (l.map (.int .i64))
theorem get_ok {α : Type} {l : List α} {i : Nat} (h : i < l.length) : ∃ x, l[i]? = some x := ⟨l[i], by simp [h]⟩
theorem sameTexts0 (a b : List (List Nat)) (hal : a.length ≤ 1099511627776) : ACall Try.prog 42 [.d (strs a), .d (strs b)] [] (.d (.bool (decide (a = b)))) [] := by
  refine acall_of_run Et_ok (fnAt Try.func42 (by kernel_rfl) (by kernel_rfl) : FnAt _ _ (mkFn Try.f42 [])) rfl rfl ?_
  repeat (first
    | refine oX (frz := []) Et_ok ?_
    | refine oS ?_
    | refine RunOps.nil ?_
    | refine Run.region ?_
    | refine Run.seq ?_
    | refine Run.skip ?_
    | refine Run.block ?_
    | refine Run.exit ?_
    | refine Run.draw (frz := []) Et_ok (by kernel_rfl) ?_
    | refine eX ?_
    | refine eS ?_
    | refine eN ?_)
  refine Run.cond (by rfl) (fun h => ?_) (fun h => ?_)
  · have hne : a ≠ b := fun e => by subst e; simp at h
    repeat (first
      | refine oX (frz := []) Et_ok ?_
      | refine oS ?_
      | refine RunOps.nil ?_
      | refine Run.region ?_
      | refine Run.seq ?_
      | refine Run.skip ?_
      | refine Run.block ?_
      | refine Run.exit ?_
      | refine Run.draw (frz := []) Et_ok (by kernel_rfl) ?_
      | refine eX ?_
      | refine eS ?_
      | refine eN ?_)
    refine Run.ret ?_
    refine ⟨trivial, rfl, Eq.trans (b := some (.d (.bool false))) (by kernel_rfl) ?_⟩
    rw [decide_eq_false hne]
  · have hlen : a.length = b.length := by simp at h; omega
    repeat (first
      | refine oX (frz := []) Et_ok ?_
      | refine oS ?_
      | refine RunOps.nil ?_
      | refine Run.region ?_
      | refine Run.seq ?_
      | refine Run.skip ?_
      | refine Run.block ?_
      | refine Run.exit ?_
      | refine Run.draw (frz := []) Et_ok (by kernel_rfl) ?_
      | refine eX ?_
      | refine eS ?_
      | refine eN ?_)
    refine Run.loop (fun i : Nat => ⟨PT.ofList [(0, .d (strs a)), (1, .d (strs b)), (5, .d (.int .i64 i))], [], []⟩) (fun i => i ≤ a.length ∧ a.take i = b.take i) (fun i => a.length - i) 0 ⟨Nat.zero_le _, rfl⟩ (weak_of ⟨rfl, rfl, rfl, trivial⟩) (fun i hi => ?_)
    repeat (first
      | refine oX (frz := []) Et_ok ?_
      | refine oS ?_
      | refine RunOps.nil ?_
      | refine Run.region ?_
      | refine Run.seq ?_
      | refine Run.skip ?_
      | refine Run.block ?_
      | refine Run.exit ?_
      | refine Run.draw (frz := []) Et_ok (by kernel_rfl) ?_
      | refine eX ?_
      | refine eS ?_
      | refine eN ?_)
    refine Run.cond (by rfl) (fun h => ?_) (fun h => ?_)
    · have hlt : i < a.length := by simpa using h
      obtain ⟨x, hx⟩ := get_ok hlt
      obtain ⟨y, hy⟩ := get_ok (show i < b.length by omega)
      repeat (first
        | refine oX (frz := []) Et_ok ?_
        | refine oS ?_
        | refine RunOps.nil ?_
        | refine Run.region ?_
        | refine Run.seq ?_
        | refine Run.skip ?_
        | refine Run.block ?_
        | refine Run.exit ?_
        | refine Run.draw (frz := []) Et_ok (by kernel_rfl) ?_
        | refine eX ?_
        | refine eS ?_
        | refine eN ?_)
      first | refine oX (frz := []) (v := .d (.ep [.str x])) Et_ok ?_ (hf := (by first | (simp [inB] <;> fail) | (simp [inB]; omega))) (he := (by first | (simp [List.getD_eq_getElem?_getD, cellsD, hx] <;> fail) | fail)) | refine eX (v := .d (.ep [.str x])) ?_ (hf := (by first | (simp [inB] <;> fail) | (simp [inB]; omega))) (he := (by first | (simp [List.getD_eq_getElem?_getD, cellsD, hx] <;> fail) | fail))
      repeat (first
        | refine oX (frz := []) Et_ok ?_
        | refine oS ?_
        | refine RunOps.nil ?_
        | refine Run.region ?_
        | refine Run.seq ?_
        | refine Run.skip ?_
        | refine Run.block ?_
        | refine Run.exit ?_
        | refine Run.draw (frz := []) Et_ok (by kernel_rfl) ?_
        | refine eX ?_
        | refine eS ?_
        | refine eN ?_)
      first | refine oX (frz := []) (v := .d (.ep [.str y])) Et_ok ?_ (hf := (by first | (simp [inB] <;> fail) | (simp [inB]; omega))) (he := (by first | (simp [List.getD_eq_getElem?_getD, cellsD, hy] <;> fail) | fail)) | refine eX (v := .d (.ep [.str y])) ?_ (hf := (by first | (simp [inB] <;> fail) | (simp [inB]; omega))) (he := (by first | (simp [List.getD_eq_getElem?_getD, cellsD, hy] <;> fail) | fail))
      repeat (first
        | refine oX (frz := []) Et_ok ?_
        | refine oS ?_
        | refine RunOps.nil ?_
        | refine Run.region ?_
        | refine Run.seq ?_
        | refine Run.skip ?_
        | refine Run.block ?_
        | refine Run.exit ?_
        | refine Run.draw (frz := []) Et_ok (by kernel_rfl) ?_
        | refine eX ?_
        | refine eS ?_
        | refine eN ?_)
      refine Run.cond (by rfl) (fun h => ?_) (fun h => ?_)
      · have hne : a ≠ b := fun e => by subst e; rw [hx] at hy; cases hy; simp at h
        repeat (first
          | refine oX (frz := []) Et_ok ?_
          | refine oS ?_
          | refine RunOps.nil ?_
          | refine Run.region ?_
          | refine Run.seq ?_
          | refine Run.skip ?_
          | refine Run.block ?_
          | refine Run.exit ?_
          | refine Run.draw (frz := []) Et_ok (by kernel_rfl) ?_
          | refine eX ?_
          | refine eS ?_
          | refine eN ?_)
        refine Run.ret ?_
        refine ⟨trivial, rfl, Eq.trans (b := some (.d (.bool false))) (by kernel_rfl) ?_⟩
        rw [decide_eq_false hne]
      · have hxy : x = y := by simpa using h
        subst hxy
        refine Run.skip ?_
        refine Run.region ?_
        iterate 1 (first | refine oX (frz := []) Et_ok ?_ | refine eX ?_)
        first | refine oX (frz := []) (v := .d (.int .i64 (i + 1 : Nat))) Et_ok ?_ (he := (congrArg (fun n => AV.d (.int .i64 n)) (wrap_nat (n := i + 1) (by omega)))) | refine eX (v := .d (.int .i64 (i + 1 : Nat))) ?_ (he := (congrArg (fun n => AV.d (.int .i64 n)) (wrap_nat (n := i + 1) (by omega))))
        iterate 1 (first | refine oX (frz := []) Et_ok ?_ | refine eX ?_)
        refine RunOps.nil ?_
        refine ⟨i + 1, ⟨by omega, ?_⟩, by omega, weak_of ⟨rfl, rfl, rfl, trivial⟩⟩
        rw [List.take_add_one, List.take_add_one, hi.2, hx, hy]
    · have hge : i = a.length := by have := hi.1; simp at h; omega
      have hab : a = b := by have := hi.2; rw [hge, List.take_length, hlen, List.take_length] at this; exact this
      repeat (first
        | refine oX (frz := []) Et_ok ?_
        | refine oS ?_
        | refine RunOps.nil ?_
        | refine Run.region ?_
        | refine Run.seq ?_
        | refine Run.skip ?_
        | refine Run.block ?_
        | refine Run.exit ?_
        | refine Run.draw (frz := []) Et_ok (by kernel_rfl) ?_
        | refine eX ?_
        | refine eS ?_
        | refine eN ?_)
      refine Run.ret ?_
      refine ⟨trivial, rfl, Eq.trans (b := some (.d (.bool true))) (by kernel_rfl) ?_⟩
      rw [decide_eq_true hab]
theorem sameTexts (a b : List (List Nat)) (hal : a.length ≤ 1099511627776) : KnownCall Try.prog 42 [strs a, strs b] (.d (.bool (decide (a = b)))) := fun o => pure_call (k := 8) rfl (sameTexts0 a b hal) rfl o
end Go.Av
end
noncomputable section
namespace Go.Av
open Go Go.Proofs
set_option maxRecDepth 10000
structure GProd where
  left : Int
  right : List Int
structure Gram where
  k : Int
  tokens : List (List Nat)
  sep : List Nat
  names : List (List Nat)
  start : Int
  prods : List GProd
def encP (p : GProd) : DV := .agg [.int .i64 p.left, ints p.right]
abbrev encG (g : Gram) : DV := .agg [.int .i64 g.k, strs g.tokens, .str g.sep, strs g.names, .int .i64 g.start, .sl 2 (g.prods.map encP)]
structure Fits (g : Gram) : Prop where
  tokens : g.tokens.length ≤ 1048576
  names : g.names.length ≤ 1048576
  prods : g.prods.length ≤ 1048576
  sep : g.sep.length ≤ 1048576
  tokenS : ∀ s ∈ g.tokens, s.length ≤ 1048576
  nameS : ∀ s ∈ g.names, s.length ≤ 1048576
  rights : ∀ p ∈ g.prods, p.right.length ≤ 1048576
end Go.Av
end
noncomputable section
namespace Go.Av
open Go Go.Proofs
set_option maxRecDepth 10000
theorem allProds0 (ps : List GProd) (hl : ps.length ≤ 1099511627776) (yi L : Nat) (B : Nat → List Ob) (hyi : Nat.blt yi L = true) (hL : ∀ k, (B k).length = L) (hR : ∀ k, (B k).all (refOb L) = true) (n : Nat) (hn : n ≤ ps.length)
    (hy : ∀ k p, k < n → ps[k]? = some p → AYield Try.prog yi [.d (.int .i64 k), .d (encP p)] (B k) (.d (.bool true)) (B (k + 1))) (obs : List Ob)
    (hend : n = ps.length ∧ obs = B n ∨ ∃ p, ps[n]? = some p ∧ AYield Try.prog yi [.d (.int .i64 n), .d (encP p)] (B n) (.d (.bool false)) obs) :
    ACall Try.prog 85 [.yl yi, .d (.ep [.sl 2 (ps.map encP)])] (B 0) (.tup []) obs := by
  refine acall_of_run Et_ok (fnAt Try.func85 (by kernel_rfl) (by kernel_rfl) : FnAt _ _ (mkFn Try.f85 [])) rfl rfl ?_
  repeat (first
    | refine oX (frz := []) Et_ok ?_
    | refine oS ?_
    | refine RunOps.nil ?_
    | refine Run.region ?_
    | refine Run.seq ?_
    | refine Run.skip ?_
    | refine Run.block ?_
    | refine Run.exit ?_
    | refine Run.draw (frz := []) Et_ok (by kernel_rfl) ?_
    | refine eX ?_
    | refine eS ?_
    | refine eN ?_)
  refine Run.loop (fun k : Nat => ⟨PT.ofList [(0, .yl yi), (5, .d (.sl 2 (ps.map encP))), (6, .d (.int .i64 (ps.map encP).length)), (7, .d (.int .i64 k))], B k, []⟩) (fun k => k ≤ n) (fun k => ps.length - k) 0 (Nat.zero_le _) (weak_of ⟨rfl, rfl, rfl, rfl, trivial⟩) (fun k hk => ?_)
  repeat (first
    | refine oX (frz := []) Et_ok ?_
    | refine oS ?_
    | refine RunOps.nil ?_
    | refine Run.region ?_
    | refine Run.seq ?_
    | refine Run.skip ?_
    | refine Run.block ?_
    | refine Run.exit ?_
    | refine Run.draw (frz := []) Et_ok (by kernel_rfl) ?_
    | refine eX ?_
    | refine eS ?_
    | refine eN ?_)
  refine Run.cond (by rfl) (fun h => ?_) (fun h => ?_)
  · have hlt : k < ps.length := by simpa using h
    obtain ⟨p, hp⟩ := get_ok hlt
    repeat (first
      | refine oX (frz := []) Et_ok ?_
      | refine oS ?_
      | refine RunOps.nil ?_
      | refine Run.region ?_
      | refine Run.seq ?_
      | refine Run.skip ?_
      | refine Run.block ?_
      | refine Run.exit ?_
      | refine Run.draw (frz := []) Et_ok (by kernel_rfl) ?_
      | refine eX ?_
      | refine eS ?_
      | refine eN ?_)
    first | refine oX (frz := []) (v := .d (.ep [.int .i64 p.left, ints p.right])) Et_ok ?_ (hf := (by first | (simp [inB] <;> fail) | (simp [inB]; omega))) (he := (by first | (simp [List.getD_eq_getElem?_getD, cellsD, hp, encP] <;> fail) | fail)) | refine eX (v := .d (.ep [.int .i64 p.left, ints p.right])) ?_ (hf := (by first | (simp [inB] <;> fail) | (simp [inB]; omega))) (he := (by first | (simp [List.getD_eq_getElem?_getD, cellsD, hp, encP] <;> fail) | fail))
    repeat (first
      | refine oX (frz := []) Et_ok ?_
      | refine oS ?_
      | refine RunOps.nil ?_
      | refine Run.region ?_
      | refine Run.seq ?_
      | refine Run.skip ?_
      | refine Run.block ?_
      | refine Run.exit ?_
      | refine Run.draw (frz := []) Et_ok (by kernel_rfl) ?_
      | refine eX ?_
      | refine eS ?_
      | refine eN ?_)
    refine RunOps.x (frz := []) (v := .d .any) (ob := some (B k ++ [.box [.d (.int .i64 p.left), .d (ints p.right)]])) (fl := true) Et_ok (by rfl)
      (Eq.trans (b := Option.map (fun (p : AV × List Ob × Bool) => (p.1, some p.2.1, p.2.2)) (storeR Et 43 (.bp (B k).length 0) (.d (.agg [.int .i64 p.left, ints p.right])) (B k ++ [.box [.d (.int .i64 0), .d .nilsl]]))) rfl (by rw [store_last (y := ty43) (by rfl) (B k) _ (by rfl) (by rfl) (by rfl)]; rfl)) rfl rfl rfl rfl (by rfl) ?_
    repeat (first
      | refine oX (frz := []) Et_ok ?_
      | refine oS ?_
      | refine RunOps.nil ?_
      | refine Run.region ?_
      | refine Run.seq ?_
      | refine Run.skip ?_
      | refine Run.block ?_
      | refine Run.exit ?_
      | refine Run.draw (frz := []) Et_ok (by kernel_rfl) ?_
      | refine eX ?_
      | refine eS ?_
      | refine eN ?_)
    refine RunOps.x (frz := []) (v := .d (.agg [.int .i64 p.left, ints p.right])) (ob := none) (fl := true) Et_ok (by rfl)
      (Eq.trans (b := Option.map (fun (p : AV × List Ob × Bool) => (p.1, none, p.2.2)) (loadR Et 43 (.bp (B k).length 0) (B k ++ [.box [.d (.int .i64 p.left), .d (ints p.right)]]))) rfl (by rw [load_last (y := ty43) (by rfl) (by rfl) (B k) _ (by rfl)]; rfl)) rfl rfl rfl rfl (by rfl) ?_
    have hLk := hL k
    have hb : Nat.blt yi (B k).length = true := by rw [hLk]; exact hyi
    refine RunOps.less (less_of [(5, .d (.sl 2 (ps.map encP))), (6, .d (.int .i64 (ps.map encP).length)), (7, .d (.int .i64 k)), (12, .yl yi), (0, .yl yi), (13, .d (.int .i64 k)), (14, .d (encP p))] (B k).length (List.take_left) (by rw [hL, hL]; exact Nat.ble_eq_true_of_le (Nat.le_refl _))
      ⟨by kernel_rfl, by kernel_rfl, by kernel_rfl, by kernel_rfl, by kernel_rfl, by kernel_rfl, by kernel_rfl, trivial⟩ ⟨rfl, rfl, rfl, hb, hb, rfl, rfl, trivial⟩ (by rw [hLk]; exact hR k) rfl) ?_
    rcases Nat.lt_or_ge k n with hkn | hkn
    · refine RunOps.yield (by rfl) (by rfl) (hy k p hkn hp) (by rfl) (by rfl) ?_
      repeat (first
        | refine oX (frz := []) Et_ok ?_
        | refine oS ?_
        | refine RunOps.nil ?_
        | refine Run.region ?_
        | refine Run.seq ?_
        | refine Run.skip ?_
        | refine Run.block ?_
        | refine Run.exit ?_
        | refine Run.draw (frz := []) Et_ok (by kernel_rfl) ?_
        | refine eX ?_
        | refine eS ?_
        | refine eN ?_)
      refine Run.cond (b := false) (by rfl) (fun h => by cases h) (fun _ => ?_)
      repeat (first
        | refine oX (frz := []) Et_ok ?_
        | refine oS ?_
        | refine RunOps.nil ?_
        | refine Run.region ?_
        | refine Run.seq ?_
        | refine Run.skip ?_
        | refine Run.block ?_
        | refine Run.exit ?_
        | refine Run.draw (frz := []) Et_ok (by kernel_rfl) ?_
        | refine eX ?_
        | refine eS ?_
        | refine eN ?_)
      exact ⟨k + 1, hkn, by omega, weak_of ⟨(by kernel_rfl), (by kernel_rfl), (by kernel_rfl), (inc_get (k := k) (by kernel_rfl) (by omega)), trivial⟩⟩
    · have hkn : k = n := by omega
      subst hkn
      rcases hend with ⟨h1, _⟩ | ⟨p', hp', hA⟩
      · omega
      · rw [hp] at hp'; cases hp'
        refine RunOps.yield (by rfl) (by rfl) hA (by rfl) (by rfl) ?_
        repeat (first
          | refine oX (frz := []) Et_ok ?_
          | refine oS ?_
          | refine RunOps.nil ?_
          | refine Run.region ?_
          | refine Run.seq ?_
          | refine Run.skip ?_
          | refine Run.block ?_
          | refine Run.exit ?_
          | refine Run.draw (frz := []) Et_ok (by kernel_rfl) ?_
          | refine eX ?_
          | refine eS ?_
          | refine eN ?_)
        refine Run.cond (b := true) (by rfl) (fun _ => ?_) (fun h => by cases h)
        refine Run.ret ?_
        exact ⟨trivial, rfl, by kernel_rfl⟩
  · have hge : ps.length ≤ k := by simpa using h
    have hkn : k = n := by omega
    subst hkn
    rcases hend with ⟨_, rfl⟩ | ⟨p', hp', _⟩
    · repeat (first
        | refine oX (frz := []) Et_ok ?_
        | refine oS ?_
        | refine RunOps.nil ?_
        | refine Run.region ?_
        | refine Run.seq ?_
        | refine Run.skip ?_
        | refine Run.block ?_
        | refine Run.exit ?_
        | refine Run.draw (frz := []) Et_ok (by kernel_rfl) ?_
        | refine eX ?_
        | refine eS ?_
        | refine eN ?_)
      exact ⟨trivial, rfl, by kernel_rfl⟩
    · rw [List.getElem?_eq_none (by omega)] at hp'; cases hp'
abbrev allProdsF (ps : List GProd) : DV := .fn (.func 85) [] [.ep [.sl 2 (ps.map encP)]]
theorem Run.rangeProds {nt m : Nat} {frz : List Nat} {K : Ex → S → Prop} {tm : PT AV} {dl : List Dl} {f : Operand} {qs : Array Tmp} {assign body : Code} (L : Nat) (Bs : Nat → List Ob) (ps : List GProd) (hl : ps.length ≤ 1099511627776)
    (hf : rd tm f = .d (allProdsF ps)) (hBL : ∀ k, (Bs k).length = L) (hBr : ∀ k, (Bs k).all (refOb (L + 2)) = true) (hT : ptAll (refA 8 (L + 2)) tm = true) (n : Nat) (hn : n ≤ ps.length)
    (hround : ∀ k p, k < n → ps[k]? = some p → AYield Try.prog (L + 1) [.d (.int .i64 k), .d (encP p)] (rangeObs (Bs k) tm nt frz qs assign body .ready none) (.d (.bool true)) (rangeObs (Bs (k + 1)) tm nt frz qs assign body .ready none))
    (hend : (n = ps.length ∧ K .normal ⟨tm, rangeObs (Bs n) tm nt frz qs assign body .exhausted none, .mark L :: dl⟩) ∨
      ∃ p Be, ps[n]? = some p ∧ (Be.length = L) ∧ ((AYield Try.prog (L + 1) [.d (.int .i64 n), .d (encP p)] (rangeObs (Bs n) tm nt frz qs assign body .ready none) (.d (.bool false)) (rangeObs Be tm nt frz qs assign body .done (some .ret)) ∧
          K .ret ⟨tm, rangeObs Be tm nt frz qs assign body .exhausted (some .ret), .mark L :: dl⟩) ∨
        ∃ id, AYield Try.prog (L + 1) [.d (.int .i64 n), .d (encP p)] (rangeObs (Bs n) tm nt frz qs assign body .ready none) (.d (.bool false)) (rangeObs Be tm nt frz qs assign body .done (some (.exit id))) ∧
          K (.exit id) ⟨tm, rangeObs Be tm nt frz qs assign body .exhausted (some (.exit id)), .mark L :: dl⟩)) :
    Run Try.prog nt m none (.rangeFunc f qs assign body) ⟨tm, Bs 0, dl⟩ K := by
  have hlen : ∀ B : List Ob, B.length = L → ∀ st pend, (rangeObs B tm nt frz qs assign body st pend).length = L + 2 := fun B h st pend => by simp [rangeObs, h]
  have hrefs : ∀ k, (rangeObs (Bs k) tm nt frz qs assign body .ready none).all (refOb (L + 2)) = true := fun k => by
    simp only [rangeObs, List.all_append, hBr k, Bool.true_and, List.all_cons, List.all_nil, Bool.and_true]
    simp only [refOb, hT, Bool.and_self]
  have hget : ∀ B : List Ob, B.length = L → ∀ st pend, (rangeObs B tm nt frz qs assign body st pend)[L + 1]? = some (.loop tm nt frz qs assign body st pend) := fun B h st pend => by
    subst h; simp [rangeObs]
  have hset : ∀ B : List Ob, B.length = L → ∀ st pend st' pend', (rangeObs B tm nt frz qs assign body st pend).set (L + 1) (.loop tm nt frz qs assign body st' pend') = rangeObs B tm nt frz qs assign body st' pend' := fun B h st pend st' pend' => by
    subst h
    unfold rangeObs
    rw [List.set_append_right _ _ (by simp)]
    simp
  have hyi : Nat.blt (L + 1) (L + 2) = true := by rw [Nat.blt_eq]; omega
  have hm : Try.prog.follows .mixedOrders = true := by kernel_rfl
  rcases hend with ⟨h1, h2⟩ | ⟨p, Be, hp, hBe, ⟨h1, h2⟩ | ⟨id, h1, h2⟩⟩
  · have hA := allProds0 ps hl (L + 1) (L + 2) (fun k => rangeObs (Bs k) tm nt frz qs assign body .ready none) hyi (fun k => hlen _ (hBL k) _ _) hrefs n hn hround (rangeObs (Bs n) tm nt frz qs assign body .ready none) (.inl ⟨h1, rfl⟩)
    rw [← hBL 0] at hA
    have := Run.range (m := m) (s := ⟨tm, Bs 0, dl⟩) (K := K) Et_ok hm hf hA rfl (by rw [hBL 0]; exact hget _ (hBL n) _ _) (by simp) (by
      simp only [hBL 0]
      rw [hset _ (hBL n)]
      exact h2)
    exact this
  · have hA := allProds0 ps hl (L + 1) (L + 2) (fun k => rangeObs (Bs k) tm nt frz qs assign body .ready none) hyi (fun k => hlen _ (hBL k) _ _) hrefs n hn hround (rangeObs Be tm nt frz qs assign body .done (some .ret)) (.inr ⟨p, hp, h1⟩)
    rw [← hBL 0] at hA
    have := Run.range (m := m) (s := ⟨tm, Bs 0, dl⟩) (K := K) Et_ok hm hf hA rfl (by rw [hBL 0]; exact hget _ hBe _ _) (by simp) (by
      simp only [hBL 0]
      rw [hset _ hBe]
      exact h2)
    exact this
  · have hA := allProds0 ps hl (L + 1) (L + 2) (fun k => rangeObs (Bs k) tm nt frz qs assign body .ready none) hyi (fun k => hlen _ (hBL k) _ _) hrefs n hn hround (rangeObs Be tm nt frz qs assign body .done (some (.exit id))) (.inr ⟨p, hp, h1⟩)
    rw [← hBL 0] at hA
    have := Run.range (m := m) (s := ⟨tm, Bs 0, dl⟩) (K := K) Et_ok hm hf hA rfl (by rw [hBL 0]; exact hget _ hBe _ _) (by simp) (by
      simp only [hBL 0]
      rw [hset _ hBe]
      exact h2)
    exact this
end Go.Av
end
noncomputable section
namespace Go.Av
open Go Go.Proofs
set_option maxRecDepth 10000
theorem wrap64 {n : Int} (h1 : -9223372036854775808 ≤ n) (h2 : n ≤ 9223372036854775807) : IntKind.i64.wrap n = n := IntWalk.i64_in n ⟨h1, h2⟩
end Go.Av
end
noncomputable section
namespace Go.Av
open Go Go.Proofs
set_option maxRecDepth 10000
def letterF (c : Int) : Bool := (decide (97 ≤ c) && decide (c ≤ 122)) || (decide (65 ≤ c) && decide (c ≤ 90))
def digitF (c : Int) : Bool := decide (48 ≤ c) && decide (c ≤ 57)
def badAt (s : List Nat) (i : Nat) : Prop := ∃ c : Nat, s[i]? = some c ∧ letterF c = false ∧ (i = 0 ∨ (digitF c = false ∧ (c : Int) ≠ 95))
open Classical in
def wordF (s : List Nat) : Int := if s = [] then 5 else if ∃ i, badAt s i then 3 else if 12 < s.length then 4 else 0
def wLook : List Nat := [108, 111, 111, 107, 97, 104, 101, 97, 100]
def wToken : List Nat := [116, 111, 107, 101, 110]
def wSep : List Nat := [115, 101, 112, 97, 114, 97, 116, 111, 114]
def wStart : List Nat := [115, 116, 97, 114, 116]
def languageF (s : List Nat) : Bool := decide (s = wLook ∨ s = wToken ∨ s = wSep ∨ s = wStart)
def nameF (s : List Nat) : Int := if wordF s = 0 ∧ languageF s = true then 12 else wordF s
theorem refLetter (c : Int) : KnownCall Try.prog 103 [.int .u8 c] (.d (.bool (letterF c))) := by
  refine knownE Et_ok (fnAt Try.func103 (by kernel_rfl) (by kernel_rfl) : FnAt _ _ (mkFn Try.f103 [])) ?_
  repeat' (first
    | refine Run.region ?_
    | refine Run.seq ?_
    | ((refine oB (frz := []) Et_ok (fun h => ?_) (fun h => ?_)) <;> (first | (exfalso; simp at h <;> fail) | (exfalso; simp at h; omega) | skip))
    | ((refine eB (fun h => ?_) (fun h => ?_)) <;> (first | (exfalso; simp at h <;> fail) | (exfalso; simp at h; omega) | skip))
    | refine oX (frz := []) Et_ok ?_
    | refine oS ?_
    | refine RunOps.nil ?_
    | refine Run.skip ?_
    | refine cT ?_
    | refine cF ?_
    | refine Run.block ?_
    | refine Run.exit ?_
    | refine Run.draw (frz := []) Et_ok (by kernel_rfl) ?_
    | refine eX ?_
    | refine eS ?_
    | refine eN ?_
    | (refine Run.ret ?_; (first | refine rB ?_ | refine rI ?_ | refine rA ?_ | refine rII ?_ | refine rSI ?_ | refine rT ?_ | refine rS ?_); first | done | (first | (simp_all [letterF]; done) | (simp_all [letterF]; omega)))
    | fail)
theorem letter (c : Int) : KnownCall Try.prog 101 [.int .i32 c] (.d (.bool (letterF c))) := by
  refine knownE Et_ok (fnAt Try.func101 (by kernel_rfl) (by kernel_rfl) : FnAt _ _ (mkFn Try.f101 [])) ?_
  repeat' (first
    | refine Run.region ?_
    | refine Run.seq ?_
    | ((refine oB (frz := []) Et_ok (fun h => ?_) (fun h => ?_)) <;> (first | (exfalso; simp at h <;> fail) | (exfalso; simp at h; omega) | skip))
    | ((refine eB (fun h => ?_) (fun h => ?_)) <;> (first | (exfalso; simp at h <;> fail) | (exfalso; simp at h; omega) | skip))
    | refine oX (frz := []) Et_ok ?_
    | refine oS ?_
    | refine RunOps.nil ?_
    | refine Run.skip ?_
    | refine cT ?_
    | refine cF ?_
    | refine Run.block ?_
    | refine Run.exit ?_
    | refine Run.draw (frz := []) Et_ok (by kernel_rfl) ?_
    | refine eX ?_
    | refine eS ?_
    | refine eN ?_
    | (refine Run.ret ?_; (first | refine rB ?_ | refine rI ?_ | refine rA ?_ | refine rII ?_ | refine rSI ?_ | refine rT ?_ | refine rS ?_); first | done | (first | (simp_all [letterF]; done) | (simp_all [letterF]; omega)))
    | fail)
theorem refDigit (c : Int) : KnownCall Try.prog 104 [.int .u8 c] (.d (.bool (digitF c))) := by
  refine knownE Et_ok (fnAt Try.func104 (by kernel_rfl) (by kernel_rfl) : FnAt _ _ (mkFn Try.f104 [])) ?_
  repeat' (first
    | refine Run.region ?_
    | refine Run.seq ?_
    | ((refine oB (frz := []) Et_ok (fun h => ?_) (fun h => ?_)) <;> (first | (exfalso; simp at h <;> fail) | (exfalso; simp at h; omega) | skip))
    | ((refine eB (fun h => ?_) (fun h => ?_)) <;> (first | (exfalso; simp at h <;> fail) | (exfalso; simp at h; omega) | skip))
    | refine oX (frz := []) Et_ok ?_
    | refine oS ?_
    | refine RunOps.nil ?_
    | refine Run.skip ?_
    | refine cT ?_
    | refine cF ?_
    | refine Run.block ?_
    | refine Run.exit ?_
    | refine Run.draw (frz := []) Et_ok (by kernel_rfl) ?_
    | refine eX ?_
    | refine eS ?_
    | refine eN ?_
    | (refine Run.ret ?_; (first | refine rB ?_ | refine rI ?_ | refine rA ?_ | refine rII ?_ | refine rSI ?_ | refine rT ?_ | refine rS ?_); first | done | (first | (simp_all [digitF]; done) | (simp_all [digitF]; omega)))
    | fail)
theorem digit (c : Int) : KnownCall Try.prog 102 [.int .i32 c] (.d (.bool (digitF c))) := by
  refine knownE Et_ok (fnAt Try.func102 (by kernel_rfl) (by kernel_rfl) : FnAt _ _ (mkFn Try.f102 [])) ?_
  repeat' (first
    | refine Run.region ?_
    | refine Run.seq ?_
    | ((refine oB (frz := []) Et_ok (fun h => ?_) (fun h => ?_)) <;> (first | (exfalso; simp at h <;> fail) | (exfalso; simp at h; omega) | skip))
    | ((refine eB (fun h => ?_) (fun h => ?_)) <;> (first | (exfalso; simp at h <;> fail) | (exfalso; simp at h; omega) | skip))
    | refine oX (frz := []) Et_ok ?_
    | refine oS ?_
    | refine RunOps.nil ?_
    | refine Run.skip ?_
    | refine cT ?_
    | refine cF ?_
    | refine Run.block ?_
    | refine Run.exit ?_
    | refine Run.draw (frz := []) Et_ok (by kernel_rfl) ?_
    | refine eX ?_
    | refine eS ?_
    | refine eN ?_
    | (refine Run.ret ?_; (first | refine rB ?_ | refine rI ?_ | refine rA ?_ | refine rII ?_ | refine rSI ?_ | refine rT ?_ | refine rS ?_); first | done | (first | (simp_all [digitF]; done) | (simp_all [digitF]; omega)))
    | fail)
theorem refLanguage (s : List Nat) : KnownCall Try.prog 100 [.str s] (.d (.bool (languageF s))) := by
  refine knownE Et_ok (fnAt Try.func100 (by kernel_rfl) (by kernel_rfl) : FnAt _ _ (mkFn Try.f100 [])) ?_
  repeat' (first
    | refine Run.region ?_
    | refine Run.seq ?_
    | ((refine oB (frz := []) Et_ok (fun h => ?_) (fun h => ?_)) <;> (first | (exfalso; simp at h <;> fail) | (exfalso; simp at h; omega) | skip))
    | ((refine eB (fun h => ?_) (fun h => ?_)) <;> (first | (exfalso; simp at h <;> fail) | (exfalso; simp at h; omega) | skip))
    | refine oX (frz := []) Et_ok ?_
    | refine oS ?_
    | refine RunOps.nil ?_
    | refine Run.skip ?_
    | refine cT ?_
    | refine cF ?_
    | refine Run.block ?_
    | refine Run.exit ?_
    | refine Run.draw (frz := []) Et_ok (by kernel_rfl) ?_
    | refine eX ?_
    | refine eS ?_
    | refine eN ?_
    | (refine Run.ret ?_; (first | refine rB ?_ | refine rI ?_ | refine rA ?_ | refine rII ?_ | refine rSI ?_ | refine rT ?_ | refine rS ?_); first | done | (first | (simp_all [languageF, wLook, wToken, wSep, wStart]; done)))
    | fail)
theorem wordF_bad {s : List Nat} (hs : s ≠ []) {i : Nat} (h : badAt s i) : wordF s = 3 := by
  unfold wordF
  rw [if_neg hs, if_pos ⟨i, h⟩]
theorem wordF_good {s : List Nat} (hs : s ≠ []) (h : ∀ i, ¬ badAt s i) : wordF s = if 12 < s.length then 4 else 0 := by
  unfold wordF
  rw [if_neg hs, if_neg (fun ⟨i, hi⟩ => h i hi)]
theorem refWord (s : List Nat) (hl : s.length ≤ 1099511627776) : KnownCall Try.prog 99 [.str s] (.d (.int .i64 (wordF s))) := by
  refine knownE Et_ok (fnAt Try.func99 (by kernel_rfl) (by kernel_rfl) : FnAt _ _ (mkFn Try.f99 [])) ?_
  repeat' (first
    | refine Run.region ?_
    | refine Run.seq ?_
    | ((refine oB (frz := []) Et_ok (fun h => ?_) (fun h => ?_)) <;> (first | (exfalso; simp at h <;> fail) | (exfalso; simp at h; omega) | skip))
    | ((refine eB (fun h => ?_) (fun h => ?_)) <;> (first | (exfalso; simp at h <;> fail) | (exfalso; simp at h; omega) | skip))
    | refine oX (frz := []) Et_ok ?_
    | refine oS ?_
    | refine RunOps.nil ?_
    | refine Run.skip ?_
    | refine cT ?_
    | refine cF ?_
    | refine Run.block ?_
    | refine Run.exit ?_
    | refine Run.draw (frz := []) Et_ok (by kernel_rfl) ?_
    | refine eX ?_
    | refine eS ?_
    | refine eN ?_
    | (refine Run.ret ?_; (first | refine rB ?_ | refine rI ?_ | refine rA ?_ | refine rII ?_ | refine rSI ?_ | refine rT ?_ | refine rS ?_); first | done | (simp_all [wordF]))
    | fail)
  have hs : s ≠ [] := by simpa using h
  refine Run.loop (fun i : Nat => ⟨PT.ofList [(0, .d (.str s)), (3, .d (.int .i64 i))], [], []⟩) (fun i => i ≤ s.length ∧ ∀ j, j < i → ¬ badAt s j) (fun i => s.length - i) 0 ⟨Nat.zero_le _, fun j hj => by omega⟩ (weak_of ⟨rfl, rfl, trivial⟩) (fun i hi => ?_)
  obtain ⟨hi1, hi2⟩ := hi
  rcases Nat.lt_or_ge i s.length with hlt | hge
  · obtain ⟨c, hc⟩ := get_ok hlt
    have hbad : badAt s i ↔ letterF c = false ∧ (i = 0 ∨ (digitF c = false ∧ (c : Int) ≠ 95)) := ⟨fun ⟨c', h1, h2⟩ => by rw [hc] at h1; cases h1; exact h2, fun h => ⟨c, hc, h⟩⟩
    repeat' (first
      | refine Run.region ?_
      | refine Run.seq ?_
      | ((refine oB (frz := []) Et_ok (fun h => ?_) (fun h => ?_)) <;> (first | (exfalso; simp at h <;> fail) | (exfalso; simp at h; omega) | skip))
      | ((refine eB (fun h => ?_) (fun h => ?_)) <;> (first | (exfalso; simp at h <;> fail) | (exfalso; simp at h; omega) | skip))
      | refine oX (frz := []) Et_ok ?_
      | refine oS ?_
      | refine RunOps.nil ?_
      | refine Run.skip ?_
      | refine cT ?_
      | refine cF ?_
      | refine Run.block ?_
      | refine Run.exit ?_
      | refine Run.draw (frz := []) Et_ok (by kernel_rfl) ?_
      | refine eX ?_
      | refine eS ?_
      | refine eN ?_
      | refine oX (frz := []) (v := .d (.int .u8 c)) Et_ok ?_ (hf := (by first | (simp [inB] <;> fail) | (simp [inB]; omega))) (he := (by first | (simp [List.getD_eq_getElem?_getD, cellsD, hc] <;> fail) | fail))
      | refine eX (v := .d (.int .u8 c)) ?_ (hf := (by first | (simp [inB] <;> fail) | (simp [inB]; omega))) (he := (by first | (simp [List.getD_eq_getElem?_getD, cellsD, hc] <;> fail) | fail))
      | ((refine oK (refLetter _) (fun h => ?_) (fun h => ?_)) <;> (first | (exfalso; simp at h <;> fail) | (exfalso; simp at h; omega) | skip))
      | refine oC (refLetter _) ?_
      | ((refine eK (refLetter _) (fun h => ?_) (fun h => ?_)) <;> (first | (exfalso; simp at h <;> fail) | (exfalso; simp at h; omega) | skip))
      | refine eC (refLetter _) ?_
      | ((refine oK (refDigit _) (fun h => ?_) (fun h => ?_)) <;> (first | (exfalso; simp at h <;> fail) | (exfalso; simp at h; omega) | skip))
      | refine oC (refDigit _) ?_
      | ((refine eK (refDigit _) (fun h => ?_) (fun h => ?_)) <;> (first | (exfalso; simp at h <;> fail) | (exfalso; simp at h; omega) | skip))
      | refine eC (refDigit _) ?_
      | (refine Run.ret ?_; (first | refine rB ?_ | refine rI ?_ | refine rA ?_ | refine rII ?_ | refine rSI ?_ | refine rT ?_ | refine rS ?_); first | done | (rw [wordF_bad hs (i := i) (hbad.2 (by simp_all))]))
      | (exact ⟨i + 1, ⟨by omega, fun j hj => by rcases Nat.lt_succ_iff_lt_or_eq.1 hj with h | h; exact hi2 j h; subst h; rw [hbad]; simp_all⟩, by omega, weak_of ⟨(by kernel_rfl), (inc_get (k := i) (by kernel_rfl) (by omega)), trivial⟩⟩)
      | fail)
  · have hge : i = s.length := by omega
    have hall : ∀ j, ¬ badAt s j := fun j hj => by
      by_cases hlt : j < i
      · exact hi2 j hlt hj
      · obtain ⟨c, h1, _⟩ := hj
        rw [List.getElem?_eq_none (by omega)] at h1; cases h1
    repeat' (first
      | refine Run.region ?_
      | refine Run.seq ?_
      | ((refine oB (frz := []) Et_ok (fun h => ?_) (fun h => ?_)) <;> (first | (exfalso; simp at h <;> fail) | (exfalso; simp at h; omega) | skip))
      | ((refine eB (fun h => ?_) (fun h => ?_)) <;> (first | (exfalso; simp at h <;> fail) | (exfalso; simp at h; omega) | skip))
      | refine oX (frz := []) Et_ok ?_
      | refine oS ?_
      | refine RunOps.nil ?_
      | refine Run.skip ?_
      | refine cT ?_
      | refine cF ?_
      | refine Run.block ?_
      | refine Run.exit ?_
      | refine Run.draw (frz := []) Et_ok (by kernel_rfl) ?_
      | refine eX ?_
      | refine eS ?_
      | refine eN ?_
      | (refine Run.ret ?_; (first | refine rB ?_ | refine rI ?_ | refine rA ?_ | refine rII ?_ | refine rSI ?_ | refine rT ?_ | refine rS ?_); first | done | (rw [wordF_good hs hall]; first | (simp_all [] <;> fail) | (simp_all []; omega)))
      | fail)
theorem word (s : List Nat) (hl : s.length ≤ 1099511627776) : KnownCall Try.prog 95 [.str s] (.d (.int .i64 (wordF s))) := by
  refine knownE Et_ok (fnAt Try.func95 (by kernel_rfl) (by kernel_rfl) : FnAt _ _ (mkFn Try.f95 [])) ?_
  repeat' (first
    | refine Run.region ?_
    | refine Run.seq ?_
    | ((refine oB (frz := []) Et_ok (fun h => ?_) (fun h => ?_)) <;> (first | (exfalso; simp at h <;> fail) | (exfalso; simp at h; omega) | skip))
    | ((refine eB (fun h => ?_) (fun h => ?_)) <;> (first | (exfalso; simp at h <;> fail) | (exfalso; simp at h; omega) | skip))
    | refine oX (frz := []) Et_ok ?_
    | refine oS ?_
    | refine RunOps.nil ?_
    | refine Run.skip ?_
    | refine cT ?_
    | refine cF ?_
    | refine Run.block ?_
    | refine Run.exit ?_
    | refine Run.draw (frz := []) Et_ok (by kernel_rfl) ?_
    | refine eX ?_
    | refine eS ?_
    | refine eN ?_
    | (refine Run.ret ?_; (first | refine rB ?_ | refine rI ?_ | refine rA ?_ | refine rII ?_ | refine rSI ?_ | refine rT ?_ | refine rS ?_); first | done | (simp_all [wordF]))
    | fail)
  have hs : s ≠ [] := by simpa using h
  refine Run.loop (fun i : Nat => ⟨PT.ofList [(0, .d (.str s)), (8, .bp 0 0)], [.sit s i], []⟩) (fun i => i ≤ s.length ∧ ∀ j, j < i → ¬ badAt s j) (fun i => s.length - i) 0 ⟨Nat.zero_le _, fun j hj => by omega⟩ (weak_of ⟨rfl, rfl, trivial⟩) (fun i hi => ?_)
  obtain ⟨hi1, hi2⟩ := hi
  rcases Nat.lt_or_ge i s.length with hlt | hge
  · obtain ⟨c, hc⟩ := get_ok hlt
    have hbad : badAt s i ↔ letterF c = false ∧ (i = 0 ∨ (digitF c = false ∧ (c : Int) ≠ 95)) := ⟨fun ⟨c', h1, h2⟩ => by rw [hc] at h1; cases h1; exact h2, fun h => ⟨c, hc, h⟩⟩
    rcases Nat.lt_or_ge c 128 with h8 | h8
    · have hd := decL_ascii hc h8
      repeat' (first
        | refine Run.region ?_
        | refine Run.seq ?_
        | ((refine oB (frz := []) Et_ok (fun h => ?_) (fun h => ?_)) <;> (first | (exfalso; simp at h <;> fail) | (exfalso; simp at h; omega) | skip))
        | ((refine eB (fun h => ?_) (fun h => ?_)) <;> (first | (exfalso; simp at h <;> fail) | (exfalso; simp at h; omega) | skip))
        | refine oX (frz := []) Et_ok ?_
        | refine oS ?_
        | refine RunOps.nil ?_
        | refine Run.skip ?_
        | refine cT ?_
        | refine cF ?_
        | refine Run.block ?_
        | refine Run.exit ?_
        | refine Run.draw (frz := []) Et_ok (by kernel_rfl) ?_
        | refine eX ?_
        | refine eS ?_
        | refine eN ?_
        | refine RunOps.next Et_ok (by rfl) (by rfl) (by rfl) hlt hd (by rfl) (by rfl) (by rfl) ?_
        | ((refine oK (letter _) (fun h => ?_) (fun h => ?_)) <;> (first | (exfalso; simp at h <;> fail) | (exfalso; simp at h; omega) | skip))
        | refine oC (letter _) ?_
        | ((refine eK (letter _) (fun h => ?_) (fun h => ?_)) <;> (first | (exfalso; simp at h <;> fail) | (exfalso; simp at h; omega) | skip))
        | refine eC (letter _) ?_
        | ((refine oK (digit _) (fun h => ?_) (fun h => ?_)) <;> (first | (exfalso; simp at h <;> fail) | (exfalso; simp at h; omega) | skip))
        | refine oC (digit _) ?_
        | ((refine eK (digit _) (fun h => ?_) (fun h => ?_)) <;> (first | (exfalso; simp at h <;> fail) | (exfalso; simp at h; omega) | skip))
        | refine eC (digit _) ?_
        | (refine Run.ret ?_; (first | refine rB ?_ | refine rI ?_ | refine rA ?_ | refine rII ?_ | refine rSI ?_ | refine rT ?_ | refine rS ?_); first | done | (rw [wordF_bad hs (i := i) (hbad.2 (by simp_all))]))
        | (exact ⟨i + 1, ⟨by omega, fun j hj => by rcases Nat.lt_succ_iff_lt_or_eq.1 hj with h | h; exact hi2 j h; subst h; rw [hbad]; simp_all⟩, by omega, weak_of' (by rfl) rfl ⟨(by kernel_rfl), (by kernel_rfl), trivial⟩⟩)
        | fail)
    · have hd := decL_high hc h8
      obtain ⟨r, n, hrn⟩ : ∃ r n, decL s i = (r, n) := ⟨_, _, rfl⟩
      rw [hrn] at hd
      have hb : badAt s i := hbad.2 ⟨by simp [letterF]; omega, .inr ⟨by simp [digitF]; omega, by omega⟩⟩
      have hr1 : letterF r = false := by simp [letterF]; simp at hd; omega
      have hr2 : digitF r = false := by simp [digitF]; simp at hd; omega
      have hr3 : (r : Int) ≠ 95 := by simp at hd; omega
      repeat' (first
        | refine Run.region ?_
        | refine Run.seq ?_
        | ((refine oB (frz := []) Et_ok (fun h => ?_) (fun h => ?_)) <;> (first | (exfalso; simp at h <;> fail) | (exfalso; simp at h; omega) | skip))
        | ((refine eB (fun h => ?_) (fun h => ?_)) <;> (first | (exfalso; simp at h <;> fail) | (exfalso; simp at h; omega) | skip))
        | refine oX (frz := []) Et_ok ?_
        | refine oS ?_
        | refine RunOps.nil ?_
        | refine Run.skip ?_
        | refine cT ?_
        | refine cF ?_
        | refine Run.block ?_
        | refine Run.exit ?_
        | refine Run.draw (frz := []) Et_ok (by kernel_rfl) ?_
        | refine eX ?_
        | refine eS ?_
        | refine eN ?_
        | refine RunOps.next Et_ok (by rfl) (by rfl) (by rfl) hlt hrn (by rfl) (by rfl) (by rfl) ?_
        | ((refine oK (letter _) (fun h => ?_) (fun h => ?_)) <;> (first | (exfalso; simp at h <;> fail) | (exfalso; simp at h; omega) | skip))
        | refine oC (letter _) ?_
        | ((refine eK (letter _) (fun h => ?_) (fun h => ?_)) <;> (first | (exfalso; simp at h <;> fail) | (exfalso; simp at h; omega) | skip))
        | refine eC (letter _) ?_
        | ((refine oK (digit _) (fun h => ?_) (fun h => ?_)) <;> (first | (exfalso; simp at h <;> fail) | (exfalso; simp at h; omega) | skip))
        | refine oC (digit _) ?_
        | ((refine eK (digit _) (fun h => ?_) (fun h => ?_)) <;> (first | (exfalso; simp at h <;> fail) | (exfalso; simp at h; omega) | skip))
        | refine eC (digit _) ?_
        | (refine Run.ret ?_; (first | refine rB ?_ | refine rI ?_ | refine rA ?_ | refine rII ?_ | refine rSI ?_ | refine rT ?_ | refine rS ?_); first | done | (rw [wordF_bad hs (i := i) hb]))
        | (exfalso; simp_all)
        | fail)
  · have hge : i = s.length := by omega
    have hall : ∀ j, ¬ badAt s j := fun j hj => by
      by_cases hlt : j < i
      · exact hi2 j hlt hj
      · obtain ⟨c, h1, _⟩ := hj
        rw [List.getElem?_eq_none (by omega)] at h1; cases h1
    repeat' (first
      | refine Run.region ?_
      | refine Run.seq ?_
      | ((refine oB (frz := []) Et_ok (fun h => ?_) (fun h => ?_)) <;> (first | (exfalso; simp at h <;> fail) | (exfalso; simp at h; omega) | skip))
      | ((refine eB (fun h => ?_) (fun h => ?_)) <;> (first | (exfalso; simp at h <;> fail) | (exfalso; simp at h; omega) | skip))
      | refine oX (frz := []) Et_ok ?_
      | refine oS ?_
      | refine RunOps.nil ?_
      | refine Run.skip ?_
      | refine cT ?_
      | refine cF ?_
      | refine Run.block ?_
      | refine Run.exit ?_
      | refine Run.draw (frz := []) Et_ok (by kernel_rfl) ?_
      | refine eX ?_
      | refine eS ?_
      | refine eN ?_
      | refine RunOps.nextEnd Et_ok (by rfl) (by rfl) (by rfl) (Nat.le_of_eq hge.symm) (by rfl) (by rfl) ?_
      | (refine Run.ret ?_; (first | refine rB ?_ | refine rI ?_ | refine rA ?_ | refine rII ?_ | refine rSI ?_ | refine rT ?_ | refine rS ?_); first | done | (rw [wordF_good hs hall]; first | (simp_all [] <;> fail) | (simp_all []; omega)))
      | fail)
theorem refCheck03 (s : List Nat) (hl : s.length ≤ 1099511627776) : KnownCall Try.prog 94 [.str s] (.d (.int .i64 (nameF s))) := by
  refine knownE Et_ok (fnAt Try.func94 (by kernel_rfl) (by kernel_rfl) : FnAt _ _ (mkFn Try.f94 [])) ?_
  repeat' (first
    | refine Run.region ?_
    | refine Run.seq ?_
    | ((refine oB (frz := []) Et_ok (fun h => ?_) (fun h => ?_)) <;> (first | (exfalso; simp at h <;> fail) | (exfalso; simp at h; omega) | skip))
    | ((refine eB (fun h => ?_) (fun h => ?_)) <;> (first | (exfalso; simp at h <;> fail) | (exfalso; simp at h; omega) | skip))
    | refine oX (frz := []) Et_ok ?_
    | refine oS ?_
    | refine RunOps.nil ?_
    | refine Run.skip ?_
    | refine cT ?_
    | refine cF ?_
    | refine Run.block ?_
    | refine Run.exit ?_
    | refine Run.draw (frz := []) Et_ok (by kernel_rfl) ?_
    | refine eX ?_
    | refine eS ?_
    | refine eN ?_
    | ((refine oK (refWord _ hl) (fun h => ?_) (fun h => ?_)) <;> (first | (exfalso; simp at h <;> fail) | (exfalso; simp at h; omega) | skip))
    | refine oC (refWord _ hl) ?_
    | ((refine eK (refWord _ hl) (fun h => ?_) (fun h => ?_)) <;> (first | (exfalso; simp at h <;> fail) | (exfalso; simp at h; omega) | skip))
    | refine eC (refWord _ hl) ?_
    | ((refine oK (refLanguage _) (fun h => ?_) (fun h => ?_)) <;> (first | (exfalso; simp at h <;> fail) | (exfalso; simp at h; omega) | skip))
    | refine oC (refLanguage _) ?_
    | ((refine eK (refLanguage _) (fun h => ?_) (fun h => ?_)) <;> (first | (exfalso; simp at h <;> fail) | (exfalso; simp at h; omega) | skip))
    | refine eC (refLanguage _) ?_
    | (refine Run.ret ?_; (first | refine rB ?_ | refine rI ?_ | refine rA ?_ | refine rII ?_ | refine rSI ?_ | refine rT ?_ | refine rS ?_); first | done | (first | (simp_all [nameF] <;> fail) | (simp_all [nameF]; omega)))
    | fail)
end Go.Av
end
noncomputable section
namespace Go.Av
open Go Go.Proofs
set_option maxRecDepth 10000
theorem all_succ {p : Nat → Prop} {i : Nat} (h : ∀ j, j < i → p j) (h' : p i) : ∀ j, j < i + 1 → p j := fun j hj => by
  rcases Nat.lt_succ_iff_lt_or_eq.1 hj with h1 | h1
  · exact h j h1
  · exact h1 ▸ h'
def findF (l : List (List Nat)) (s : List Nat) : Int := if s ∈ l then (l.idxOf s : Nat) else -1
theorem findF_at {l : List (List Nat)} {s : List Nat} {i : Nat} (h : l[i]? = some s) (hb : ∀ j, j < i → l[j]? ≠ some s) : findF l s = i := by
  have hm : s ∈ l := List.mem_of_getElem? h
  have hi : i < l.length := (List.getElem?_eq_some_iff.1 h).1
  have h1 : l.idxOf s < l.length := List.idxOf_lt_length_iff.2 hm
  have h2 : l[l.idxOf s]? = some s := by rw [List.getElem?_eq_getElem h1, List.getElem_idxOf h1]
  have h3 : ¬ l.idxOf s < i := fun hlt => hb _ hlt h2
  have h4 : ¬ i < l.idxOf s := fun hlt => by
    have := List.not_of_lt_findIdx hlt
    have e : l[i] = s := (List.getElem?_eq_some_iff.1 h).2
    simp [e] at this
  rw [findF, if_pos hm]; omega
theorem findF_none {l : List (List Nat)} {s : List Nat} (hb : ∀ j, j < l.length → l[j]? ≠ some s) : findF l s = -1 := by
  rw [findF, if_neg]
  intro hm
  obtain ⟨i, hi, e⟩ := List.getElem_of_mem hm
  exact hb i hi (by rw [List.getElem?_eq_getElem hi, e])
theorem refFind (l : List (List Nat)) (s : List Nat) (hl : l.length ≤ 1099511627776) : KnownCall Try.prog 58 [strs l, .str s] (.d (.int .i64 (findF l s))) := by
  refine knownE Et_ok (fnAt Try.func58 (by kernel_rfl) (by kernel_rfl) : FnAt _ _ (mkFn Try.f58 [])) ?_
  repeat' (first
    | refine Run.region ?_
    | refine Run.seq ?_
    | ((refine oB (frz := []) Et_ok (fun h => ?_) (fun h => ?_)) <;> (first | (exfalso; simp at h <;> fail) | (exfalso; simp at h; omega) | skip))
    | ((refine eB (fun h => ?_) (fun h => ?_)) <;> (first | (exfalso; simp at h <;> fail) | (exfalso; simp at h; omega) | skip))
    | refine oX (frz := []) Et_ok ?_
    | refine oS ?_
    | refine RunOps.nil ?_
    | refine Run.skip ?_
    | refine cT ?_
    | refine cF ?_
    | refine Run.block ?_
    | refine Run.exit ?_
    | refine Run.draw (frz := []) Et_ok (by kernel_rfl) ?_
    | refine eX ?_
    | refine eS ?_
    | refine eN ?_
    | (refine Run.ret ?_; (first | refine rB ?_ | refine rI ?_ | refine rA ?_ | refine rII ?_ | refine rSI ?_ | refine rT ?_ | refine rS ?_); first | done | (skip))
    | fail)
  refine Run.loop (fun i : Nat => ⟨PT.ofList [ (0, .d (strs l)), (1, .d (.str s)), (5, .d (.int .i64 i))], [], []⟩) (fun i => i ≤ l.length ∧ ∀ j, j < i → l[j]? ≠ some s) (fun i => l.length - i) 0 ⟨Nat.zero_le _, fun j hj => by omega⟩ (weak_of (by repeat' (first | exact trivial | refine ⟨rfl, ?_⟩))) (fun i hi => ?_)
  obtain ⟨hi1, hi2⟩ := hi
  rcases Nat.lt_or_ge i l.length with hlt | hge
  · obtain ⟨x, hx⟩ := get_ok hlt
    repeat' (first
      | refine Run.region ?_
      | refine Run.seq ?_
      | ((refine oB (frz := []) Et_ok (fun h => ?_) (fun h => ?_)) <;> (first | (exfalso; simp at h <;> fail) | (exfalso; simp at h; omega) | skip))
      | ((refine eB (fun h => ?_) (fun h => ?_)) <;> (first | (exfalso; simp at h <;> fail) | (exfalso; simp at h; omega) | skip))
      | refine oX (frz := []) Et_ok ?_
      | refine oS ?_
      | refine RunOps.nil ?_
      | refine Run.skip ?_
      | refine cT ?_
      | refine cF ?_
      | refine Run.block ?_
      | refine Run.exit ?_
      | refine Run.draw (frz := []) Et_ok (by kernel_rfl) ?_
      | refine eX ?_
      | refine eS ?_
      | refine eN ?_
      | refine oX (frz := []) (v := .d (.ep [.str x])) Et_ok ?_ (hf := (by first | (simp [inB] <;> fail) | (simp [inB]; omega))) (he := (by first | (simp [List.getD_eq_getElem?_getD, cellsD, hx] <;> fail) | fail))
      | refine eX (v := .d (.ep [.str x])) ?_ (hf := (by first | (simp [inB] <;> fail) | (simp [inB]; omega))) (he := (by first | (simp [List.getD_eq_getElem?_getD, cellsD, hx] <;> fail) | fail))
      | (refine Run.ret ?_; (first | refine rB ?_ | refine rI ?_ | refine rA ?_ | refine rII ?_ | refine rSI ?_ | refine rT ?_ | refine rS ?_); first | done | (rw [findF_at (i := i) (by simp_all) hi2]))
      | (exact ⟨i + 1, ⟨by omega, all_succ hi2 (by rw [hx]; intro e; simp_all)⟩, by omega, weak_of (by repeat' (first | exact trivial | refine ⟨rfl, ?_⟩ | refine ⟨(inc_get (k := i) (by kernel_rfl) (by omega)), ?_⟩))⟩)
      | fail)
  · have hge : i = l.length := by omega
    repeat' (first
      | refine Run.region ?_
      | refine Run.seq ?_
      | ((refine oB (frz := []) Et_ok (fun h => ?_) (fun h => ?_)) <;> (first | (exfalso; simp at h <;> fail) | (exfalso; simp at h; omega) | skip))
      | ((refine eB (fun h => ?_) (fun h => ?_)) <;> (first | (exfalso; simp at h <;> fail) | (exfalso; simp at h; omega) | skip))
      | refine oX (frz := []) Et_ok ?_
      | refine oS ?_
      | refine RunOps.nil ?_
      | refine Run.skip ?_
      | refine cT ?_
      | refine cF ?_
      | refine Run.block ?_
      | refine Run.exit ?_
      | refine Run.draw (frz := []) Et_ok (by kernel_rfl) ?_
      | refine eX ?_
      | refine eS ?_
      | refine eN ?_
      | (refine Run.ret ?_; (first | refine rB ?_ | refine rI ?_ | refine rA ?_ | refine rII ?_ | refine rSI ?_ | refine rT ?_ | refine rS ?_); first | done | (rw [findF_none (fun j hj => hi2 j (by omega))]))
      | fail)
theorem index (l : List (List Nat)) (s : List Nat) (hl : l.length ≤ 1099511627776) : KnownCall Try.prog 36 [strs l, .str s] (.d (.int .i64 (findF l s))) := by
  refine knownE Et_ok (fnAt Try.func36 (by kernel_rfl) (by kernel_rfl) : FnAt _ _ (mkFn Try.f36 [])) ?_
  repeat' (first
    | refine Run.region ?_
    | refine Run.seq ?_
    | ((refine oB (frz := []) Et_ok (fun h => ?_) (fun h => ?_)) <;> (first | (exfalso; simp at h <;> fail) | (exfalso; simp at h; omega) | skip))
    | ((refine eB (fun h => ?_) (fun h => ?_)) <;> (first | (exfalso; simp at h <;> fail) | (exfalso; simp at h; omega) | skip))
    | refine oX (frz := []) Et_ok ?_
    | refine oS ?_
    | refine RunOps.nil ?_
    | refine Run.skip ?_
    | refine cT ?_
    | refine cF ?_
    | refine Run.block ?_
    | refine Run.exit ?_
    | refine Run.draw (frz := []) Et_ok (by kernel_rfl) ?_
    | refine eX ?_
    | refine eS ?_
    | refine eN ?_
    | (refine Run.ret ?_; (first | refine rB ?_ | refine rI ?_ | refine rA ?_ | refine rII ?_ | refine rSI ?_ | refine rT ?_ | refine rS ?_); first | done | (skip))
    | fail)
  refine Run.loop (fun i : Nat => ⟨PT.ofList [(7, .d (.int .i64 ((l.map DV.str).length : Nat))), (0, .d (strs l)), (1, .d (.str s)), (8, .d (.int .i64 i))], [], []⟩) (fun i => i ≤ l.length ∧ ∀ j, j < i → l[j]? ≠ some s) (fun i => l.length - i) 0 ⟨Nat.zero_le _, fun j hj => by omega⟩ (weak_of (by repeat' (first | exact trivial | refine ⟨rfl, ?_⟩))) (fun i hi => ?_)
  obtain ⟨hi1, hi2⟩ := hi
  rcases Nat.lt_or_ge i l.length with hlt | hge
  · obtain ⟨x, hx⟩ := get_ok hlt
    repeat' (first
      | refine Run.region ?_
      | refine Run.seq ?_
      | ((refine oB (frz := []) Et_ok (fun h => ?_) (fun h => ?_)) <;> (first | (exfalso; simp at h <;> fail) | (exfalso; simp at h; omega) | skip))
      | ((refine eB (fun h => ?_) (fun h => ?_)) <;> (first | (exfalso; simp at h <;> fail) | (exfalso; simp at h; omega) | skip))
      | refine oX (frz := []) Et_ok ?_
      | refine oS ?_
      | refine RunOps.nil ?_
      | refine Run.skip ?_
      | refine cT ?_
      | refine cF ?_
      | refine Run.block ?_
      | refine Run.exit ?_
      | refine Run.draw (frz := []) Et_ok (by kernel_rfl) ?_
      | refine eX ?_
      | refine eS ?_
      | refine eN ?_
      | refine oX (frz := []) (v := .d (.ep [.str x])) Et_ok ?_ (hf := (by first | (simp [inB] <;> fail) | (simp [inB]; omega))) (he := (by first | (simp [List.getD_eq_getElem?_getD, cellsD, hx] <;> fail) | fail))
      | refine eX (v := .d (.ep [.str x])) ?_ (hf := (by first | (simp [inB] <;> fail) | (simp [inB]; omega))) (he := (by first | (simp [List.getD_eq_getElem?_getD, cellsD, hx] <;> fail) | fail))
      | (refine Run.ret ?_; (first | refine rB ?_ | refine rI ?_ | refine rA ?_ | refine rII ?_ | refine rSI ?_ | refine rT ?_ | refine rS ?_); first | done | (rw [findF_at (i := i) (by simp_all) hi2]))
      | (exact ⟨i + 1, ⟨by omega, all_succ hi2 (by rw [hx]; intro e; simp_all)⟩, by omega, weak_of (by repeat' (first | exact trivial | refine ⟨rfl, ?_⟩ | refine ⟨(inc_get (k := i) (by kernel_rfl) (by omega)), ?_⟩))⟩)
      | fail)
  · have hge : i = l.length := by omega
    repeat' (first
      | refine Run.region ?_
      | refine Run.seq ?_
      | ((refine oB (frz := []) Et_ok (fun h => ?_) (fun h => ?_)) <;> (first | (exfalso; simp at h <;> fail) | (exfalso; simp at h; omega) | skip))
      | ((refine eB (fun h => ?_) (fun h => ?_)) <;> (first | (exfalso; simp at h <;> fail) | (exfalso; simp at h; omega) | skip))
      | refine oX (frz := []) Et_ok ?_
      | refine oS ?_
      | refine RunOps.nil ?_
      | refine Run.skip ?_
      | refine cT ?_
      | refine cF ?_
      | refine Run.block ?_
      | refine Run.exit ?_
      | refine Run.draw (frz := []) Et_ok (by kernel_rfl) ?_
      | refine eX ?_
      | refine eS ?_
      | refine eN ?_
      | (refine Run.ret ?_; (first | refine rB ?_ | refine rI ?_ | refine rA ?_ | refine rII ?_ | refine rSI ?_ | refine rT ?_ | refine rS ?_); first | done | (rw [findF_none (fun j hj => hi2 j (by omega))]))
      | fail)
theorem contains (l : List (List Nat)) (s : List Nat) (hl : l.length ≤ 1099511627776) : KnownCall Try.prog 73 [strs l, .str s] (.d (.bool (decide (s ∈ l)))) := by
  refine knownE Et_ok (fnAt Try.func73 (by kernel_rfl) (by kernel_rfl) : FnAt _ _ (mkFn Try.f73 [])) ?_
  repeat' (first
    | refine Run.region ?_
    | refine Run.seq ?_
    | ((refine oB (frz := []) Et_ok (fun h => ?_) (fun h => ?_)) <;> (first | (exfalso; simp at h <;> fail) | (exfalso; simp at h; omega) | skip))
    | ((refine eB (fun h => ?_) (fun h => ?_)) <;> (first | (exfalso; simp at h <;> fail) | (exfalso; simp at h; omega) | skip))
    | refine oX (frz := []) Et_ok ?_
    | refine oS ?_
    | refine RunOps.nil ?_
    | refine Run.skip ?_
    | refine cT ?_
    | refine cF ?_
    | refine Run.block ?_
    | refine Run.exit ?_
    | refine Run.draw (frz := []) Et_ok (by kernel_rfl) ?_
    | refine eX ?_
    | refine eS ?_
    | refine eN ?_
    | ((refine oK (index _ _ hl) (fun h => ?_) (fun h => ?_)) <;> (first | (exfalso; simp at h <;> fail) | (exfalso; simp at h; omega) | skip))
    | refine oC (index _ _ hl) ?_
    | ((refine eK (index _ _ hl) (fun h => ?_) (fun h => ?_)) <;> (first | (exfalso; simp at h <;> fail) | (exfalso; simp at h; omega) | skip))
    | refine eC (index _ _ hl) ?_
    | (refine Run.ret ?_; (first | refine rB ?_ | refine rI ?_ | refine rA ?_ | refine rII ?_ | refine rSI ?_ | refine rT ?_ | refine rS ?_); first | done | (by_cases hm : s ∈ l <;> (first | (simp_all [findF] <;> fail) | (simp_all [findF]; omega))))
    | fail)
end Go.Av
end
noncomputable section
namespace Go.Av
open Go Go.Proofs
set_option maxRecDepth 10000
abbrev wordsA : List AV := [.d (.str wLook), .d (.str wToken), .d (.str wSep), .d (.str wStart)]
theorem indexW (s : List Nat) : ACall Try.prog 36 [.bs 0 0 4 4, .d (.str s)] [.box wordsA] (.d (.int .i64 (findF [wLook, wToken, wSep, wStart] s))) [.box wordsA] := by
  refine acall_of_run Et_ok (fnAt Try.func36 (by kernel_rfl) (by kernel_rfl) : FnAt _ _ (mkFn Try.f36 [])) rfl rfl ?_
  repeat' (first
    | refine Run.region ?_
    | refine Run.seq ?_
    | ((refine oB (frz := []) Et_ok (fun h => ?_) (fun h => ?_)) <;> (first | (exfalso; simp at h <;> fail) | (exfalso; simp at h; omega) | skip))
    | ((refine eB (fun h => ?_) (fun h => ?_)) <;> (first | (exfalso; simp at h <;> fail) | (exfalso; simp at h; omega) | skip))
    | refine oX (frz := []) Et_ok ?_
    | refine oS ?_
    | refine RunOps.nil ?_
    | refine Run.skip ?_
    | refine cT ?_
    | refine cF ?_
    | refine Run.block ?_
    | refine Run.exit ?_
    | refine Run.draw (frz := []) Et_ok (by kernel_rfl) ?_
    | refine eX ?_
    | refine eS ?_
    | refine eN ?_
    | (refine Run.ret ?_; (first | refine rB ?_ | refine rI ?_ | refine rA ?_ | refine rII ?_ | refine rSI ?_ | refine rT ?_ | refine rS ?_); first | done | (skip))
    | fail)
  refine Run.loop (fun i : Nat => ⟨PT.ofList [(0, .bs 0 0 4 4), (1, .d (.str s)), (7, .d (.int .i64 4)), (8, .d (.int .i64 i))], [.box wordsA], []⟩) (fun i => i ≤ 4 ∧ ∀ j, j < i → [wLook, wToken, wSep, wStart][j]? ≠ some s) (fun i => 4 - i) 0 ⟨Nat.zero_le _, fun j hj => by omega⟩ (weak_of (by repeat' (first | exact trivial | refine ⟨rfl, ?_⟩))) (fun i hi => ?_)
  obtain ⟨hi1, hi2⟩ := hi
  have hcase : i = 0 ∨ i = 1 ∨ i = 2 ∨ i = 3 ∨ i = 4 := by omega
  rcases hcase with h | h | h | h | h <;> subst h
  · repeat' (first
      | refine Run.region ?_
      | refine Run.seq ?_
      | ((refine oB (frz := []) Et_ok (fun h => ?_) (fun h => ?_)) <;> (first | (exfalso; simp at h <;> fail) | (exfalso; simp at h; omega) | skip))
      | ((refine eB (fun h => ?_) (fun h => ?_)) <;> (first | (exfalso; simp at h <;> fail) | (exfalso; simp at h; omega) | skip))
      | refine oX (frz := []) Et_ok ?_
      | refine oS ?_
      | refine RunOps.nil ?_
      | refine Run.skip ?_
      | refine cT ?_
      | refine cF ?_
      | refine Run.block ?_
      | refine Run.exit ?_
      | refine Run.draw (frz := []) Et_ok (by kernel_rfl) ?_
      | refine eX ?_
      | refine eS ?_
      | refine eN ?_
      | (refine Run.ret ?_; (first | refine rB ?_ | refine rI ?_ | refine rA ?_ | refine rII ?_ | refine rSI ?_ | refine rT ?_ | refine rS ?_); first | done | (skip))
      | (exact ⟨1, ⟨by omega, all_succ hi2 (fun e => by simp at e; subst e; simp at h)⟩, by omega, weak_of (by repeat' (first | exact trivial | refine ⟨rfl, ?_⟩))⟩)
      | fail)
    have hs : s = wLook := by simpa using h
    refine Run.ret ?_
    refine ⟨trivial, rfl, Eq.trans (b := some (.d (.int .i64 0))) (by rfl) ?_⟩
    rw [findF_at (i := 0) (by rw [hs]; rfl) hi2]; rfl
  · repeat' (first
      | refine Run.region ?_
      | refine Run.seq ?_
      | ((refine oB (frz := []) Et_ok (fun h => ?_) (fun h => ?_)) <;> (first | (exfalso; simp at h <;> fail) | (exfalso; simp at h; omega) | skip))
      | ((refine eB (fun h => ?_) (fun h => ?_)) <;> (first | (exfalso; simp at h <;> fail) | (exfalso; simp at h; omega) | skip))
      | refine oX (frz := []) Et_ok ?_
      | refine oS ?_
      | refine RunOps.nil ?_
      | refine Run.skip ?_
      | refine cT ?_
      | refine cF ?_
      | refine Run.block ?_
      | refine Run.exit ?_
      | refine Run.draw (frz := []) Et_ok (by kernel_rfl) ?_
      | refine eX ?_
      | refine eS ?_
      | refine eN ?_
      | (refine Run.ret ?_; (first | refine rB ?_ | refine rI ?_ | refine rA ?_ | refine rII ?_ | refine rSI ?_ | refine rT ?_ | refine rS ?_); first | done | (skip))
      | (exact ⟨2, ⟨by omega, all_succ hi2 (fun e => by simp at e; subst e; simp at h)⟩, by omega, weak_of (by repeat' (first | exact trivial | refine ⟨rfl, ?_⟩))⟩)
      | fail)
    have hs : s = wToken := by simpa using h
    refine Run.ret ?_
    refine ⟨trivial, rfl, Eq.trans (b := some (.d (.int .i64 1))) (by rfl) ?_⟩
    rw [findF_at (i := 1) (by rw [hs]; rfl) hi2]; rfl
  · repeat' (first
      | refine Run.region ?_
      | refine Run.seq ?_
      | ((refine oB (frz := []) Et_ok (fun h => ?_) (fun h => ?_)) <;> (first | (exfalso; simp at h <;> fail) | (exfalso; simp at h; omega) | skip))
      | ((refine eB (fun h => ?_) (fun h => ?_)) <;> (first | (exfalso; simp at h <;> fail) | (exfalso; simp at h; omega) | skip))
      | refine oX (frz := []) Et_ok ?_
      | refine oS ?_
      | refine RunOps.nil ?_
      | refine Run.skip ?_
      | refine cT ?_
      | refine cF ?_
      | refine Run.block ?_
      | refine Run.exit ?_
      | refine Run.draw (frz := []) Et_ok (by kernel_rfl) ?_
      | refine eX ?_
      | refine eS ?_
      | refine eN ?_
      | (refine Run.ret ?_; (first | refine rB ?_ | refine rI ?_ | refine rA ?_ | refine rII ?_ | refine rSI ?_ | refine rT ?_ | refine rS ?_); first | done | (skip))
      | (exact ⟨3, ⟨by omega, all_succ hi2 (fun e => by simp at e; subst e; simp at h)⟩, by omega, weak_of (by repeat' (first | exact trivial | refine ⟨rfl, ?_⟩))⟩)
      | fail)
    have hs : s = wSep := by simpa using h
    refine Run.ret ?_
    refine ⟨trivial, rfl, Eq.trans (b := some (.d (.int .i64 2))) (by rfl) ?_⟩
    rw [findF_at (i := 2) (by rw [hs]; rfl) hi2]; rfl
  · repeat' (first
      | refine Run.region ?_
      | refine Run.seq ?_
      | ((refine oB (frz := []) Et_ok (fun h => ?_) (fun h => ?_)) <;> (first | (exfalso; simp at h <;> fail) | (exfalso; simp at h; omega) | skip))
      | ((refine eB (fun h => ?_) (fun h => ?_)) <;> (first | (exfalso; simp at h <;> fail) | (exfalso; simp at h; omega) | skip))
      | refine oX (frz := []) Et_ok ?_
      | refine oS ?_
      | refine RunOps.nil ?_
      | refine Run.skip ?_
      | refine cT ?_
      | refine cF ?_
      | refine Run.block ?_
      | refine Run.exit ?_
      | refine Run.draw (frz := []) Et_ok (by kernel_rfl) ?_
      | refine eX ?_
      | refine eS ?_
      | refine eN ?_
      | (refine Run.ret ?_; (first | refine rB ?_ | refine rI ?_ | refine rA ?_ | refine rII ?_ | refine rSI ?_ | refine rT ?_ | refine rS ?_); first | done | (skip))
      | (exact ⟨4, ⟨by omega, all_succ hi2 (fun e => by simp at e; subst e; simp at h)⟩, by omega, weak_of (by repeat' (first | exact trivial | refine ⟨rfl, ?_⟩))⟩)
      | fail)
    have hs : s = wStart := by simpa using h
    refine Run.ret ?_
    refine ⟨trivial, rfl, Eq.trans (b := some (.d (.int .i64 3))) (by rfl) ?_⟩
    rw [findF_at (i := 3) (by rw [hs]; rfl) hi2]; rfl
  · repeat' (first
      | refine Run.region ?_
      | refine Run.seq ?_
      | ((refine oB (frz := []) Et_ok (fun h => ?_) (fun h => ?_)) <;> (first | (exfalso; simp at h <;> fail) | (exfalso; simp at h; omega) | skip))
      | ((refine eB (fun h => ?_) (fun h => ?_)) <;> (first | (exfalso; simp at h <;> fail) | (exfalso; simp at h; omega) | skip))
      | refine oX (frz := []) Et_ok ?_
      | refine oS ?_
      | refine RunOps.nil ?_
      | refine Run.skip ?_
      | refine cT ?_
      | refine cF ?_
      | refine Run.block ?_
      | refine Run.exit ?_
      | refine Run.draw (frz := []) Et_ok (by kernel_rfl) ?_
      | refine eX ?_
      | refine eS ?_
      | refine eN ?_
      | (refine Run.ret ?_; (first | refine rB ?_ | refine rI ?_ | refine rA ?_ | refine rII ?_ | refine rSI ?_ | refine rT ?_ | refine rS ?_); first | done | (skip))
      | fail)
    refine Run.ret ?_
    refine ⟨trivial, rfl, Eq.trans (b := some (.d (.int .i64 (-1)))) (by rfl) ?_⟩
    rw [findF_none (l := [wLook, wToken, wSep, wStart]) hi2]
theorem containsW (s : List Nat) : ACall Try.prog 73 [.bs 0 0 4 4, .d (.str s)] [.box wordsA] (.d (.bool (languageF s))) [.box wordsA] := by
  refine acall_of_run Et_ok (fnAt Try.func73 (by kernel_rfl) (by kernel_rfl) : FnAt _ _ (mkFn Try.f73 [])) rfl rfl ?_
  repeat (first
    | refine oX (frz := []) Et_ok ?_
    | refine oS ?_
    | refine RunOps.nil ?_
    | refine Run.region ?_
    | refine Run.seq ?_
    | refine Run.skip ?_
    | refine Run.block ?_
    | refine Run.exit ?_
    | refine Run.draw (frz := []) Et_ok (by kernel_rfl) ?_
    | refine eX ?_
    | refine eS ?_
    | refine eN ?_)
  refine RunOps.call (by rfl) (by rfl) (indexW s) (by rfl) (by rfl) ?_
  repeat (first
    | refine oX (frz := []) Et_ok ?_
    | refine oS ?_
    | refine RunOps.nil ?_
    | refine Run.region ?_
    | refine Run.seq ?_
    | refine Run.skip ?_
    | refine Run.block ?_
    | refine Run.exit ?_
    | refine Run.draw (frz := []) Et_ok (by kernel_rfl) ?_
    | refine eX ?_
    | refine eS ?_
    | refine eN ?_)
  refine Run.ret ?_
  refine ⟨trivial, rfl, Eq.trans (b := some (.d (.bool (decide (0 ≤ findF [wLook, wToken, wSep, wStart] s))))) (by kernel_rfl) ?_⟩
  by_cases hm : s ∈ [wLook, wToken, wSep, wStart]
  · simp only [findF, if_pos hm]; simp_all [languageF]
  · simp only [findF, if_neg hm]; simp_all [languageF]
theorem language (s : List Nat) : KnownCall Try.prog 96 [.str s] (.d (.bool (languageF s))) := by
  refine knownE Et_ok (fnAt Try.func96 (by kernel_rfl) (by kernel_rfl) : FnAt _ _ (mkFn Try.f96 [])) ?_
  repeat (first
    | refine oX (frz := []) Et_ok ?_
    | refine oS ?_
    | refine RunOps.nil ?_
    | refine Run.region ?_
    | refine Run.seq ?_
    | refine Run.skip ?_
    | refine Run.block ?_
    | refine Run.exit ?_
    | refine Run.draw (frz := []) Et_ok (by kernel_rfl) ?_
    | refine eX ?_
    | refine eS ?_
    | refine eN ?_)
  refine RunOps.call (by rfl) (by rfl) (containsW s) (by rfl) (by rfl) ?_
  repeat' (first
    | refine Run.region ?_
    | refine Run.seq ?_
    | ((refine oB (frz := []) Et_ok (fun h => ?_) (fun h => ?_)) <;> (first | (exfalso; simp at h <;> fail) | (exfalso; simp at h; omega) | skip))
    | ((refine eB (fun h => ?_) (fun h => ?_)) <;> (first | (exfalso; simp at h <;> fail) | (exfalso; simp at h; omega) | skip))
    | refine oX (frz := []) Et_ok ?_
    | refine oS ?_
    | refine RunOps.nil ?_
    | refine Run.skip ?_
    | refine cT ?_
    | refine cF ?_
    | refine Run.block ?_
    | refine Run.exit ?_
    | refine Run.draw (frz := []) Et_ok (by kernel_rfl) ?_
    | refine eX ?_
    | refine eS ?_
    | refine eN ?_
    | (refine Run.ret ?_; (first | refine rB ?_ | refine rI ?_ | refine rA ?_ | refine rII ?_ | refine rSI ?_ | refine rT ?_ | refine rS ?_); first | done | (rfl))
    | fail)
theorem check03 (s : List Nat) (hl : s.length ≤ 1099511627776) : KnownCall Try.prog 86 [.str s] (.d (.int .i64 (nameF s))) := by
  refine knownE Et_ok (fnAt Try.func86 (by kernel_rfl) (by kernel_rfl) : FnAt _ _ (mkFn Try.f86 [])) ?_
  repeat' (first
    | refine Run.region ?_
    | refine Run.seq ?_
    | ((refine oB (frz := []) Et_ok (fun h => ?_) (fun h => ?_)) <;> (first | (exfalso; simp at h <;> fail) | (exfalso; simp at h; omega) | skip))
    | ((refine eB (fun h => ?_) (fun h => ?_)) <;> (first | (exfalso; simp at h <;> fail) | (exfalso; simp at h; omega) | skip))
    | refine oX (frz := []) Et_ok ?_
    | refine oS ?_
    | refine RunOps.nil ?_
    | refine Run.skip ?_
    | refine cT ?_
    | refine cF ?_
    | refine Run.block ?_
    | refine Run.exit ?_
    | refine Run.draw (frz := []) Et_ok (by kernel_rfl) ?_
    | refine eX ?_
    | refine eS ?_
    | refine eN ?_
    | ((refine oK (word _ hl) (fun h => ?_) (fun h => ?_)) <;> (first | (exfalso; simp at h <;> fail) | (exfalso; simp at h; omega) | skip))
    | refine oC (word _ hl) ?_
    | ((refine eK (word _ hl) (fun h => ?_) (fun h => ?_)) <;> (first | (exfalso; simp at h <;> fail) | (exfalso; simp at h; omega) | skip))
    | refine eC (word _ hl) ?_
    | ((refine oK (language _) (fun h => ?_) (fun h => ?_)) <;> (first | (exfalso; simp at h <;> fail) | (exfalso; simp at h; omega) | skip))
    | refine oC (language _) ?_
    | ((refine eK (language _) (fun h => ?_) (fun h => ?_)) <;> (first | (exfalso; simp at h <;> fail) | (exfalso; simp at h; omega) | skip))
    | refine eC (language _) ?_
    | (refine Run.ret ?_; (first | refine rB ?_ | refine rI ?_ | refine rA ?_ | refine rII ?_ | refine rSI ?_ | refine rT ?_ | refine rS ?_); first | done | (first | (simp_all [nameF] <;> fail) | (simp_all [nameF]; omega)))
    | fail)
def smallF (s : List Nat) : Bool := decide (nameF s = 0) && decide (97 ≤ s.getD 0 0)
def capitalF (s : List Nat) : Bool := decide (nameF s = 0) && decide (s.getD 0 0 < 97)
theorem name_first {s : List Nat} (h : nameF s = 0) : ∃ c : Nat, s[0]? = some c ∧ letterF c = true := by
  have hw : wordF s = 0 := by
    unfold nameF at h
    split at h
    · omega
    · exact h
  have hs : s ≠ [] := fun e => by simp [wordF, e] at hw
  obtain ⟨c, hc⟩ := get_ok (l := s) (i := 0) (List.length_pos_iff.2 hs)
  refine ⟨c, hc, ?_⟩
  cases hl : letterF c with
  | true => rfl
  | false => rw [wordF_bad hs ⟨c, hc, hl, .inl rfl⟩] at hw; omega
theorem letter_range {c : Nat} (h : letterF c = true) : (97 ≤ c ∧ c ≤ 122) ∨ (65 ≤ c ∧ c ≤ 90) := by simp [letterF] at h; omega
theorem refSmall (s : List Nat) (hl : s.length ≤ 1099511627776) : KnownCall Try.prog 82 [.str s] (.d (.bool (smallF s))) := by
  refine knownE Et_ok (fnAt Try.func82 (by kernel_rfl) (by kernel_rfl) : FnAt _ _ (mkFn Try.f82 [])) ?_
  by_cases h0 : nameF s = 0
  · obtain ⟨c, hc, hlet⟩ := name_first h0
    have hr := letter_range hlet
    have hlt : 0 < s.length := (List.getElem?_eq_some_iff.1 hc).1
    have hg : s.getD 0 0 = c := by simp [List.getD_eq_getElem?_getD, hc]
    repeat' (first
      | refine Run.region ?_
      | refine Run.seq ?_
      | ((refine oB (frz := []) Et_ok (fun h => ?_) (fun h => ?_)) <;> (first | (exfalso; simp at h <;> fail) | (exfalso; simp at h; omega) | skip))
      | ((refine eB (fun h => ?_) (fun h => ?_)) <;> (first | (exfalso; simp at h <;> fail) | (exfalso; simp at h; omega) | skip))
      | refine oX (frz := []) Et_ok ?_
      | refine oS ?_
      | refine RunOps.nil ?_
      | refine Run.skip ?_
      | refine cT ?_
      | refine cF ?_
      | refine Run.block ?_
      | refine Run.exit ?_
      | refine Run.draw (frz := []) Et_ok (by kernel_rfl) ?_
      | refine eX ?_
      | refine eS ?_
      | refine eN ?_
      | ((refine oK (refCheck03 _ hl) (fun h => ?_) (fun h => ?_)) <;> (first | (exfalso; simp at h <;> fail) | (exfalso; simp at h; omega) | skip))
      | refine oC (refCheck03 _ hl) ?_
      | ((refine eK (refCheck03 _ hl) (fun h => ?_) (fun h => ?_)) <;> (first | (exfalso; simp at h <;> fail) | (exfalso; simp at h; omega) | skip))
      | refine eC (refCheck03 _ hl) ?_
      | refine oX (frz := []) (v := .d (.int .u8 c)) Et_ok ?_ (hf := (by first | (simp [inB] <;> fail) | (simp [inB]; omega))) (he := (by first | (simp [List.getD_eq_getElem?_getD, cellsD, hc] <;> fail) | fail))
      | refine eX (v := .d (.int .u8 c)) ?_ (hf := (by first | (simp [inB] <;> fail) | (simp [inB]; omega))) (he := (by first | (simp [List.getD_eq_getElem?_getD, cellsD, hc] <;> fail) | fail))
      | (refine Run.ret ?_; (first | refine rB ?_ | refine rI ?_ | refine rA ?_ | refine rII ?_ | refine rSI ?_ | refine rT ?_ | refine rS ?_); first | done | (first | (simp_all [smallF] <;> fail) | (simp_all [smallF]; omega)))
      | fail)
  · repeat' (first
      | refine Run.region ?_
      | refine Run.seq ?_
      | ((refine oB (frz := []) Et_ok (fun h => ?_) (fun h => ?_)) <;> (first | (exfalso; simp at h <;> fail) | (exfalso; simp at h; omega) | skip))
      | ((refine eB (fun h => ?_) (fun h => ?_)) <;> (first | (exfalso; simp at h <;> fail) | (exfalso; simp at h; omega) | skip))
      | refine oX (frz := []) Et_ok ?_
      | refine oS ?_
      | refine RunOps.nil ?_
      | refine Run.skip ?_
      | refine cT ?_
      | refine cF ?_
      | refine Run.block ?_
      | refine Run.exit ?_
      | refine Run.draw (frz := []) Et_ok (by kernel_rfl) ?_
      | refine eX ?_
      | refine eS ?_
      | refine eN ?_
      | ((refine oK (refCheck03 _ hl) (fun h => ?_) (fun h => ?_)) <;> (first | (exfalso; simp at h <;> fail) | (exfalso; simp at h; omega) | skip))
      | refine oC (refCheck03 _ hl) ?_
      | ((refine eK (refCheck03 _ hl) (fun h => ?_) (fun h => ?_)) <;> (first | (exfalso; simp at h <;> fail) | (exfalso; simp at h; omega) | skip))
      | refine eC (refCheck03 _ hl) ?_
      | (refine Run.ret ?_; (first | refine rB ?_ | refine rI ?_ | refine rA ?_ | refine rII ?_ | refine rSI ?_ | refine rT ?_ | refine rS ?_); first | done | (first | (simp_all [smallF] <;> fail) | (simp_all [smallF]; omega)))
      | fail)
theorem small (s : List Nat) (hl : s.length ≤ 1099511627776) : KnownCall Try.prog 59 [.str s] (.d (.bool (smallF s))) := by
  refine knownE Et_ok (fnAt Try.func59 (by kernel_rfl) (by kernel_rfl) : FnAt _ _ (mkFn Try.f59 [])) ?_
  by_cases h0 : nameF s = 0
  · obtain ⟨c, hc, hlet⟩ := name_first h0
    have hr := letter_range hlet
    have hlt : 0 < s.length := (List.getElem?_eq_some_iff.1 hc).1
    have hg : s.getD 0 0 = c := by simp [List.getD_eq_getElem?_getD, hc]
    repeat' (first
      | refine Run.region ?_
      | refine Run.seq ?_
      | ((refine oB (frz := []) Et_ok (fun h => ?_) (fun h => ?_)) <;> (first | (exfalso; simp at h <;> fail) | (exfalso; simp at h; omega) | skip))
      | ((refine eB (fun h => ?_) (fun h => ?_)) <;> (first | (exfalso; simp at h <;> fail) | (exfalso; simp at h; omega) | skip))
      | refine oX (frz := []) Et_ok ?_
      | refine oS ?_
      | refine RunOps.nil ?_
      | refine Run.skip ?_
      | refine cT ?_
      | refine cF ?_
      | refine Run.block ?_
      | refine Run.exit ?_
      | refine Run.draw (frz := []) Et_ok (by kernel_rfl) ?_
      | refine eX ?_
      | refine eS ?_
      | refine eN ?_
      | ((refine oK (check03 _ hl) (fun h => ?_) (fun h => ?_)) <;> (first | (exfalso; simp at h <;> fail) | (exfalso; simp at h; omega) | skip))
      | refine oC (check03 _ hl) ?_
      | ((refine eK (check03 _ hl) (fun h => ?_) (fun h => ?_)) <;> (first | (exfalso; simp at h <;> fail) | (exfalso; simp at h; omega) | skip))
      | refine eC (check03 _ hl) ?_
      | refine oX (frz := []) (v := .d (.int .u8 c)) Et_ok ?_ (hf := (by first | (simp [inB] <;> fail) | (simp [inB]; omega))) (he := (by first | (simp [List.getD_eq_getElem?_getD, cellsD, hc] <;> fail) | fail))
      | refine eX (v := .d (.int .u8 c)) ?_ (hf := (by first | (simp [inB] <;> fail) | (simp [inB]; omega))) (he := (by first | (simp [List.getD_eq_getElem?_getD, cellsD, hc] <;> fail) | fail))
      | (refine Run.ret ?_; (first | refine rB ?_ | refine rI ?_ | refine rA ?_ | refine rII ?_ | refine rSI ?_ | refine rT ?_ | refine rS ?_); first | done | (first | (simp_all [smallF] <;> fail) | (simp_all [smallF]; omega)))
      | fail)
  · repeat' (first
      | refine Run.region ?_
      | refine Run.seq ?_
      | ((refine oB (frz := []) Et_ok (fun h => ?_) (fun h => ?_)) <;> (first | (exfalso; simp at h <;> fail) | (exfalso; simp at h; omega) | skip))
      | ((refine eB (fun h => ?_) (fun h => ?_)) <;> (first | (exfalso; simp at h <;> fail) | (exfalso; simp at h; omega) | skip))
      | refine oX (frz := []) Et_ok ?_
      | refine oS ?_
      | refine RunOps.nil ?_
      | refine Run.skip ?_
      | refine cT ?_
      | refine cF ?_
      | refine Run.block ?_
      | refine Run.exit ?_
      | refine Run.draw (frz := []) Et_ok (by kernel_rfl) ?_
      | refine eX ?_
      | refine eS ?_
      | refine eN ?_
      | ((refine oK (check03 _ hl) (fun h => ?_) (fun h => ?_)) <;> (first | (exfalso; simp at h <;> fail) | (exfalso; simp at h; omega) | skip))
      | refine oC (check03 _ hl) ?_
      | ((refine eK (check03 _ hl) (fun h => ?_) (fun h => ?_)) <;> (first | (exfalso; simp at h <;> fail) | (exfalso; simp at h; omega) | skip))
      | refine eC (check03 _ hl) ?_
      | (refine Run.ret ?_; (first | refine rB ?_ | refine rI ?_ | refine rA ?_ | refine rII ?_ | refine rSI ?_ | refine rT ?_ | refine rS ?_); first | done | (first | (simp_all [smallF] <;> fail) | (simp_all [smallF]; omega)))
      | fail)
theorem refCapital (s : List Nat) (hl : s.length ≤ 1099511627776) : KnownCall Try.prog 83 [.str s] (.d (.bool (capitalF s))) := by
  refine knownE Et_ok (fnAt Try.func83 (by kernel_rfl) (by kernel_rfl) : FnAt _ _ (mkFn Try.f83 [])) ?_
  by_cases h0 : nameF s = 0
  · obtain ⟨c, hc, hlet⟩ := name_first h0
    have hr := letter_range hlet
    have hlt : 0 < s.length := (List.getElem?_eq_some_iff.1 hc).1
    have hg : s.getD 0 0 = c := by simp [List.getD_eq_getElem?_getD, hc]
    repeat' (first
      | refine Run.region ?_
      | refine Run.seq ?_
      | ((refine oB (frz := []) Et_ok (fun h => ?_) (fun h => ?_)) <;> (first | (exfalso; simp at h <;> fail) | (exfalso; simp at h; omega) | skip))
      | ((refine eB (fun h => ?_) (fun h => ?_)) <;> (first | (exfalso; simp at h <;> fail) | (exfalso; simp at h; omega) | skip))
      | refine oX (frz := []) Et_ok ?_
      | refine oS ?_
      | refine RunOps.nil ?_
      | refine Run.skip ?_
      | refine cT ?_
      | refine cF ?_
      | refine Run.block ?_
      | refine Run.exit ?_
      | refine Run.draw (frz := []) Et_ok (by kernel_rfl) ?_
      | refine eX ?_
      | refine eS ?_
      | refine eN ?_
      | ((refine oK (refCheck03 _ hl) (fun h => ?_) (fun h => ?_)) <;> (first | (exfalso; simp at h <;> fail) | (exfalso; simp at h; omega) | skip))
      | refine oC (refCheck03 _ hl) ?_
      | ((refine eK (refCheck03 _ hl) (fun h => ?_) (fun h => ?_)) <;> (first | (exfalso; simp at h <;> fail) | (exfalso; simp at h; omega) | skip))
      | refine eC (refCheck03 _ hl) ?_
      | refine oX (frz := []) (v := .d (.int .u8 c)) Et_ok ?_ (hf := (by first | (simp [inB] <;> fail) | (simp [inB]; omega))) (he := (by first | (simp [List.getD_eq_getElem?_getD, cellsD, hc] <;> fail) | fail))
      | refine eX (v := .d (.int .u8 c)) ?_ (hf := (by first | (simp [inB] <;> fail) | (simp [inB]; omega))) (he := (by first | (simp [List.getD_eq_getElem?_getD, cellsD, hc] <;> fail) | fail))
      | (refine Run.ret ?_; (first | refine rB ?_ | refine rI ?_ | refine rA ?_ | refine rII ?_ | refine rSI ?_ | refine rT ?_ | refine rS ?_); first | done | (first | (simp_all [capitalF] <;> fail) | (simp_all [capitalF]; omega)))
      | fail)
  · repeat' (first
      | refine Run.region ?_
      | refine Run.seq ?_
      | ((refine oB (frz := []) Et_ok (fun h => ?_) (fun h => ?_)) <;> (first | (exfalso; simp at h <;> fail) | (exfalso; simp at h; omega) | skip))
      | ((refine eB (fun h => ?_) (fun h => ?_)) <;> (first | (exfalso; simp at h <;> fail) | (exfalso; simp at h; omega) | skip))
      | refine oX (frz := []) Et_ok ?_
      | refine oS ?_
      | refine RunOps.nil ?_
      | refine Run.skip ?_
      | refine cT ?_
      | refine cF ?_
      | refine Run.block ?_
      | refine Run.exit ?_
      | refine Run.draw (frz := []) Et_ok (by kernel_rfl) ?_
      | refine eX ?_
      | refine eS ?_
      | refine eN ?_
      | ((refine oK (refCheck03 _ hl) (fun h => ?_) (fun h => ?_)) <;> (first | (exfalso; simp at h <;> fail) | (exfalso; simp at h; omega) | skip))
      | refine oC (refCheck03 _ hl) ?_
      | ((refine eK (refCheck03 _ hl) (fun h => ?_) (fun h => ?_)) <;> (first | (exfalso; simp at h <;> fail) | (exfalso; simp at h; omega) | skip))
      | refine eC (refCheck03 _ hl) ?_
      | (refine Run.ret ?_; (first | refine rB ?_ | refine rI ?_ | refine rA ?_ | refine rII ?_ | refine rSI ?_ | refine rT ?_ | refine rS ?_); first | done | (first | (simp_all [capitalF] <;> fail) | (simp_all [capitalF]; omega)))
      | fail)
theorem capital (s : List Nat) (hl : s.length ≤ 1099511627776) : KnownCall Try.prog 60 [.str s] (.d (.bool (capitalF s))) := by
  refine knownE Et_ok (fnAt Try.func60 (by kernel_rfl) (by kernel_rfl) : FnAt _ _ (mkFn Try.f60 [])) ?_
  by_cases h0 : nameF s = 0
  · obtain ⟨c, hc, hlet⟩ := name_first h0
    have hr := letter_range hlet
    have hlt : 0 < s.length := (List.getElem?_eq_some_iff.1 hc).1
    have hg : s.getD 0 0 = c := by simp [List.getD_eq_getElem?_getD, hc]
    repeat' (first
      | refine Run.region ?_
      | refine Run.seq ?_
      | ((refine oB (frz := []) Et_ok (fun h => ?_) (fun h => ?_)) <;> (first | (exfalso; simp at h <;> fail) | (exfalso; simp at h; omega) | skip))
      | ((refine eB (fun h => ?_) (fun h => ?_)) <;> (first | (exfalso; simp at h <;> fail) | (exfalso; simp at h; omega) | skip))
      | refine oX (frz := []) Et_ok ?_
      | refine oS ?_
      | refine RunOps.nil ?_
      | refine Run.skip ?_
      | refine cT ?_
      | refine cF ?_
      | refine Run.block ?_
      | refine Run.exit ?_
      | refine Run.draw (frz := []) Et_ok (by kernel_rfl) ?_
      | refine eX ?_
      | refine eS ?_
      | refine eN ?_
      | ((refine oK (check03 _ hl) (fun h => ?_) (fun h => ?_)) <;> (first | (exfalso; simp at h <;> fail) | (exfalso; simp at h; omega) | skip))
      | refine oC (check03 _ hl) ?_
      | ((refine eK (check03 _ hl) (fun h => ?_) (fun h => ?_)) <;> (first | (exfalso; simp at h <;> fail) | (exfalso; simp at h; omega) | skip))
      | refine eC (check03 _ hl) ?_
      | refine oX (frz := []) (v := .d (.int .u8 c)) Et_ok ?_ (hf := (by first | (simp [inB] <;> fail) | (simp [inB]; omega))) (he := (by first | (simp [List.getD_eq_getElem?_getD, cellsD, hc] <;> fail) | fail))
      | refine eX (v := .d (.int .u8 c)) ?_ (hf := (by first | (simp [inB] <;> fail) | (simp [inB]; omega))) (he := (by first | (simp [List.getD_eq_getElem?_getD, cellsD, hc] <;> fail) | fail))
      | (refine Run.ret ?_; (first | refine rB ?_ | refine rI ?_ | refine rA ?_ | refine rII ?_ | refine rSI ?_ | refine rT ?_ | refine rS ?_); first | done | (first | (simp_all [capitalF] <;> fail) | (simp_all [capitalF]; omega)))
      | fail)
  · repeat' (first
      | refine Run.region ?_
      | refine Run.seq ?_
      | ((refine oB (frz := []) Et_ok (fun h => ?_) (fun h => ?_)) <;> (first | (exfalso; simp at h <;> fail) | (exfalso; simp at h; omega) | skip))
      | ((refine eB (fun h => ?_) (fun h => ?_)) <;> (first | (exfalso; simp at h <;> fail) | (exfalso; simp at h; omega) | skip))
      | refine oX (frz := []) Et_ok ?_
      | refine oS ?_
      | refine RunOps.nil ?_
      | refine Run.skip ?_
      | refine cT ?_
      | refine cF ?_
      | refine Run.block ?_
      | refine Run.exit ?_
      | refine Run.draw (frz := []) Et_ok (by kernel_rfl) ?_
      | refine eX ?_
      | refine eS ?_
      | refine eN ?_
      | ((refine oK (check03 _ hl) (fun h => ?_) (fun h => ?_)) <;> (first | (exfalso; simp at h <;> fail) | (exfalso; simp at h; omega) | skip))
      | refine oC (check03 _ hl) ?_
      | ((refine eK (check03 _ hl) (fun h => ?_) (fun h => ?_)) <;> (first | (exfalso; simp at h <;> fail) | (exfalso; simp at h; omega) | skip))
      | refine eC (check03 _ hl) ?_
      | (refine Run.ret ?_; (first | refine rB ?_ | refine rI ?_ | refine rA ?_ | refine rII ?_ | refine rSI ?_ | refine rT ?_ | refine rS ?_); first | done | (first | (simp_all [capitalF] <;> fail) | (simp_all [capitalF]; omega)))
      | fail)
end Go.Av
end
noncomputable section
namespace Go.Av
open Go Go.Proofs
set_option maxRecDepth 10000
def smalls (g : Gram) : List (List Nat) := g.tokens ++ [g.sep]
end Go.Av
end
noncomputable section
namespace Go.Av
open Go Go.Proofs
set_option maxRecDepth 10000
theorem slicesAll (ps : List GProd) : KnownCall Try.prog 57 [.sl 2 (ps.map encP)] (.d (allProdsF ps)) := by
  refine knownE Et_ok (fnAt Try.func57 (by kernel_rfl) (by kernel_rfl) : FnAt _ _ (mkFn Try.f57 [1])) ?_
  repeat (first
    | refine oX (frz := [1]) Et_ok ?_
    | refine oS ?_
    | refine RunOps.nil ?_
    | refine Run.region ?_
    | refine Run.seq ?_
    | refine Run.skip ?_
    | refine Run.block ?_
    | refine Run.exit ?_
    | refine Run.draw (frz := [1]) Et_ok (by kernel_rfl) ?_
    | refine eX ?_
    | refine eS ?_
    | refine eN ?_)
  refine Run.ret ?_
  refine ⟨trivial, _, _, by rfl, by rfl, Eq.trans (b := some (.d (allProdsF ps))) (by kernel_rfl) ?_⟩
  rfl
theorem prodsOf (g : Gram) : KnownCall Try.prog 34 [encG g] (.d (allProdsF g.prods)) := by
  refine knownE Et_ok (fnAt Try.func34 (by kernel_rfl) (by kernel_rfl) : FnAt _ _ (mkFn Try.f34 [1])) ?_
  repeat (first
    | refine oX (frz := [1]) Et_ok ?_
    | refine oS ?_
    | refine RunOps.nil ?_
    | refine Run.region ?_
    | refine Run.seq ?_
    | refine Run.skip ?_
    | refine Run.block ?_
    | refine Run.exit ?_
    | refine Run.draw (frz := [1]) Et_ok (by kernel_rfl) ?_
    | refine eX ?_
    | refine eS ?_
    | refine eN ?_)
  first | refine RunOps.call (by rfl) (by rfl) (slicesAll g.prods _) (by rfl) (by rfl) ?_ | refine EvD.call (by rfl) (by rfl) (by rfl) (slicesAll g.prods) (by rfl) (by rfl) ?_
  repeat (first
    | refine oX (frz := [1]) Et_ok ?_
    | refine oS ?_
    | refine RunOps.nil ?_
    | refine Run.region ?_
    | refine Run.seq ?_
    | refine Run.skip ?_
    | refine Run.block ?_
    | refine Run.exit ?_
    | refine Run.draw (frz := [1]) Et_ok (by kernel_rfl) ?_
    | refine eX ?_
    | refine eS ?_
    | refine eN ?_)
  refine Run.ret ?_
  refine ⟨trivial, _, _, by rfl, by rfl, Eq.trans (b := some (.d (allProdsF g.prods))) (by kernel_rfl) ?_⟩
  rfl
def manyF (g : Gram) : Int := if 8 < g.tokens.length ∨ 8 < g.names.length ∨ 24 < g.prods.length ∨ ∃ p ∈ g.prods, 6 < p.right.length then 6 else 0
theorem many (g : Gram) (hf : Fits g) : KnownCall Try.prog 43 [encG g] (.d (.int .i64 (manyF g))) := by
  refine knownE Et_ok (fnAt Try.func43 (by kernel_rfl) (by kernel_rfl) : FnAt _ _ (mkFn Try.f43 [1])) ?_
  refine Run.seq (Run.region ?_)
  iterate 2 (first | refine oX (frz := [1]) Et_ok ?_ | refine eX ?_)
  refine RunOps.nil ?_
  refine Run.seq (Run.seq (Run.region ?_))
  iterate 3 (first | refine oX (frz := [1]) Et_ok ?_ | refine eX ?_)
  by_cases h1 : 8 < g.tokens.length
  · first | refine oX (frz := [1]) (v := .d (.bool true)) Et_ok ?_ (he := (by simp; omega)) | refine eX (v := .d (.bool true)) ?_ (he := (by simp; omega))
    repeat (first
      | refine oX (frz := [1]) Et_ok ?_
      | refine oS ?_
      | refine RunOps.nil ?_
      | refine Run.region ?_
      | refine Run.seq ?_
      | refine Run.skip ?_
      | refine Run.block ?_
      | refine Run.exit ?_
      | refine Run.draw (frz := [1]) Et_ok (by kernel_rfl) ?_
      | refine eX ?_
      | refine eS ?_
      | refine eN ?_)
    refine Run.cond (b := true) (by rfl) (fun _ => ?_) (fun h => by cases h)
    repeat (first
      | refine oX (frz := [1]) Et_ok ?_
      | refine oS ?_
      | refine RunOps.nil ?_
      | refine Run.region ?_
      | refine Run.seq ?_
      | refine Run.skip ?_
      | refine Run.block ?_
      | refine Run.exit ?_
      | refine Run.draw (frz := [1]) Et_ok (by kernel_rfl) ?_
      | refine eX ?_
      | refine eS ?_
      | refine eN ?_)
    refine Run.ret ?_
    refine ⟨trivial, _, _, by rfl, by rfl, Eq.trans (b := some (.d (.int .i64 6))) (by kernel_rfl) ?_⟩
    simp [manyF, h1]
  · first | refine oX (frz := [1]) (v := .d (.bool false)) Et_ok ?_ (he := (by simp; omega)) | refine eX (v := .d (.bool false)) ?_ (he := (by simp; omega))
    iterate 4 (first | refine oX (frz := [1]) Et_ok ?_ | refine eX ?_)
    by_cases h2 : 8 < g.names.length
    · first | refine oX (frz := [1]) (v := .d (.bool true)) Et_ok ?_ (he := (by simp; omega)) | refine eX (v := .d (.bool true)) ?_ (he := (by simp; omega))
      repeat (first
        | refine oX (frz := [1]) Et_ok ?_
        | refine oS ?_
        | refine RunOps.nil ?_
        | refine Run.region ?_
        | refine Run.seq ?_
        | refine Run.skip ?_
        | refine Run.block ?_
        | refine Run.exit ?_
        | refine Run.draw (frz := [1]) Et_ok (by kernel_rfl) ?_
        | refine eX ?_
        | refine eS ?_
        | refine eN ?_)
      refine Run.cond (b := true) (by rfl) (fun _ => ?_) (fun h => by cases h)
      repeat (first
        | refine oX (frz := [1]) Et_ok ?_
        | refine oS ?_
        | refine RunOps.nil ?_
        | refine Run.region ?_
        | refine Run.seq ?_
        | refine Run.skip ?_
        | refine Run.block ?_
        | refine Run.exit ?_
        | refine Run.draw (frz := [1]) Et_ok (by kernel_rfl) ?_
        | refine eX ?_
        | refine eS ?_
        | refine eN ?_)
      refine Run.ret ?_
      refine ⟨trivial, _, _, by rfl, by rfl, Eq.trans (b := some (.d (.int .i64 6))) (by kernel_rfl) ?_⟩
      simp [manyF, h2]
    · first | refine oX (frz := [1]) (v := .d (.bool false)) Et_ok ?_ (he := (by simp; omega)) | refine eX (v := .d (.bool false)) ?_ (he := (by simp; omega))
      iterate 5 (first | refine oX (frz := [1]) Et_ok ?_ | refine eX ?_)
      by_cases h3 : 24 < g.prods.length
      · first | refine oX (frz := [1]) (v := .d (.bool true)) Et_ok ?_ (he := (by simp; omega)) | refine eX (v := .d (.bool true)) ?_ (he := (by simp; omega))
        repeat (first
          | refine oX (frz := [1]) Et_ok ?_
          | refine oS ?_
          | refine RunOps.nil ?_
          | refine Run.region ?_
          | refine Run.seq ?_
          | refine Run.skip ?_
          | refine Run.block ?_
          | refine Run.exit ?_
          | refine Run.draw (frz := [1]) Et_ok (by kernel_rfl) ?_
          | refine eX ?_
          | refine eS ?_
          | refine eN ?_)
        refine Run.cond (b := true) (by rfl) (fun _ => ?_) (fun h => by cases h)
        repeat (first
          | refine oX (frz := [1]) Et_ok ?_
          | refine oS ?_
          | refine RunOps.nil ?_
          | refine Run.region ?_
          | refine Run.seq ?_
          | refine Run.skip ?_
          | refine Run.block ?_
          | refine Run.exit ?_
          | refine Run.draw (frz := [1]) Et_ok (by kernel_rfl) ?_
          | refine eX ?_
          | refine eS ?_
          | refine eN ?_)
        refine Run.ret ?_
        refine ⟨trivial, _, _, by rfl, by rfl, Eq.trans (b := some (.d (.int .i64 6))) (by kernel_rfl) ?_⟩
        simp [manyF, h3]
      · first | refine oX (frz := [1]) (v := .d (.bool false)) Et_ok ?_ (he := (by simp; omega)) | refine eX (v := .d (.bool false)) ?_ (he := (by simp; omega))
        repeat (first
          | refine oX (frz := [1]) Et_ok ?_
          | refine oS ?_
          | refine RunOps.nil ?_
          | refine Run.region ?_
          | refine Run.seq ?_
          | refine Run.skip ?_
          | refine Run.block ?_
          | refine Run.exit ?_
          | refine Run.draw (frz := [1]) Et_ok (by kernel_rfl) ?_
          | refine eX ?_
          | refine eS ?_
          | refine eN ?_)
        refine Run.cond (b := false) (by rfl) (fun h => by cases h) (fun _ => ?_)
        repeat (first
          | refine oX (frz := [1]) Et_ok ?_
          | refine oS ?_
          | refine RunOps.nil ?_
          | refine Run.region ?_
          | refine Run.seq ?_
          | refine Run.skip ?_
          | refine Run.block ?_
          | refine Run.exit ?_
          | refine Run.draw (frz := [1]) Et_ok (by kernel_rfl) ?_
          | refine eX ?_
          | refine eS ?_
          | refine eN ?_)
        first | refine RunOps.call (by rfl) (by rfl) (prodsOf g _) (by rfl) (by rfl) ?_ | refine EvD.call (by rfl) (by rfl) (by rfl) (prodsOf g) (by rfl) (by rfl) ?_
        repeat (first
          | refine oX (frz := [1]) Et_ok ?_
          | refine oS ?_
          | refine RunOps.nil ?_
          | refine Run.region ?_
          | refine Run.seq ?_
          | refine Run.skip ?_
          | refine Run.block ?_
          | refine Run.exit ?_
          | refine Run.draw (frz := [1]) Et_ok (by kernel_rfl) ?_
          | refine eX ?_
          | refine eS ?_
          | refine eN ?_)
        obtain ⟨n, hn⟩ : ∃ n, n = g.prods.findIdx (fun p => decide (6 < p.right.length)) := ⟨_, rfl⟩
        have hidx : n ≤ g.prods.length := by rw [hn]; exact List.findIdx_le_length
        have hcase : n < g.prods.length ∨ n = g.prods.length := by omega
        refine Run.rangeProds (frz := [1]) 1 (fun _ => [.box [.d (.int .i64 0)]]) g.prods (Nat.le_trans hf.prods (by decide)) (by rfl) (fun _ => rfl) (fun _ => rfl) (by kernel_rfl) n hidx (fun k p hk hp => ?_) ?_
        · have hgood : ¬ 6 < p.right.length := by
            rw [hn] at hk
            have := List.not_of_lt_findIdx hk
            have e : g.prods[k] = p := by rw [List.getElem?_eq_some_iff] at hp; exact hp.2
            simpa [e] using this
          refine ayield_of_run (i := 2) (by rfl) (by rfl) (by rfl) ?_
          repeat (first
            | refine oX (frz := [1]) Et_ok ?_
            | refine oS ?_
            | refine RunOps.nil ?_
            | refine Run.region ?_
            | refine Run.seq ?_
            | refine Run.skip ?_
            | refine Run.block ?_
            | refine Run.exit ?_
            | refine Run.draw (frz := [1]) Et_ok (by kernel_rfl) ?_
            | refine eX ?_
            | refine eS ?_
            | refine eN ?_)
          refine ⟨rfl, _, _, _, _, _, _, _, by rfl, ?_⟩
          refine Run.less ?_
          repeat (first
            | refine oX (frz := [1]) Et_ok ?_
            | refine oS ?_
            | refine RunOps.nil ?_
            | refine Run.region ?_
            | refine Run.seq ?_
            | refine Run.skip ?_
            | refine Run.block ?_
            | refine Run.exit ?_
            | refine Run.draw (frz := [1]) Et_ok (by kernel_rfl) ?_
            | refine eX ?_
            | refine eS ?_
            | refine eN ?_)
          refine Run.cond (by rfl) (fun h => ?_) (fun h => ?_)
          · simp at h; omega
          · repeat (first
              | refine oX (frz := [1]) Et_ok ?_
              | refine oS ?_
              | refine RunOps.nil ?_
              | refine Run.region ?_
              | refine Run.seq ?_
              | refine Run.skip ?_
              | refine Run.block ?_
              | refine Run.exit ?_
              | refine Run.draw (frz := [1]) Et_ok (by kernel_rfl) ?_
              | refine eX ?_
              | refine eS ?_
              | refine eN ?_)
            exact ⟨rfl, _, less_of [] 3 rfl (by rfl) trivial trivial (by kernel_rfl) rfl, _, _, _, _, _, _, _, _, by rfl, rfl, by rfl⟩
        · rcases hcase with hlt | hge
          · obtain ⟨p, hp⟩ := get_ok hlt
            have hbad : 6 < p.right.length := by
              rw [hn] at hp hlt
              have := List.findIdx_getElem (p := fun p : GProd => decide (6 < p.right.length)) (xs := g.prods) (w := hlt)
              have e : g.prods[g.prods.findIdx fun p => decide (6 < p.right.length)] = p := by rw [List.getElem?_eq_some_iff] at hp; exact hp.2
              rw [e] at this
              simpa using this
            refine .inr ⟨p, [.box [.d (.int .i64 6)]], hp, rfl, .inl ⟨?_, ?_⟩⟩
            · refine ayield_of_run (i := 2) (by rfl) (by rfl) (by rfl) ?_
              repeat (first
                | refine oX (frz := [1]) Et_ok ?_
                | refine oS ?_
                | refine RunOps.nil ?_
                | refine Run.region ?_
                | refine Run.seq ?_
                | refine Run.skip ?_
                | refine Run.block ?_
                | refine Run.exit ?_
                | refine Run.draw (frz := [1]) Et_ok (by kernel_rfl) ?_
                | refine eX ?_
                | refine eS ?_
                | refine eN ?_)
              refine ⟨rfl, _, _, _, _, _, _, _, by rfl, ?_⟩
              refine Run.less ?_
              repeat (first
                | refine oX (frz := [1]) Et_ok ?_
                | refine oS ?_
                | refine RunOps.nil ?_
                | refine Run.region ?_
                | refine Run.seq ?_
                | refine Run.skip ?_
                | refine Run.block ?_
                | refine Run.exit ?_
                | refine Run.draw (frz := [1]) Et_ok (by kernel_rfl) ?_
                | refine eX ?_
                | refine eS ?_
                | refine eN ?_)
              refine Run.cond (by rfl) (fun h => ?_) (fun h => ?_)
              · repeat (first
                  | refine oX (frz := [1]) Et_ok ?_
                  | refine oS ?_
                  | refine RunOps.nil ?_
                  | refine Run.region ?_
                  | refine Run.seq ?_
                  | refine Run.skip ?_
                  | refine Run.block ?_
                  | refine Run.exit ?_
                  | refine Run.draw (frz := [1]) Et_ok (by kernel_rfl) ?_
                  | refine eX ?_
                  | refine eS ?_
                  | refine eN ?_)
                refine Run.ret ?_
                exact ⟨rfl, _, less_of [] 3 rfl (by rfl) trivial trivial (by kernel_rfl) rfl, _, _, _, _, _, _, _, _, by rfl, rfl, by rfl⟩
              · simp at h; omega
            · refine ⟨trivial, _, _, by rfl, by rfl, Eq.trans (b := some (.d (.int .i64 6))) (by kernel_rfl) ?_⟩
              have hm : manyF g = 6 := by
                unfold manyF
                rw [if_pos (.inr (.inr (.inr ⟨p, List.mem_of_getElem? hp, hbad⟩)))]
              rw [hm]
          · refine .inl ⟨hge, ?_⟩
            repeat (first
              | refine oX (frz := [1]) Et_ok ?_
              | refine oS ?_
              | refine RunOps.nil ?_
              | refine Run.region ?_
              | refine Run.seq ?_
              | refine Run.skip ?_
              | refine Run.block ?_
              | refine Run.exit ?_
              | refine Run.draw (frz := [1]) Et_ok (by kernel_rfl) ?_
              | refine eX ?_
              | refine eS ?_
              | refine eN ?_)
            refine Run.ret ?_
            refine ⟨trivial, _, _, by rfl, by rfl, Eq.trans (b := some (.d (.int .i64 0))) (by kernel_rfl) ?_⟩
            have hm : manyF g = 0 := by
              unfold manyF
              rw [if_neg]
              rintro (h | h | h | ⟨p, hp, h⟩)
              · exact h1 h
              · exact h2 h
              · exact h3 h
              · have := List.findIdx_lt_length_of_exists (xs := g.prods) (p := fun p => decide (6 < p.right.length)) ⟨p, hp, by simpa using h⟩
                omega
            rw [hm]
end Go.Av
end
noncomputable section
namespace Go.Av
open Go Go.Proofs
set_option maxRecDepth 10000
end Go.Av
end
noncomputable section
namespace Go.Av
open Go Go.Proofs
set_option maxRecDepth 10000
theorem Fits.small {g : Gram} (hf : Fits g) {i : Nat} {s : List Nat} (h : (smalls g)[i]? = some s) : s.length ≤ 1099511627776 := by
  have := List.mem_of_getElem? h
  simp only [smalls, List.mem_append, List.mem_singleton] at this
  rcases this with h | rfl
  · exact Nat.le_trans (hf.tokenS _ h) (by decide)
  · exact Nat.le_trans hf.sep (by decide)
theorem Fits.name {g : Gram} (hf : Fits g) {i : Nat} {s : List Nat} (h : g.names[i]? = some s) : s.length ≤ 1099511627776 := Nat.le_trans (hf.nameS _ (List.mem_of_getElem? h)) (by decide)
theorem findF_range (l : List (List Nat)) (s : List Nat) : -1 ≤ findF l s ∧ findF l s < l.length := by
  unfold findF
  split
  · rename_i h
    have := List.idxOf_lt_length_iff.2 h
    omega
  · omega
end Go.Av
end
noncomputable section
namespace Go.Av
open Go Go.Proofs
set_option maxRecDepth 10000
def rowA (k sz : Nat) : List DV → AV
  | [] => .d .nilsl
  | a :: l => .sr k sz (a :: l)
def rowO (sz : Nat) : List DV → List Ob
  | [] => []
  | _ :: l => [.room (l.length + 1) sz]
end Go.Av
end
noncomputable section
namespace Go.Av
open Go Go.Proofs
set_option maxRecDepth 10000
end Go.Av
end
noncomputable section
namespace Go.Av
open Go Go.Proofs
set_option maxRecDepth 10000
def symName (g : Gram) (s : Int) : Option (List Nat) := if 16 ≤ s then g.names[(s - 16).toNat]? else if 0 ≤ s then g.tokens[s.toNat]? else none
end Go.Av
end
noncomputable section
namespace Go.Av
open Go Go.Proofs
set_option maxRecDepth 10000
def nameS (g : Gram) (s : Int) : List Nat := (symName g s).getD []
end Go.Av
end
noncomputable section
namespace Go.Av
open Go Go.Proofs
set_option maxRecDepth 10000
end Go.Av
end
noncomputable section
namespace Go.Av
open Go Go.Proofs
set_option maxRecDepth 10000
def kvs (l : List (List Nat)) : List (DV × DV) := l.map fun s => (.str s, .bool true)
theorem nodup_take {l : List (List Nat)} {i : Nat} {s : List Nat} (h : l[i]? = some s) (hn : (l.take i).Nodup) (hs : s ∉ l.take i) : (l.take (i + 1)).Nodup := by
  rw [List.take_add_one, h, List.nodup_append]
  refine ⟨hn, by simp, fun a ha b hb => ?_⟩
  simp at hb
  subst hb
  exact fun e => hs (e ▸ ha)
theorem nodup_not {l : List (List Nat)} {i : Nat} {s : List Nat} (h : l[i]? = some s) (hs : s ∈ l.take i) : ¬ l.Nodup := fun hn => by
  obtain ⟨j, hj, e⟩ := List.getElem_of_mem hs
  have hji : j < i := by simp at hj; omega
  have hi := (List.getElem?_eq_some_iff.1 h).1
  refine List.pairwise_iff_getElem.1 hn j i (by omega) hi hji ?_
  rw [(List.getElem?_eq_some_iff.1 h).2]
  simpa using e
end Go.Av
end
noncomputable section
namespace Go.Av
open Go Go.Proofs
set_option maxRecDepth 10000
def idxP {α : Type} (l : List α) (p : α → Bool) : Int := if l.any p then (l.findIdx p : Nat) else -1
theorem idxP_at {α : Type} {l : List α} {p : α → Bool} {i : Nat} {x : α} (h : l[i]? = some x) (hx : p x = true) (hb : ∀ j, j < i → ∀ y, l[j]? = some y → p y = false) : idxP l p = i := by
  have hm := List.mem_of_getElem? h
  have ha : l.any p = true := List.any_eq_true.2 ⟨x, hm, hx⟩
  rw [idxP, if_pos ha]
  have h1 : l.findIdx p < l.length := List.findIdx_lt_length_of_exists ⟨x, hm, hx⟩
  have h2 := List.findIdx_getElem (w := h1)
  have h3 : ¬ l.findIdx p < i := fun hlt => by
    have := hb _ hlt _ (List.getElem?_eq_getElem h1)
    rw [this] at h2; cases h2
  have h4 : ¬ i < l.findIdx p := fun hlt => by
    have h5 := List.not_of_lt_findIdx hlt
    rw [(List.getElem?_eq_some_iff.1 h).2] at h5
    simp [hx] at h5
  omega
theorem idxP_none {α : Type} {l : List α} {p : α → Bool} (hb : ∀ j, j < l.length → ∀ y, l[j]? = some y → p y = false) : idxP l p = -1 := by
  rw [idxP, if_neg]
  intro ha
  obtain ⟨x, hx, hp⟩ := List.any_eq_true.1 ha
  obtain ⟨j, hj, e⟩ := List.getElem_of_mem hx
  have := hb j hj x (by rw [List.getElem?_eq_getElem hj, e])
  rw [this] at hp; cases hp
theorem idxP_any {α : Type} (l : List α) (p : α → Bool) : decide (0 ≤ idxP l p) = l.any p := by
  unfold idxP
  cases h : l.any p <;> simp
end Go.Av
end
noncomputable section
namespace Go.Av
open Go Go.Proofs
set_option maxRecDepth 10000
end Go.Av
end
noncomputable section
namespace Go.Av
open Go Go.Proofs
set_option maxRecDepth 10000
end Go.Av
end
noncomputable section
namespace Go.Av
open Go Go.Proofs
set_option maxRecDepth 10000
end Go.Av
end
noncomputable section
namespace Go.Av
open Go Go.Proofs
set_option maxRecDepth 10000
theorem small_capital {s : List Nat} (h1 : smallF s = true) (h2 : capitalF s = true) : False := by
  simp only [smallF, capitalF, Bool.and_eq_true, decide_eq_true_eq] at h1 h2
  omega
end Go.Av
end
noncomputable section
namespace Go.Av
open Go Go.Proofs
set_option maxRecDepth 10000
end Go.Av
end
noncomputable section
namespace Go.Av
open Go Go.Proofs
set_option maxRecDepth 10000
end Go.Av
end
noncomputable section
namespace Go.Av
open Go Go.Proofs
set_option maxRecDepth 10000
end Go.Av
end
noncomputable section
namespace Go.Av
open Go Go.Proofs
set_option maxRecDepth 10000
theorem short (l : List (List Nat)) (most : Nat) (hl : l.length ≤ 1048576) : KnownCall Try.prog 25 [strs l, .int .i64 most] (.d (.bool (l.all fun s => decide (s.length ≤ most)))) := by
  refine knownE Et_ok (fnAt Try.func25 (by kernel_rfl) (by kernel_rfl) : FnAt _ _ (mkFn Try.f25 [])) ?_
  repeat' (first
    | refine Run.region ?_
    | refine Run.seq ?_
    | ((refine oB (frz := []) Et_ok (fun h => ?_) (fun h => ?_)) <;> (first | (exfalso; simp at h <;> fail) | (exfalso; simp at h; omega) | skip))
    | ((refine eB (fun h => ?_) (fun h => ?_)) <;> (first | (exfalso; simp at h <;> fail) | (exfalso; simp at h; omega) | skip))
    | refine oX (frz := []) Et_ok ?_
    | refine oS ?_
    | refine RunOps.nil ?_
    | refine Run.skip ?_
    | refine cT ?_
    | refine cF ?_
    | refine Run.block ?_
    | refine Run.exit ?_
    | refine Run.draw (frz := []) Et_ok (by kernel_rfl) ?_
    | refine eX ?_
    | refine eS ?_
    | refine eN ?_
    | (refine Run.ret ?_; (first | refine rB ?_ | refine rI ?_ | refine rA ?_ | refine rII ?_ | refine rSI ?_ | refine rT ?_ | refine rS ?_); first | done | (skip))
    | fail)
  refine Run.loop (fun i : Nat => ⟨PT.ofList [(0, .d (strs l)), (1, .d (.int .i64 most)), (5, .d (.int .i64 i))], [], []⟩) (fun i => i ≤ l.length ∧ (l.take i).all (fun s => decide (s.length ≤ most)) = true) (fun i => l.length - i) 0 ⟨Nat.zero_le _, rfl⟩ (weak_of (by repeat' (first | exact trivial | refine ⟨rfl, ?_⟩))) (fun i hi => ?_)
  rcases Nat.lt_or_ge i l.length with hlt | hge
  · obtain ⟨x, hx⟩ := get_ok hlt
    by_cases hxl : x.length ≤ most
    · have ht : (l.take (i + 1)).all (fun s => decide (s.length ≤ most)) = true := by rw [List.take_add_one, hx]; simp only [Option.toList_some, List.all_append, hi.2]; simp [hxl]
      repeat' (first
        | refine Run.region ?_
        | refine Run.seq ?_
        | ((refine oB (frz := []) Et_ok (fun h => ?_) (fun h => ?_)) <;> (first | (exfalso; simp at h <;> fail) | (exfalso; simp at h; omega) | skip))
        | ((refine eB (fun h => ?_) (fun h => ?_)) <;> (first | (exfalso; simp at h <;> fail) | (exfalso; simp at h; omega) | skip))
        | refine oX (frz := []) Et_ok ?_
        | refine oS ?_
        | refine RunOps.nil ?_
        | refine Run.skip ?_
        | refine cT ?_
        | refine cF ?_
        | refine Run.block ?_
        | refine Run.exit ?_
        | refine Run.draw (frz := []) Et_ok (by kernel_rfl) ?_
        | refine eX ?_
        | refine eS ?_
        | refine eN ?_
        | refine oX (frz := []) (v := .d (.ep [.str x])) Et_ok ?_ (hf := (by first | (simp [inB] <;> fail) | (simp [inB]; omega))) (he := (by first | (simp [List.getD_eq_getElem?_getD, cellsD, hx] <;> fail) | fail))
        | refine eX (v := .d (.ep [.str x])) ?_ (hf := (by first | (simp [inB] <;> fail) | (simp [inB]; omega))) (he := (by first | (simp [List.getD_eq_getElem?_getD, cellsD, hx] <;> fail) | fail))
        | (refine Run.ret ?_; (first | refine rB ?_ | refine rI ?_ | refine rA ?_ | refine rII ?_ | refine rSI ?_ | refine rT ?_ | refine rS ?_); first | done | (skip))
        | (exact ⟨i + 1, ⟨hlt, ht⟩, by omega, weak_of (by repeat' (first | exact trivial | refine ⟨rfl, ?_⟩ | refine ⟨(inc_get (k := i) (by kernel_rfl) (by omega)), ?_⟩))⟩)
        | ((exfalso; first | (simp_all <;> fail) | (simp_all; omega)))
        | fail)
    · have hf : (l.all fun s => decide (s.length ≤ most)) = false := by
        rw [List.all_eq_false]; exact ⟨x, List.mem_of_getElem? hx, by simpa using hxl⟩
      rw [hf]
      repeat' (first
        | refine Run.region ?_
        | refine Run.seq ?_
        | ((refine oB (frz := []) Et_ok (fun h => ?_) (fun h => ?_)) <;> (first | (exfalso; simp at h <;> fail) | (exfalso; simp at h; omega) | skip))
        | ((refine eB (fun h => ?_) (fun h => ?_)) <;> (first | (exfalso; simp at h <;> fail) | (exfalso; simp at h; omega) | skip))
        | refine oX (frz := []) Et_ok ?_
        | refine oS ?_
        | refine RunOps.nil ?_
        | refine Run.skip ?_
        | refine cT ?_
        | refine cF ?_
        | refine Run.block ?_
        | refine Run.exit ?_
        | refine Run.draw (frz := []) Et_ok (by kernel_rfl) ?_
        | refine eX ?_
        | refine eS ?_
        | refine eN ?_
        | refine oX (frz := []) (v := .d (.ep [.str x])) Et_ok ?_ (hf := (by first | (simp [inB] <;> fail) | (simp [inB]; omega))) (he := (by first | (simp [List.getD_eq_getElem?_getD, cellsD, hx] <;> fail) | fail))
        | refine eX (v := .d (.ep [.str x])) ?_ (hf := (by first | (simp [inB] <;> fail) | (simp [inB]; omega))) (he := (by first | (simp [List.getD_eq_getElem?_getD, cellsD, hx] <;> fail) | fail))
        | (refine Run.ret ?_; (first | refine rB ?_ | refine rI ?_ | refine rA ?_ | refine rII ?_ | refine rSI ?_ | refine rT ?_ | refine rS ?_); first | done | (rfl))
        | ((exfalso; first | (simp_all <;> fail) | (simp_all; omega)))
        | fail)
  · have hie : i = l.length := by omega
    subst hie
    have ht := hi.2
    rw [List.take_length] at ht
    rw [ht]
    repeat' (first
      | refine Run.region ?_
      | refine Run.seq ?_
      | ((refine oB (frz := []) Et_ok (fun h => ?_) (fun h => ?_)) <;> (first | (exfalso; simp at h <;> fail) | (exfalso; simp at h; omega) | skip))
      | ((refine eB (fun h => ?_) (fun h => ?_)) <;> (first | (exfalso; simp at h <;> fail) | (exfalso; simp at h; omega) | skip))
      | refine oX (frz := []) Et_ok ?_
      | refine oS ?_
      | refine RunOps.nil ?_
      | refine Run.skip ?_
      | refine cT ?_
      | refine cF ?_
      | refine Run.block ?_
      | refine Run.exit ?_
      | refine Run.draw (frz := []) Et_ok (by kernel_rfl) ?_
      | refine eX ?_
      | refine eS ?_
      | refine eN ?_
      | (refine Run.ret ?_; (first | refine rB ?_ | refine rI ?_ | refine rA ?_ | refine rII ?_ | refine rSI ?_ | refine rT ?_ | refine rS ?_); first | done | (rfl))
      | ((exfalso; first | (simp_all <;> fail) | (simp_all; omega)))
      | fail)
theorem sameInts (a b : List Int) (hal : a.length ≤ 1099511627776) : KnownCall Try.prog 14 [ints a, ints b] (.d (.bool (decide (a = b)))) := by
  by_cases hlen : a.length = b.length
  · refine knownE Et_ok (fnAt Try.func14 (by kernel_rfl) (by kernel_rfl) : FnAt _ _ (mkFn Try.f14 [])) ?_
    repeat' (first
      | refine Run.region ?_
      | refine Run.seq ?_
      | ((refine oB (frz := []) Et_ok (fun h => ?_) (fun h => ?_)) <;> (first | (exfalso; simp at h <;> fail) | (exfalso; simp at h; omega) | skip))
      | ((refine eB (fun h => ?_) (fun h => ?_)) <;> (first | (exfalso; simp at h <;> fail) | (exfalso; simp at h; omega) | skip))
      | refine oX (frz := []) Et_ok ?_
      | refine oS ?_
      | refine RunOps.nil ?_
      | refine Run.skip ?_
      | refine cT ?_
      | refine cF ?_
      | refine Run.block ?_
      | refine Run.exit ?_
      | refine Run.draw (frz := []) Et_ok (by kernel_rfl) ?_
      | refine eX ?_
      | refine eS ?_
      | refine eN ?_
      | (refine Run.ret ?_; (first | refine rB ?_ | refine rI ?_ | refine rA ?_ | refine rII ?_ | refine rSI ?_ | refine rT ?_ | refine rS ?_); first | done | (skip))
      | ((exfalso; first | (simp_all <;> fail) | (simp_all; omega)))
      | fail)
    refine Run.loop (fun i : Nat => ⟨PT.ofList [(0, .d (ints a)), (1, .d (ints b)), (5, .d (.int .i64 i))], [], []⟩) (fun i => i ≤ a.length ∧ a.take i = b.take i) (fun i => a.length - i) 0 ⟨Nat.zero_le _, rfl⟩ (weak_of (by repeat' (first | exact trivial | refine ⟨rfl, ?_⟩))) (fun i hi => ?_)
    rcases Nat.lt_or_ge i a.length with hlt | hge
    · obtain ⟨x, hx⟩ := get_ok hlt
      obtain ⟨y, hy⟩ := get_ok (show i < b.length by omega)
      by_cases hxy : x = y
      · subst hxy
        have ht : a.take (i + 1) = b.take (i + 1) := by rw [List.take_add_one, List.take_add_one, hi.2, hx, hy]
        repeat' (first
          | refine Run.region ?_
          | refine Run.seq ?_
          | ((refine oB (frz := []) Et_ok (fun h => ?_) (fun h => ?_)) <;> (first | (exfalso; simp at h <;> fail) | (exfalso; simp at h; omega) | skip))
          | ((refine eB (fun h => ?_) (fun h => ?_)) <;> (first | (exfalso; simp at h <;> fail) | (exfalso; simp at h; omega) | skip))
          | refine oX (frz := []) Et_ok ?_
          | refine oS ?_
          | refine RunOps.nil ?_
          | refine Run.skip ?_
          | refine cT ?_
          | refine cF ?_
          | refine Run.block ?_
          | refine Run.exit ?_
          | refine Run.draw (frz := []) Et_ok (by kernel_rfl) ?_
          | refine eX ?_
          | refine eS ?_
          | refine eN ?_
          | refine oX (frz := []) (v := .d (.ep [.int .i64 x])) Et_ok ?_ (hf := (by first | (simp [inB] <;> fail) | (simp [inB]; omega))) (he := (by first | (simp [List.getD_eq_getElem?_getD, cellsD, hx] <;> fail) | fail))
          | refine eX (v := .d (.ep [.int .i64 x])) ?_ (hf := (by first | (simp [inB] <;> fail) | (simp [inB]; omega))) (he := (by first | (simp [List.getD_eq_getElem?_getD, cellsD, hx] <;> fail) | fail))
          | refine oX (frz := []) (v := .d (.ep [.int .i64 x])) Et_ok ?_ (hf := (by first | (simp [inB] <;> fail) | (simp [inB]; omega))) (he := (by first | (simp [List.getD_eq_getElem?_getD, cellsD, hy] <;> fail) | fail))
          | refine eX (v := .d (.ep [.int .i64 x])) ?_ (hf := (by first | (simp [inB] <;> fail) | (simp [inB]; omega))) (he := (by first | (simp [List.getD_eq_getElem?_getD, cellsD, hy] <;> fail) | fail))
          | (refine Run.ret ?_; (first | refine rB ?_ | refine rI ?_ | refine rA ?_ | refine rII ?_ | refine rSI ?_ | refine rT ?_ | refine rS ?_); first | done | (skip))
          | (exact ⟨i + 1, ⟨hlt, ht⟩, by omega, weak_of (by repeat' (first | exact trivial | refine ⟨rfl, ?_⟩ | refine ⟨(inc_get (k := i) (by kernel_rfl) (by omega)), ?_⟩))⟩)
          | ((exfalso; first | (simp_all <;> fail) | (simp_all; omega)))
          | fail)
      · have hne : a ≠ b := fun e => by subst e; rw [hx] at hy; cases hy; exact hxy rfl
        rw [decide_eq_false hne]
        repeat' (first
          | refine Run.region ?_
          | refine Run.seq ?_
          | ((refine oB (frz := []) Et_ok (fun h => ?_) (fun h => ?_)) <;> (first | (exfalso; simp at h <;> fail) | (exfalso; simp at h; omega) | skip))
          | ((refine eB (fun h => ?_) (fun h => ?_)) <;> (first | (exfalso; simp at h <;> fail) | (exfalso; simp at h; omega) | skip))
          | refine oX (frz := []) Et_ok ?_
          | refine oS ?_
          | refine RunOps.nil ?_
          | refine Run.skip ?_
          | refine cT ?_
          | refine cF ?_
          | refine Run.block ?_
          | refine Run.exit ?_
          | refine Run.draw (frz := []) Et_ok (by kernel_rfl) ?_
          | refine eX ?_
          | refine eS ?_
          | refine eN ?_
          | refine oX (frz := []) (v := .d (.ep [.int .i64 x])) Et_ok ?_ (hf := (by first | (simp [inB] <;> fail) | (simp [inB]; omega))) (he := (by first | (simp [List.getD_eq_getElem?_getD, cellsD, hx] <;> fail) | fail))
          | refine eX (v := .d (.ep [.int .i64 x])) ?_ (hf := (by first | (simp [inB] <;> fail) | (simp [inB]; omega))) (he := (by first | (simp [List.getD_eq_getElem?_getD, cellsD, hx] <;> fail) | fail))
          | refine oX (frz := []) (v := .d (.ep [.int .i64 y])) Et_ok ?_ (hf := (by first | (simp [inB] <;> fail) | (simp [inB]; omega))) (he := (by first | (simp [List.getD_eq_getElem?_getD, cellsD, hy] <;> fail) | fail))
          | refine eX (v := .d (.ep [.int .i64 y])) ?_ (hf := (by first | (simp [inB] <;> fail) | (simp [inB]; omega))) (he := (by first | (simp [List.getD_eq_getElem?_getD, cellsD, hy] <;> fail) | fail))
          | (refine Run.ret ?_; (first | refine rB ?_ | refine rI ?_ | refine rA ?_ | refine rII ?_ | refine rSI ?_ | refine rT ?_ | refine rS ?_); first | done | (rfl))
          | ((exfalso; first | (simp_all <;> fail) | (simp_all; omega)))
          | fail)
    · have hie : i = a.length := by have := hi.1; omega
      have hab : a = b := by have := hi.2; rw [hie, List.take_length, hlen, List.take_length] at this; exact this
      rw [decide_eq_true hab]
      repeat' (first
        | refine Run.region ?_
        | refine Run.seq ?_
        | ((refine oB (frz := []) Et_ok (fun h => ?_) (fun h => ?_)) <;> (first | (exfalso; simp at h <;> fail) | (exfalso; simp at h; omega) | skip))
        | ((refine eB (fun h => ?_) (fun h => ?_)) <;> (first | (exfalso; simp at h <;> fail) | (exfalso; simp at h; omega) | skip))
        | refine oX (frz := []) Et_ok ?_
        | refine oS ?_
        | refine RunOps.nil ?_
        | refine Run.skip ?_
        | refine cT ?_
        | refine cF ?_
        | refine Run.block ?_
        | refine Run.exit ?_
        | refine Run.draw (frz := []) Et_ok (by kernel_rfl) ?_
        | refine eX ?_
        | refine eS ?_
        | refine eN ?_
        | (refine Run.ret ?_; (first | refine rB ?_ | refine rI ?_ | refine rA ?_ | refine rII ?_ | refine rSI ?_ | refine rT ?_ | refine rS ?_); first | done | (rfl))
        | ((exfalso; first | (simp_all <;> fail) | (simp_all; omega)))
        | fail)
  · have hne : a ≠ b := fun e => by subst e; exact hlen rfl
    rw [decide_eq_false hne]
    refine knownE Et_ok (fnAt Try.func14 (by kernel_rfl) (by kernel_rfl) : FnAt _ _ (mkFn Try.f14 [])) ?_
    repeat' (first
      | refine Run.region ?_
      | refine Run.seq ?_
      | ((refine oB (frz := []) Et_ok (fun h => ?_) (fun h => ?_)) <;> (first | (exfalso; simp at h <;> fail) | (exfalso; simp at h; omega) | skip))
      | ((refine eB (fun h => ?_) (fun h => ?_)) <;> (first | (exfalso; simp at h <;> fail) | (exfalso; simp at h; omega) | skip))
      | refine oX (frz := []) Et_ok ?_
      | refine oS ?_
      | refine RunOps.nil ?_
      | refine Run.skip ?_
      | refine cT ?_
      | refine cF ?_
      | refine Run.block ?_
      | refine Run.exit ?_
      | refine Run.draw (frz := []) Et_ok (by kernel_rfl) ?_
      | refine eX ?_
      | refine eS ?_
      | refine eN ?_
      | (refine Run.ret ?_; (first | refine rB ?_ | refine rI ?_ | refine rA ?_ | refine rII ?_ | refine rSI ?_ | refine rT ?_ | refine rS ?_); first | done | (rfl))
      | ((exfalso; first | (simp_all <;> fail) | (simp_all; omega)))
      | fail)
end Go.Av
end
noncomputable section
namespace Go.Av
open Go Go.Proofs
set_option maxRecDepth 10000
theorem sameSelf (g : Gram) (hf : Fits g) : KnownCall Try.prog 21 [encG g, encG g] (.d (.bool true)) := by
  have hfp := hf.prods
  have hft := hf.tokens
  have hfn := hf.names
  have h1 := sameTexts g.tokens g.tokens (by omega)
  have h2 := sameTexts g.names g.names (by omega)
  rw [decide_eq_true rfl] at h1 h2
  refine knownE Et_ok (fnAt Try.func21 (by kernel_rfl) (by kernel_rfl) : FnAt _ _ (mkFn Try.f21 [2, 3])) ?_
  repeat' (first
    | refine Run.region ?_
    | refine Run.seq ?_
    | ((refine oB (frz := [2, 3]) Et_ok (fun h => ?_) (fun h => ?_)) <;> (first | (exfalso; simp at h <;> fail) | (exfalso; simp at h; omega) | skip))
    | ((refine eB (fun h => ?_) (fun h => ?_)) <;> (first | (exfalso; simp at h <;> fail) | (exfalso; simp at h; omega) | skip))
    | refine oX (frz := [2, 3]) Et_ok ?_
    | refine oS ?_
    | refine RunOps.nil ?_
    | refine Run.skip ?_
    | refine cT ?_
    | refine cF ?_
    | refine Run.block ?_
    | refine Run.exit ?_
    | refine Run.draw (frz := [2, 3]) Et_ok (by kernel_rfl) ?_
    | refine eX ?_
    | refine eS ?_
    | refine eN ?_
    | refine oC (h1) ?_
    | refine eC (h1) ?_
    | refine oC (h2) ?_
    | refine eC (h2) ?_
    | (refine Run.ret ?_; (first | refine rB ?_ | refine rI ?_ | refine rA ?_ | refine rII ?_ | refine rSI ?_ | refine rT ?_ | refine rS ?_); first | done | (skip))
    | ((exfalso; first | (simp_all <;> fail) | (simp_all; omega)))
    | fail)
  refine Run.loop (fun i : Nat => ⟨PT.ofList [(2, (.d (.ep [.int .i64 g.k, strs g.tokens, .str g.sep, strs g.names, .int .i64 g.start, .sl 2 (g.prods.map encP)]))), (3, (.d (.ep [.int .i64 g.k, strs g.tokens, .str g.sep, strs g.names, .int .i64 g.start, .sl 2 (g.prods.map encP)]))), (5, .d (.int .i64 i))], [], []⟩) (fun i => i ≤ g.prods.length) (fun i => g.prods.length - i) 0 (Nat.zero_le _) (weak_of (by repeat' (first | exact trivial | refine ⟨rfl, ?_⟩))) (fun i hi => ?_)
  rcases Nat.lt_or_ge i g.prods.length with hlt | hge
  · obtain ⟨p, hp⟩ := get_ok hlt
    have hpr := hf.rights p (List.mem_of_getElem? hp)
    have h3 := sameInts p.right p.right (by omega)
    rw [decide_eq_true rfl] at h3
    repeat' (first
      | refine Run.region ?_
      | refine Run.seq ?_
      | ((refine oB (frz := [2, 3]) Et_ok (fun h => ?_) (fun h => ?_)) <;> (first | (exfalso; simp at h <;> fail) | (exfalso; simp at h; omega) | skip))
      | ((refine eB (fun h => ?_) (fun h => ?_)) <;> (first | (exfalso; simp at h <;> fail) | (exfalso; simp at h; omega) | skip))
      | refine oX (frz := [2, 3]) Et_ok ?_
      | refine oS ?_
      | refine RunOps.nil ?_
      | refine Run.skip ?_
      | refine cT ?_
      | refine cF ?_
      | refine Run.block ?_
      | refine Run.exit ?_
      | refine Run.draw (frz := [2, 3]) Et_ok (by kernel_rfl) ?_
      | refine eX ?_
      | refine eS ?_
      | refine eN ?_
      | refine oX (frz := [2, 3]) (v := .d (.ep [.int .i64 p.left, ints p.right])) Et_ok ?_ (hf := (by first | (simp [inB] <;> fail) | (simp [inB]; omega))) (he := (by first | (simp [List.getD_eq_getElem?_getD, cellsD, hp, encP] <;> fail) | fail))
      | refine eX (v := .d (.ep [.int .i64 p.left, ints p.right])) ?_ (hf := (by first | (simp [inB] <;> fail) | (simp [inB]; omega))) (he := (by first | (simp [List.getD_eq_getElem?_getD, cellsD, hp, encP] <;> fail) | fail))
      | refine oC (h3) ?_
      | refine eC (h3) ?_
      | (refine Run.ret ?_; (first | refine rB ?_ | refine rI ?_ | refine rA ?_ | refine rII ?_ | refine rSI ?_ | refine rT ?_ | refine rS ?_); first | done | (skip))
      | (exact ⟨i + 1, hlt, by omega, weak_of (by repeat' (first | exact trivial | refine ⟨rfl, ?_⟩ | refine ⟨(inc_get (k := i) (by kernel_rfl) (by omega)), ?_⟩))⟩)
      | ((exfalso; first | (simp_all <;> fail) | (simp_all; omega)))
      | fail)
  · have hie : i = g.prods.length := by omega
    subst hie
    repeat' (first
      | refine Run.region ?_
      | refine Run.seq ?_
      | ((refine oB (frz := [2, 3]) Et_ok (fun h => ?_) (fun h => ?_)) <;> (first | (exfalso; simp at h <;> fail) | (exfalso; simp at h; omega) | skip))
      | ((refine eB (fun h => ?_) (fun h => ?_)) <;> (first | (exfalso; simp at h <;> fail) | (exfalso; simp at h; omega) | skip))
      | refine oX (frz := [2, 3]) Et_ok ?_
      | refine oS ?_
      | refine RunOps.nil ?_
      | refine Run.skip ?_
      | refine cT ?_
      | refine cF ?_
      | refine Run.block ?_
      | refine Run.exit ?_
      | refine Run.draw (frz := [2, 3]) Et_ok (by kernel_rfl) ?_
      | refine eX ?_
      | refine eS ?_
      | refine eN ?_
      | (refine Run.ret ?_; (first | refine rB ?_ | refine rI ?_ | refine rA ?_ | refine rII ?_ | refine rSI ?_ | refine rT ?_ | refine rS ?_); first | done | (rfl))
      | ((exfalso; first | (simp_all <;> fail) | (simp_all; omega)))
      | fail)
abbrev boxG0 : Ob := .box [.d (.int .i64 0), .d .nilsl, .d (.str []), .d .nilsl, .d (.int .i64 0), .d .nilsl]
end Go.Av
end
noncomputable section
namespace Go.Av
open Go Go.Proofs
set_option maxRecDepth 10000
structure SRule where
  name : List Nat
  alts : List (List (List Nat))
structure Src where
  k : Int
  tokens : List (List Nat)
  sep : List Nat
  start : List Nat
  rules : List SRule
abbrev alts (l : List (List (List Nat))) : DV := .sl 1 (l.map strs)
def encR (r : SRule) : DV := .agg [.str r.name, alts r.alts]
abbrev encX (x : Src) : DV := .agg [.int .i64 x.k, strs x.tokens, .str x.sep, .str x.start, .sl 2 (x.rules.map encR)]
abbrev cellX (x : Src) : AV := .d (.ep [.int .i64 x.k, strs x.tokens, .str x.sep, .str x.start, .sl 2 (x.rules.map encR)])
structure FitsX (x : Src) : Prop where
  tokens : x.tokens.length ≤ 1048576
  rules : x.rules.length ≤ 1048576
  alts : ∀ r ∈ x.rules, r.alts.length ≤ 1048576
  names : ∀ r ∈ x.rules, ∀ a ∈ r.alts, a.length ≤ 1048576
  sep : x.sep.length ≤ 1048576
  start : x.start.length ≤ 1048576
  tokenS : ∀ s ∈ x.tokens, s.length ≤ 1048576
  ruleS : ∀ r ∈ x.rules, r.name.length ≤ 1048576
  nameS : ∀ r ∈ x.rules, ∀ a ∈ r.alts, ∀ s ∈ a, s.length ≤ 1048576
section
variable {α : Type} {l : List α} {p : α → Bool} {i : Nat} {x : α}
theorem any_next (h : l[i]? = some x) (hb : (l.take i).any p = false) (hx : p x = false) : (l.take (i + 1)).any p = false := by
  rw [List.take_add_one, h, List.any_append, hb]; simp [hx]
theorem any_hit (h : l[i]? = some x) (hx : p x = true) : l.any p = true := List.any_eq_true.2 ⟨x, List.mem_of_getElem? h, hx⟩
theorem any_end (hb : (l.take l.length).any p = false) : l.any p = false := by rw [List.take_length] at hb; exact hb
end
theorem has08 (l : List (List Nat)) (s : List Nat) (hl : l.length ≤ 1099511627776) : KnownCall Try.prog 93 [strs l, .str s] (.d (.bool (l.any fun y => decide (y = s)))) := by
  refine knownE Et_ok (fnAt Try.func93 (by kernel_rfl) (by kernel_rfl) : FnAt _ _ (mkFn Try.f93 [])) ?_
  repeat' (first
    | refine Run.region ?_
    | refine Run.seq ?_
    | ((refine oB (frz := []) Et_ok (fun h => ?_) (fun h => ?_)) <;> (first | (exfalso; simp at h <;> fail) | (exfalso; simp at h; omega) | skip))
    | ((refine eB (fun h => ?_) (fun h => ?_)) <;> (first | (exfalso; simp at h <;> fail) | (exfalso; simp at h; omega) | skip))
    | refine oX (frz := []) Et_ok ?_
    | refine oS ?_
    | refine RunOps.nil ?_
    | refine Run.skip ?_
    | refine cT ?_
    | refine cF ?_
    | refine Run.block ?_
    | refine Run.exit ?_
    | refine Run.draw (frz := []) Et_ok (by kernel_rfl) ?_
    | refine eX ?_
    | refine eS ?_
    | refine eN ?_
    | (refine Run.ret ?_; (first | refine rB ?_ | refine rI ?_ | refine rA ?_ | refine rII ?_ | refine rSI ?_ | refine rT ?_ | refine rS ?_); first | done | (skip))
    | fail)
  refine Run.loop (fun i : Nat => ⟨PT.ofList [(0, .d (strs l)), (1, .d (.str s)), (5, .d (.int .i64 i))], [], []⟩) (fun i => i ≤ l.length ∧ (l.take i).any (fun y => decide (y = s)) = false) (fun i => l.length - i) 0 ⟨Nat.zero_le _, rfl⟩ (weak_of (by repeat' (first | exact trivial | refine ⟨rfl, ?_⟩))) (fun i hi => ?_)
  rcases Nat.lt_or_ge i l.length with hlt | hge
  · obtain ⟨y, hy⟩ := get_ok hlt
    by_cases hys : y = s
    · rw [any_hit hy (p := fun y => decide (y = s)) (by simp [hys])]
      repeat' (first
        | refine Run.region ?_
        | refine Run.seq ?_
        | ((refine oB (frz := []) Et_ok (fun h => ?_) (fun h => ?_)) <;> (first | (exfalso; simp at h <;> fail) | (exfalso; simp at h; omega) | skip))
        | ((refine eB (fun h => ?_) (fun h => ?_)) <;> (first | (exfalso; simp at h <;> fail) | (exfalso; simp at h; omega) | skip))
        | refine oX (frz := []) Et_ok ?_
        | refine oS ?_
        | refine RunOps.nil ?_
        | refine Run.skip ?_
        | refine cT ?_
        | refine cF ?_
        | refine Run.block ?_
        | refine Run.exit ?_
        | refine Run.draw (frz := []) Et_ok (by kernel_rfl) ?_
        | refine eX ?_
        | refine eS ?_
        | refine eN ?_
        | refine oX (frz := []) (v := .d (.ep [.str y])) Et_ok ?_ (hf := (by first | (simp [inB] <;> fail) | (simp [inB]; omega))) (he := (by first | (simp [List.getD_eq_getElem?_getD, cellsD, hy] <;> fail) | fail))
        | refine eX (v := .d (.ep [.str y])) ?_ (hf := (by first | (simp [inB] <;> fail) | (simp [inB]; omega))) (he := (by first | (simp [List.getD_eq_getElem?_getD, cellsD, hy] <;> fail) | fail))
        | (refine Run.ret ?_; (first | refine rB ?_ | refine rI ?_ | refine rA ?_ | refine rII ?_ | refine rSI ?_ | refine rT ?_ | refine rS ?_); first | done | (rfl))
        | ((exfalso; (simp at h <;> fail)))
        | ((exfalso; simp [hys] at h <;> fail))
        | fail)
    · repeat' (first
        | refine Run.region ?_
        | refine Run.seq ?_
        | ((refine oB (frz := []) Et_ok (fun h => ?_) (fun h => ?_)) <;> (first | (exfalso; simp at h <;> fail) | (exfalso; simp at h; omega) | skip))
        | ((refine eB (fun h => ?_) (fun h => ?_)) <;> (first | (exfalso; simp at h <;> fail) | (exfalso; simp at h; omega) | skip))
        | refine oX (frz := []) Et_ok ?_
        | refine oS ?_
        | refine RunOps.nil ?_
        | refine Run.skip ?_
        | refine cT ?_
        | refine cF ?_
        | refine Run.block ?_
        | refine Run.exit ?_
        | refine Run.draw (frz := []) Et_ok (by kernel_rfl) ?_
        | refine eX ?_
        | refine eS ?_
        | refine eN ?_
        | refine oX (frz := []) (v := .d (.ep [.str y])) Et_ok ?_ (hf := (by first | (simp [inB] <;> fail) | (simp [inB]; omega))) (he := (by first | (simp [List.getD_eq_getElem?_getD, cellsD, hy] <;> fail) | fail))
        | refine eX (v := .d (.ep [.str y])) ?_ (hf := (by first | (simp [inB] <;> fail) | (simp [inB]; omega))) (he := (by first | (simp [List.getD_eq_getElem?_getD, cellsD, hy] <;> fail) | fail))
        | (refine Run.ret ?_; (first | refine rB ?_ | refine rI ?_ | refine rA ?_ | refine rII ?_ | refine rSI ?_ | refine rT ?_ | refine rS ?_); first | done | ((exfalso; simp [hys] at h <;> fail)))
        | (exact ⟨i + 1, ⟨hlt, any_next hy hi.2 (by simp [hys])⟩, by omega, weak_of (by repeat' (first | exact trivial | refine ⟨rfl, ?_⟩ | refine ⟨(inc_get (k := i) (by kernel_rfl) (by omega)), ?_⟩))⟩)
        | fail)
  · have hie : i = l.length := by omega
    subst hie
    rw [any_end hi.2]
    repeat' (first
      | refine Run.region ?_
      | refine Run.seq ?_
      | ((refine oB (frz := []) Et_ok (fun h => ?_) (fun h => ?_)) <;> (first | (exfalso; simp at h <;> fail) | (exfalso; simp at h; omega) | skip))
      | ((refine eB (fun h => ?_) (fun h => ?_)) <;> (first | (exfalso; simp at h <;> fail) | (exfalso; simp at h; omega) | skip))
      | refine oX (frz := []) Et_ok ?_
      | refine oS ?_
      | refine RunOps.nil ?_
      | refine Run.skip ?_
      | refine cT ?_
      | refine cF ?_
      | refine Run.block ?_
      | refine Run.exit ?_
      | refine Run.draw (frz := []) Et_ok (by kernel_rfl) ?_
      | refine eX ?_
      | refine eS ?_
      | refine eN ?_
      | (refine Run.ret ?_; (first | refine rB ?_ | refine rI ?_ | refine rA ?_ | refine rII ?_ | refine rSI ?_ | refine rT ?_ | refine rS ?_); first | done | (rfl))
      | fail)
theorem rules08 (x : Src) (hf : FitsX x) : KnownCall Try.prog 79 [encX x] (.d (strs (x.rules.map (·.name)))) := by
  have hr := hf.rules
  refine knownE2 Et_ok (fnAt Try.func79 (by kernel_rfl) (by kernel_rfl) : FnAt _ _ (mkFn Try.f79 [1, 19])) ?_
  repeat' (first
    | refine Run.region ?_
    | refine Run.seq ?_
    | ((refine oB (frz := [1, 19]) Et_ok (fun h => ?_) (fun h => ?_)) <;> (first | (exfalso; simp at h <;> fail) | (exfalso; simp at h; omega) | skip))
    | ((refine eB (fun h => ?_) (fun h => ?_)) <;> (first | (exfalso; simp at h <;> fail) | (exfalso; simp at h; omega) | skip))
    | refine oX (frz := [1, 19]) Et_ok ?_
    | refine oS ?_
    | refine RunOps.nil ?_
    | refine Run.skip ?_
    | refine cT ?_
    | refine cF ?_
    | refine Run.block ?_
    | refine Run.exit ?_
    | refine Run.draw (frz := [1, 19]) Et_ok (by kernel_rfl) ?_
    | refine eX ?_
    | refine eS ?_
    | refine eN ?_
    | (refine Run.ret ?_; refine r2 ?_; first | done | (skip))
    | fail)
  refine Run.loop (fun y : Nat × List DV => ⟨PT.ofList [(1, cellX x), (3, rowA 0 1 y.2), (4, .d (.int .i64 y.1))], rowO 1 y.2, []⟩) (fun y => y.1 ≤ x.rules.length ∧ y.2 = (x.rules.take y.1).map (fun r => .str r.name)) (fun y => x.rules.length - y.1) (0, []) ⟨Nat.zero_le _, rfl⟩ (weak_of (by repeat' (first | exact trivial | refine ⟨rfl, ?_⟩))) (fun y hy => ?_)
  obtain ⟨i, acc⟩ := y
  obtain ⟨hi1, hi2⟩ := hy
  simp only at hi1 hi2 ⊢
  have hal : acc.length ≤ i := by rw [hi2]; simp; omega
  rcases Nat.lt_or_ge i x.rules.length with hlt | hge
  · obtain ⟨r, hr⟩ := get_ok hlt
    have hnext : acc ++ [.str r.name] = (x.rules.take (i + 1)).map (fun r => .str r.name) := by rw [List.take_add_one, hr, hi2]; simp
    rcases acc with _ | ⟨a, l⟩
    · repeat' (first
        | refine Run.region ?_
        | refine Run.seq ?_
        | ((refine oB (frz := [1, 19]) Et_ok (fun h => ?_) (fun h => ?_)) <;> (first | (exfalso; simp at h <;> fail) | (exfalso; simp at h; omega) | skip))
        | ((refine eB (fun h => ?_) (fun h => ?_)) <;> (first | (exfalso; simp at h <;> fail) | (exfalso; simp at h; omega) | skip))
        | refine oX (frz := [1, 19]) Et_ok ?_
        | refine oS ?_
        | refine RunOps.nil ?_
        | refine Run.skip ?_
        | refine cT ?_
        | refine cF ?_
        | refine Run.block ?_
        | refine Run.exit ?_
        | refine Run.draw (frz := [1, 19]) Et_ok (by kernel_rfl) ?_
        | refine eX ?_
        | refine eS ?_
        | refine eN ?_
        | refine oX (frz := [1, 19]) (v := .d (.ep [.str r.name, alts r.alts])) Et_ok ?_ (hf := (by first | (simp [inB] <;> fail) | (simp [inB]; omega))) (he := (by first | (simp [List.getD_eq_getElem?_getD, cellsD, hr, encR] <;> fail) | fail))
        | refine eX (v := .d (.ep [.str r.name, alts r.alts])) ?_ (hf := (by first | (simp [inB] <;> fail) | (simp [inB]; omega))) (he := (by first | (simp [List.getD_eq_getElem?_getD, cellsD, hr, encR] <;> fail) | fail))
        | refine oX (frz := [1, 19]) Et_ok ?_ (hv := app1) (hf := rfl) (he := rfl)
        | refine eX ?_ (hv := app1) (hf := rfl) (he := rfl)
        | refine oX (frz := [1, 19]) Et_ok ?_ (hv := app0) (hf := rfl) (he := rfl)
        | refine eX ?_ (hv := app0) (hf := rfl) (he := rfl)
        | (refine Run.ret ?_; refine r2 ?_; first | done | (skip))
        | (exact ⟨(i + 1, [.str r.name]), ⟨hlt, hnext⟩, by simp only; omega, weak_of' (by rfl) rfl (by repeat' (first | exact trivial | refine ⟨rfl, ?_⟩ | refine ⟨(inc_get (k := i) (by kernel_rfl) (by omega)), ?_⟩))⟩)
        | fail)
    · have hal' : l.length + 1 ≤ i := hal
      repeat' (first
        | refine Run.region ?_
        | refine Run.seq ?_
        | ((refine oB (frz := [1, 19]) Et_ok (fun h => ?_) (fun h => ?_)) <;> (first | (exfalso; simp at h <;> fail) | (exfalso; simp at h; omega) | skip))
        | ((refine eB (fun h => ?_) (fun h => ?_)) <;> (first | (exfalso; simp at h <;> fail) | (exfalso; simp at h; omega) | skip))
        | refine oX (frz := [1, 19]) Et_ok ?_
        | refine oS ?_
        | refine RunOps.nil ?_
        | refine Run.skip ?_
        | refine cT ?_
        | refine cF ?_
        | refine Run.block ?_
        | refine Run.exit ?_
        | refine Run.draw (frz := [1, 19]) Et_ok (by kernel_rfl) ?_
        | refine eX ?_
        | refine eS ?_
        | refine eN ?_
        | refine oX (frz := [1, 19]) (v := .d (.ep [.str r.name, alts r.alts])) Et_ok ?_ (hf := (by first | (simp [inB] <;> fail) | (simp [inB]; omega))) (he := (by first | (simp [List.getD_eq_getElem?_getD, cellsD, hr, encR] <;> fail) | fail))
        | refine eX (v := .d (.ep [.str r.name, alts r.alts])) ?_ (hf := (by first | (simp [inB] <;> fail) | (simp [inB]; omega))) (he := (by first | (simp [List.getD_eq_getElem?_getD, cellsD, hr, encR] <;> fail) | fail))
        | refine oX (frz := [1, 19]) Et_ok ?_ (hv := app1) (hf := rfl) (he := rfl)
        | refine eX ?_ (hv := app1) (hf := rfl) (he := rfl)
        | refine oX (frz := [1, 19]) Et_ok ?_ (hv := app0) (hf := rfl) (he := rfl)
        | refine eX ?_ (hv := app0) (hf := rfl) (he := rfl)
        | (refine Run.ret ?_; refine r2 ?_; first | done | (skip))
        | (exact ⟨(i + 1, a :: (l ++ [DV.str r.name])), ⟨hlt, hnext⟩, by simp only; omega, weak_of' (by show [Ob.room ((l ++ [_]).length + 1) 1] = [Ob.room (l.length + 1 + 1) 1]; rw [List.length_append]; rfl) rfl (by repeat' (first | exact trivial | refine ⟨rfl, ?_⟩ | refine ⟨(inc_get (k := i) (by kernel_rfl) (by omega)), ?_⟩))⟩)
        | fail)
  · have hge : i = x.rules.length := by omega
    have he : (x.rules.map (·.name)).map DV.str = acc := by rw [hi2, hge, List.take_length, List.map_map]; rfl
    rw [show strs (x.rules.map (·.name)) = .sl 1 ((x.rules.map (·.name)).map DV.str) from rfl, he]
    rcases acc with _ | ⟨a, l⟩
    · repeat' (first
        | refine Run.region ?_
        | refine Run.seq ?_
        | ((refine oB (frz := [1, 19]) Et_ok (fun h => ?_) (fun h => ?_)) <;> (first | (exfalso; simp at h <;> fail) | (exfalso; simp at h; omega) | skip))
        | ((refine eB (fun h => ?_) (fun h => ?_)) <;> (first | (exfalso; simp at h <;> fail) | (exfalso; simp at h; omega) | skip))
        | refine oX (frz := [1, 19]) Et_ok ?_
        | refine oS ?_
        | refine RunOps.nil ?_
        | refine Run.skip ?_
        | refine cT ?_
        | refine cF ?_
        | refine Run.block ?_
        | refine Run.exit ?_
        | refine Run.draw (frz := [1, 19]) Et_ok (by kernel_rfl) ?_
        | refine eX ?_
        | refine eS ?_
        | refine eN ?_
        | (refine Run.ret ?_; refine r2 ?_; first | done | (exact .d .nil))
        | fail)
    · repeat' (first
        | refine Run.region ?_
        | refine Run.seq ?_
        | ((refine oB (frz := [1, 19]) Et_ok (fun h => ?_) (fun h => ?_)) <;> (first | (exfalso; simp at h <;> fail) | (exfalso; simp at h; omega) | skip))
        | ((refine eB (fun h => ?_) (fun h => ?_)) <;> (first | (exfalso; simp at h <;> fail) | (exfalso; simp at h; omega) | skip))
        | refine oX (frz := [1, 19]) Et_ok ?_
        | refine oS ?_
        | refine RunOps.nil ?_
        | refine Run.skip ?_
        | refine cT ?_
        | refine cF ?_
        | refine Run.block ?_
        | refine Run.exit ?_
        | refine Run.draw (frz := [1, 19]) Et_ok (by kernel_rfl) ?_
        | refine eX ?_
        | refine eS ?_
        | refine eN ?_
        | (refine Run.ret ?_; refine r2 ?_; first | done | (exact .refl))
        | fail)
def shortX (x : Src) : Bool := x.rules.any (fun r => r.alts.isEmpty) || x.tokens.isEmpty || x.rules.isEmpty
theorem short08 (x : Src) (hf : FitsX x) : KnownCall Try.prog 75 [encX x] (.d (.bool (shortX x))) := by
  have hrl := hf.rules
  refine knownE Et_ok (fnAt Try.func75 (by kernel_rfl) (by kernel_rfl) : FnAt _ _ (mkFn Try.f75 [1])) ?_
  repeat' (first
    | refine Run.region ?_
    | refine Run.seq ?_
    | ((refine oB (frz := [1]) Et_ok (fun h => ?_) (fun h => ?_)) <;> (first | (exfalso; simp at h <;> fail) | (exfalso; simp at h; omega) | skip))
    | ((refine eB (fun h => ?_) (fun h => ?_)) <;> (first | (exfalso; simp at h <;> fail) | (exfalso; simp at h; omega) | skip))
    | refine oX (frz := [1]) Et_ok ?_
    | refine oS ?_
    | refine RunOps.nil ?_
    | refine Run.skip ?_
    | refine cT ?_
    | refine cF ?_
    | refine Run.block ?_
    | refine Run.exit ?_
    | refine Run.draw (frz := [1]) Et_ok (by kernel_rfl) ?_
    | refine eX ?_
    | refine eS ?_
    | refine eN ?_
    | (refine Run.ret ?_; (first | refine rB ?_ | refine rI ?_ | refine rA ?_ | refine rII ?_ | refine rSI ?_ | refine rT ?_ | refine rS ?_); first | done | (skip))
    | fail)
  refine Run.loop (fun i : Nat => ⟨PT.ofList [(1, cellX x), (3, .d (.int .i64 i))], [], []⟩) (fun i => i ≤ x.rules.length ∧ (x.rules.take i).any (fun r => r.alts.isEmpty) = false) (fun i => x.rules.length - i) 0 ⟨Nat.zero_le _, rfl⟩ (weak_of (by repeat' (first | exact trivial | refine ⟨rfl, ?_⟩))) (fun i hi => ?_)
  rcases Nat.lt_or_ge i x.rules.length with hlt | hge
  · obtain ⟨r, hr⟩ := get_ok hlt
    cases ha : r.alts with
    | nil =>
      have hs : shortX x = true := by unfold shortX; rw [any_hit hr (p := fun r => r.alts.isEmpty) (by simp [ha])]; rfl
      rw [hs]
      repeat' (first
        | refine Run.region ?_
        | refine Run.seq ?_
        | ((refine oB (frz := [1]) Et_ok (fun h => ?_) (fun h => ?_)) <;> (first | (exfalso; simp at h <;> fail) | (exfalso; simp at h; omega) | skip))
        | ((refine eB (fun h => ?_) (fun h => ?_)) <;> (first | (exfalso; simp at h <;> fail) | (exfalso; simp at h; omega) | skip))
        | refine oX (frz := [1]) Et_ok ?_
        | refine oS ?_
        | refine RunOps.nil ?_
        | refine Run.skip ?_
        | refine cT ?_
        | refine cF ?_
        | refine Run.block ?_
        | refine Run.exit ?_
        | refine Run.draw (frz := [1]) Et_ok (by kernel_rfl) ?_
        | refine eX ?_
        | refine eS ?_
        | refine eN ?_
        | refine oX (frz := [1]) (v := .d (.ep [.str r.name, alts []])) Et_ok ?_ (hf := (by first | (simp [inB] <;> fail) | (simp [inB]; omega))) (he := (by first | (simp [List.getD_eq_getElem?_getD, cellsD, hr, encR, ha] <;> fail) | fail))
        | refine eX (v := .d (.ep [.str r.name, alts []])) ?_ (hf := (by first | (simp [inB] <;> fail) | (simp [inB]; omega))) (he := (by first | (simp [List.getD_eq_getElem?_getD, cellsD, hr, encR, ha] <;> fail) | fail))
        | (refine Run.ret ?_; (first | refine rB ?_ | refine rI ?_ | refine rA ?_ | refine rII ?_ | refine rSI ?_ | refine rT ?_ | refine rS ?_); first | done | (rfl))
        | ((exfalso; (simp at h <;> fail)))
        | fail)
    | cons a l =>
      repeat' (first
        | refine Run.region ?_
        | refine Run.seq ?_
        | ((refine oB (frz := [1]) Et_ok (fun h => ?_) (fun h => ?_)) <;> (first | (exfalso; simp at h <;> fail) | (exfalso; simp at h; omega) | skip))
        | ((refine eB (fun h => ?_) (fun h => ?_)) <;> (first | (exfalso; simp at h <;> fail) | (exfalso; simp at h; omega) | skip))
        | refine oX (frz := [1]) Et_ok ?_
        | refine oS ?_
        | refine RunOps.nil ?_
        | refine Run.skip ?_
        | refine cT ?_
        | refine cF ?_
        | refine Run.block ?_
        | refine Run.exit ?_
        | refine Run.draw (frz := [1]) Et_ok (by kernel_rfl) ?_
        | refine eX ?_
        | refine eS ?_
        | refine eN ?_
        | refine oX (frz := [1]) (v := .d (.ep [.str r.name, alts (a :: l)])) Et_ok ?_ (hf := (by first | (simp [inB] <;> fail) | (simp [inB]; omega))) (he := (by first | (simp [List.getD_eq_getElem?_getD, cellsD, hr, encR, ha] <;> fail) | fail))
        | refine eX (v := .d (.ep [.str r.name, alts (a :: l)])) ?_ (hf := (by first | (simp [inB] <;> fail) | (simp [inB]; omega))) (he := (by first | (simp [List.getD_eq_getElem?_getD, cellsD, hr, encR, ha] <;> fail) | fail))
        | (refine Run.ret ?_; (first | refine rB ?_ | refine rI ?_ | refine rA ?_ | refine rII ?_ | refine rSI ?_ | refine rT ?_ | refine rS ?_); first | done | ((exfalso; (simp at h <;> omega))))
        | (exact ⟨i + 1, ⟨hlt, any_next hr hi.2 (by simp [ha])⟩, by omega, weak_of (by repeat' (first | exact trivial | refine ⟨rfl, ?_⟩ | refine ⟨(inc_get (k := i) (by kernel_rfl) (by omega)), ?_⟩))⟩)
        | fail)
  · have hie : i = x.rules.length := by omega
    subst hie
    have hs : shortX x = (x.tokens.isEmpty || x.rules.isEmpty) := by unfold shortX; rw [any_end hi.2]; simp
    rw [hs]
    cases ht : x.tokens with
    | nil => repeat' (first
               | refine Run.region ?_
               | refine Run.seq ?_
               | ((refine oB (frz := [1]) Et_ok (fun h => ?_) (fun h => ?_)) <;> (first | (exfalso; simp at h <;> fail) | (exfalso; simp at h; omega) | skip))
               | ((refine eB (fun h => ?_) (fun h => ?_)) <;> (first | (exfalso; simp at h <;> fail) | (exfalso; simp at h; omega) | skip))
               | refine oX (frz := [1]) Et_ok ?_
               | refine oS ?_
               | refine RunOps.nil ?_
               | refine Run.skip ?_
               | refine cT ?_
               | refine cF ?_
               | refine Run.block ?_
               | refine Run.exit ?_
               | refine Run.draw (frz := [1]) Et_ok (by kernel_rfl) ?_
               | refine eX ?_
               | refine eS ?_
               | refine eN ?_
               | (refine Run.ret ?_; (first | refine rB ?_ | refine rI ?_ | refine rA ?_ | refine rII ?_ | refine rSI ?_ | refine rT ?_ | refine rS ?_); first | done | (rfl))
               | ((exfalso; (simp_all <;> fail)))
               | ((exfalso; (simp_all <;> omega)))
               | fail)
    | cons t ts =>
      cases hx : x.rules with
      | nil => repeat' (first
                 | refine Run.region ?_
                 | refine Run.seq ?_
                 | ((refine oB (frz := [1]) Et_ok (fun h => ?_) (fun h => ?_)) <;> (first | (exfalso; simp at h <;> fail) | (exfalso; simp at h; omega) | skip))
                 | ((refine eB (fun h => ?_) (fun h => ?_)) <;> (first | (exfalso; simp at h <;> fail) | (exfalso; simp at h; omega) | skip))
                 | refine oX (frz := [1]) Et_ok ?_
                 | refine oS ?_
                 | refine RunOps.nil ?_
                 | refine Run.skip ?_
                 | refine cT ?_
                 | refine cF ?_
                 | refine Run.block ?_
                 | refine Run.exit ?_
                 | refine Run.draw (frz := [1]) Et_ok (by kernel_rfl) ?_
                 | refine eX ?_
                 | refine eS ?_
                 | refine eN ?_
                 | (refine Run.ret ?_; (first | refine rB ?_ | refine rI ?_ | refine rA ?_ | refine rII ?_ | refine rSI ?_ | refine rT ?_ | refine rS ?_); first | done | (rfl))
                 | ((exfalso; (simp_all <;> fail)))
                 | ((exfalso; (simp_all <;> omega)))
                 | fail)
      | cons r rs => repeat' (first
                       | refine Run.region ?_
                       | refine Run.seq ?_
                       | ((refine oB (frz := [1]) Et_ok (fun h => ?_) (fun h => ?_)) <;> (first | (exfalso; simp at h <;> fail) | (exfalso; simp at h; omega) | skip))
                       | ((refine eB (fun h => ?_) (fun h => ?_)) <;> (first | (exfalso; simp at h <;> fail) | (exfalso; simp at h; omega) | skip))
                       | refine oX (frz := [1]) Et_ok ?_
                       | refine oS ?_
                       | refine RunOps.nil ?_
                       | refine Run.skip ?_
                       | refine cT ?_
                       | refine cF ?_
                       | refine Run.block ?_
                       | refine Run.exit ?_
                       | refine Run.draw (frz := [1]) Et_ok (by kernel_rfl) ?_
                       | refine eX ?_
                       | refine eS ?_
                       | refine eN ?_
                       | (refine Run.ret ?_; (first | refine rB ?_ | refine rI ?_ | refine rA ?_ | refine rII ?_ | refine rSI ?_ | refine rT ?_ | refine rS ?_); first | done | (rfl))
                       | ((exfalso; (simp_all <;> fail)))
                       | ((exfalso; (simp_all <;> omega)))
                       | fail)
theorem twice08 (l : List (List Nat)) (hl : l.length ≤ 1099511627776) : KnownCall Try.prog 78 [strs l] (.d (.bool (decide (¬ l.Nodup)))) := by
  refine knownE Et_ok (fnAt Try.func78 (by kernel_rfl) (by kernel_rfl) : FnAt _ _ (mkFn Try.f78 [])) ?_
  repeat' (first
    | refine Run.region ?_
    | refine Run.seq ?_
    | ((refine oB (frz := []) Et_ok (fun h => ?_) (fun h => ?_)) <;> (first | (exfalso; simp at h <;> fail) | (exfalso; simp at h; omega) | skip))
    | ((refine eB (fun h => ?_) (fun h => ?_)) <;> (first | (exfalso; simp at h <;> fail) | (exfalso; simp at h; omega) | skip))
    | refine oX (frz := []) Et_ok ?_
    | refine oS ?_
    | refine RunOps.nil ?_
    | refine Run.skip ?_
    | refine cT ?_
    | refine cF ?_
    | refine Run.block ?_
    | refine Run.exit ?_
    | refine Run.draw (frz := []) Et_ok (by kernel_rfl) ?_
    | refine eX ?_
    | refine eS ?_
    | refine eN ?_
    | (refine Run.ret ?_; (first | refine rB ?_ | refine rI ?_ | refine rA ?_ | refine rII ?_ | refine rSI ?_ | refine rT ?_ | refine rS ?_); first | done | (skip))
    | fail)
  refine Run.loop (fun i : Nat => ⟨PT.ofList [(0, .d (strs l)), (3, .d (.int .i64 i))], [], []⟩) (fun i => i ≤ l.length ∧ (l.take i).Nodup) (fun i => l.length - i) 0 ⟨Nat.zero_le _, by simp⟩ (weak_of (by repeat' (first | exact trivial | refine ⟨rfl, ?_⟩))) (fun i hi => ?_)
  rcases Nat.lt_or_ge i l.length with hlt | hge
  · obtain ⟨x, hx⟩ := get_ok hlt
    have hh := has08 (l.take i) x (by simp; omega)
    have hc : AV.d (DV.sl 1 (cutL none (some (i : Int)) (l.map DV.str))) = .d (strs (l.take i)) := by simp [cutL, List.map_take]
    by_cases hm : x ∈ l.take i
    · rw [show (l.take i).any (fun y => decide (y = x)) = true from List.any_eq_true.2 ⟨x, hm, by simp⟩] at hh
      rw [decide_eq_true (nodup_not hx hm)]
      repeat' (first
        | refine Run.region ?_
        | refine Run.seq ?_
        | ((refine oB (frz := []) Et_ok (fun h => ?_) (fun h => ?_)) <;> (first | (exfalso; simp at h <;> fail) | (exfalso; simp at h; omega) | skip))
        | ((refine eB (fun h => ?_) (fun h => ?_)) <;> (first | (exfalso; simp at h <;> fail) | (exfalso; simp at h; omega) | skip))
        | refine oX (frz := []) Et_ok ?_
        | refine oS ?_
        | refine RunOps.nil ?_
        | refine Run.skip ?_
        | refine cT ?_
        | refine cF ?_
        | refine Run.block ?_
        | refine Run.exit ?_
        | refine Run.draw (frz := []) Et_ok (by kernel_rfl) ?_
        | refine eX ?_
        | refine eS ?_
        | refine eN ?_
        | refine oC (hh) ?_
        | refine eC (hh) ?_
        | refine oX (frz := []) (v := .d (.ep [.str x])) Et_ok ?_ (hf := (by first | (simp [inB] <;> fail) | (simp [inB]; omega))) (he := (by first | (simp [List.getD_eq_getElem?_getD, cellsD, hx] <;> fail) | fail))
        | refine eX (v := .d (.ep [.str x])) ?_ (hf := (by first | (simp [inB] <;> fail) | (simp [inB]; omega))) (he := (by first | (simp [List.getD_eq_getElem?_getD, cellsD, hx] <;> fail) | fail))
        | refine eX (v := .d (strs (l.take i))) ?_ (hf := by first | (simp [cutC, maxC] <;> fail) | (simp [cutC, maxC]; omega)) (he := hc)
        | (refine Run.ret ?_; (first | refine rB ?_ | refine rI ?_ | refine rA ?_ | refine rII ?_ | refine rSI ?_ | refine rT ?_ | refine rS ?_); first | done | (rfl))
        | ((exfalso; (simp at h <;> omega)))
        | fail)
    · rw [show (l.take i).any (fun y => decide (y = x)) = false from by rw [List.any_eq_false]; intro y hy he; exact hm (by simpa using (by simpa using he : y = x) ▸ hy)] at hh
      have hn := nodup_take hx hi.2 hm
      repeat' (first
        | refine Run.region ?_
        | refine Run.seq ?_
        | ((refine oB (frz := []) Et_ok (fun h => ?_) (fun h => ?_)) <;> (first | (exfalso; simp at h <;> fail) | (exfalso; simp at h; omega) | skip))
        | ((refine eB (fun h => ?_) (fun h => ?_)) <;> (first | (exfalso; simp at h <;> fail) | (exfalso; simp at h; omega) | skip))
        | refine oX (frz := []) Et_ok ?_
        | refine oS ?_
        | refine RunOps.nil ?_
        | refine Run.skip ?_
        | refine cT ?_
        | refine cF ?_
        | refine Run.block ?_
        | refine Run.exit ?_
        | refine Run.draw (frz := []) Et_ok (by kernel_rfl) ?_
        | refine eX ?_
        | refine eS ?_
        | refine eN ?_
        | refine oC (hh) ?_
        | refine eC (hh) ?_
        | refine oX (frz := []) (v := .d (.ep [.str x])) Et_ok ?_ (hf := (by first | (simp [inB] <;> fail) | (simp [inB]; omega))) (he := (by first | (simp [List.getD_eq_getElem?_getD, cellsD, hx] <;> fail) | fail))
        | refine eX (v := .d (.ep [.str x])) ?_ (hf := (by first | (simp [inB] <;> fail) | (simp [inB]; omega))) (he := (by first | (simp [List.getD_eq_getElem?_getD, cellsD, hx] <;> fail) | fail))
        | refine eX (v := .d (strs (l.take i))) ?_ (hf := by first | (simp [cutC, maxC] <;> fail) | (simp [cutC, maxC]; omega)) (he := hc)
        | (refine Run.ret ?_; (first | refine rB ?_ | refine rI ?_ | refine rA ?_ | refine rII ?_ | refine rSI ?_ | refine rT ?_ | refine rS ?_); first | done | ((exfalso; (simp at h <;> omega))))
        | (exact ⟨i + 1, ⟨hlt, hn⟩, by omega, weak_of (by repeat' (first | exact trivial | refine ⟨rfl, ?_⟩ | refine ⟨(inc_get (k := i) (by kernel_rfl) (by omega)), ?_⟩))⟩)
        | fail)
  · have hie : i = l.length := by omega
    subst hie
    have hn := hi.2
    rw [List.take_length] at hn
    rw [decide_eq_false (by simpa using hn)]
    repeat' (first
      | refine Run.region ?_
      | refine Run.seq ?_
      | ((refine oB (frz := []) Et_ok (fun h => ?_) (fun h => ?_)) <;> (first | (exfalso; simp at h <;> fail) | (exfalso; simp at h; omega) | skip))
      | ((refine eB (fun h => ?_) (fun h => ?_)) <;> (first | (exfalso; simp at h <;> fail) | (exfalso; simp at h; omega) | skip))
      | refine oX (frz := []) Et_ok ?_
      | refine oS ?_
      | refine RunOps.nil ?_
      | refine Run.skip ?_
      | refine cT ?_
      | refine cF ?_
      | refine Run.block ?_
      | refine Run.exit ?_
      | refine Run.draw (frz := []) Et_ok (by kernel_rfl) ?_
      | refine eX ?_
      | refine eS ?_
      | refine eN ?_
      | (refine Run.ret ?_; (first | refine rB ?_ | refine rI ?_ | refine rA ?_ | refine rII ?_ | refine rSI ?_ | refine rT ?_ | refine rS ?_); first | done | (rfl))
      | fail)
end Go.Av
end
noncomputable section
namespace Go.Av
open Go Go.Proofs
set_option maxRecDepth 10000
end Go.Av
end
noncomputable section
namespace Go.Av
open Go Go.Proofs
set_option maxRecDepth 10000
theorem vN8 {x : Int} {n : Nat} (h : x = (n : Int)) (hn : n ≤ 1099511627776) : AV.d (.int .i64 (IntKind.i64.wrap x)) = .d (.int .i64 (n : Int)) := by
  subst h; exact congrArg (fun n => AV.d (.int .i64 n)) (wrap_nat hn)
def longA (a : List (List Nat)) : Bool := decide (6 < a.length)
def sumTo (x : Src) (i : Nat) : Nat := ((x.rules.take i).map (·.alts.length)).sum
theorem sumTo_succ {x : Src} {i : Nat} {r : SRule} (h : x.rules[i]? = some r) : sumTo x (i + 1) = sumTo x i + r.alts.length := by
  simp [sumTo, List.take_add_one, h]
theorem sumTo_le {x : Src} (hf : FitsX x) : ∀ {i : Nat}, i ≤ x.rules.length → sumTo x i ≤ i * 1048576
  | 0, _ => by simp [sumTo]
  | i + 1, hi => by
    obtain ⟨r, hr⟩ := get_ok (show i < x.rules.length by omega)
    have h1 := sumTo_le hf (i := i) (by omega)
    have h2 := hf.alts r (List.mem_of_getElem? hr)
    rw [sumTo_succ hr, Nat.succ_mul]; omega
theorem le_sum : ∀ {l : List Nat} {a : Nat}, a ∈ l → a ≤ l.sum
  | b :: l, a, h => by
    rw [List.sum_cons]
    rcases List.mem_cons.1 h with rfl | h
    · omega
    · have := le_sum h; omega
theorem le_sumTo {x : Src} {r : SRule} (h : r ∈ x.rules) : r.alts.length ≤ sumTo x x.rules.length := by
  unfold sumTo
  rw [List.take_length]
  obtain ⟨i, hi, rfl⟩ := List.getElem_of_mem h
  exact le_sum (List.mem_map.2 ⟨_, h, rfl⟩)
def fullX (x : Src) : Bool := x.rules.any (fun r => r.alts.any longA) || decide (8 < x.tokens.length) || decide (8 < x.rules.length) || decide (24 < sumTo x x.rules.length)
theorem fullX_end {x : Src} (h : (x.rules.take x.rules.length).any (fun r => (r.alts.take 25).any longA) = false) : fullX x = (decide (8 < x.tokens.length) || decide (8 < x.rules.length) || decide (24 < sumTo x x.rules.length)) := by
  by_cases hs : 24 < sumTo x x.rules.length
  · simp [fullX, hs]
  · have : x.rules.any (fun r => r.alts.any longA) = false := by
      rw [List.any_eq_false]
      intro r hr
      have h1 := le_sumTo hr
      rw [List.take_length, List.any_eq_false] at h
      have h2 := h r hr
      rw [List.take_of_length_le (by omega)] at h2
      exact h2
    simp [fullX, this]
theorem full08 (x : Src) (hf : FitsX x) : KnownCall Try.prog 76 [encX x] (.d (.bool (fullX x))) := by
  have hrl := hf.rules
  refine knownE Et_ok (fnAt Try.func76 (by kernel_rfl) (by kernel_rfl) : FnAt _ _ (mkFn Try.f76 [1])) ?_
  repeat' (first
    | refine Run.region ?_
    | refine Run.seq ?_
    | ((refine oB (frz := [1]) Et_ok (fun h => ?_) (fun h => ?_)) <;> (first | (exfalso; simp at h <;> fail) | (exfalso; simp at h; omega) | skip))
    | ((refine eB (fun h => ?_) (fun h => ?_)) <;> (first | (exfalso; simp at h <;> fail) | (exfalso; simp at h; omega) | skip))
    | refine oX (frz := [1]) Et_ok ?_
    | refine oS ?_
    | refine RunOps.nil ?_
    | refine Run.skip ?_
    | refine cT ?_
    | refine cF ?_
    | refine Run.block ?_
    | refine Run.exit ?_
    | refine Run.draw (frz := [1]) Et_ok (by kernel_rfl) ?_
    | refine eX ?_
    | refine eS ?_
    | refine eN ?_
    | (refine Run.ret ?_; (first | refine rB ?_ | refine rI ?_ | refine rA ?_ | refine rII ?_ | refine rSI ?_ | refine rT ?_ | refine rS ?_); first | done | (skip))
    | fail)
  refine Run.loop (fun i : Nat => ⟨PT.ofList [(1, cellX x), (3, .d (.int .i64 (sumTo x i : Nat))), (4, .d (.int .i64 i))], [], []⟩) (fun i => i ≤ x.rules.length ∧ i ≤ 9 ∧ (x.rules.take i).any (fun r => (r.alts.take 25).any longA) = false) (fun i => x.rules.length - i) 0 ⟨Nat.zero_le _, Nat.zero_le _, rfl⟩ (weak_of (by repeat' (first | exact trivial | refine ⟨rfl, ?_⟩))) (fun i hi => ?_)
  obtain ⟨hi1, hi2, hi3⟩ := hi
  by_cases hlt : i < x.rules.length ∧ i ≤ 8
  · obtain ⟨hl1, hl2⟩ := hlt
    obtain ⟨r, hr⟩ := get_ok hl1
    have hra := hf.alts r (List.mem_of_getElem? hr)
    have hsl := sumTo_le hf (i := i) hi1
    have hsum : AV.d (.int .i64 (IntKind.i64.wrap ((sumTo x i : Nat) + ((r.alts.map strs).length : Int)))) = .d (.int .i64 (sumTo x (i + 1) : Nat)) := vN8 (by rw [sumTo_succ hr]; simp) (by rw [sumTo_succ hr]; omega)
    repeat' (first
      | refine oX (frz := [1]) (v := .d (.int .i64 (sumTo x (i + 1) : Nat))) Et_ok ?_ (he := (hsum))
      | refine eX (v := .d (.int .i64 (sumTo x (i + 1) : Nat))) ?_ (he := (hsum))
      | refine Run.region ?_
      | refine Run.seq ?_
      | ((refine oB (frz := [1]) Et_ok (fun h => ?_) (fun h => ?_)) <;> (first | (exfalso; simp at h <;> fail) | (exfalso; simp at h; omega) | skip))
      | ((refine eB (fun h => ?_) (fun h => ?_)) <;> (first | (exfalso; simp at h <;> fail) | (exfalso; simp at h; omega) | skip))
      | refine oX (frz := [1]) Et_ok ?_
      | refine oS ?_
      | refine RunOps.nil ?_
      | refine Run.skip ?_
      | refine cT ?_
      | refine cF ?_
      | refine Run.block ?_
      | refine Run.exit ?_
      | refine Run.draw (frz := [1]) Et_ok (by kernel_rfl) ?_
      | refine eX ?_
      | refine eS ?_
      | refine eN ?_
      | refine oX (frz := [1]) (v := .d (.ep [.str r.name, alts r.alts])) Et_ok ?_ (hf := (by first | (simp [inB] <;> fail) | (simp [inB]; omega))) (he := (by first | (simp [List.getD_eq_getElem?_getD, cellsD, hr, encR] <;> fail) | fail))
      | refine eX (v := .d (.ep [.str r.name, alts r.alts])) ?_ (hf := (by first | (simp [inB] <;> fail) | (simp [inB]; omega))) (he := (by first | (simp [List.getD_eq_getElem?_getD, cellsD, hr, encR] <;> fail) | fail))
      | (refine Run.ret ?_; (first | refine rB ?_ | refine rI ?_ | refine rA ?_ | refine rII ?_ | refine rSI ?_ | refine rT ?_ | refine rS ?_); first | done | (skip))
      | ((exfalso; (simp at h <;> omega)))
      | fail)
    refine Run.loop (fun k : Nat => ⟨PT.ofList [(1, cellX x), (3, .d (.int .i64 (sumTo x (i + 1) : Nat))), (4, .d (.int .i64 i)), (5, .d (.int .i64 k))], [], []⟩) (fun k => k ≤ r.alts.length ∧ k ≤ 25 ∧ (r.alts.take k).any longA = false) (fun k => r.alts.length - k) 0 ⟨Nat.zero_le _, Nat.zero_le _, rfl⟩ (weak_of (by repeat' (first | exact trivial | refine ⟨rfl, ?_⟩))) (fun k hk => ?_)
    obtain ⟨hk1, hk2, hk3⟩ := hk
    by_cases hkl : k < r.alts.length ∧ k ≤ 24
    · obtain ⟨hm1, hm2⟩ := hkl
      obtain ⟨a, ha⟩ := get_ok hm1
      cases hla : longA a with
      | true =>
        have hfx : fullX x = true := by unfold fullX; rw [any_hit hr (p := fun r => r.alts.any longA) (any_hit ha hla)]; rfl
        have hla' : 6 < a.length := by simpa [longA] using hla
        rw [hfx]
        repeat' (first
          | refine Run.region ?_
          | refine Run.seq ?_
          | ((refine oB (frz := [1]) Et_ok (fun h => ?_) (fun h => ?_)) <;> (first | (exfalso; simp at h <;> fail) | (exfalso; simp at h; omega) | skip))
          | ((refine eB (fun h => ?_) (fun h => ?_)) <;> (first | (exfalso; simp at h <;> fail) | (exfalso; simp at h; omega) | skip))
          | refine oX (frz := [1]) Et_ok ?_
          | refine oS ?_
          | refine RunOps.nil ?_
          | refine Run.skip ?_
          | refine cT ?_
          | refine cF ?_
          | refine Run.block ?_
          | refine Run.exit ?_
          | refine Run.draw (frz := [1]) Et_ok (by kernel_rfl) ?_
          | refine eX ?_
          | refine eS ?_
          | refine eN ?_
          | refine oX (frz := [1]) (v := .d (.ep [.str r.name, alts r.alts])) Et_ok ?_ (hf := (by first | (simp [inB] <;> fail) | (simp [inB]; omega))) (he := (by first | (simp [List.getD_eq_getElem?_getD, cellsD, hr, encR] <;> fail) | fail))
          | refine eX (v := .d (.ep [.str r.name, alts r.alts])) ?_ (hf := (by first | (simp [inB] <;> fail) | (simp [inB]; omega))) (he := (by first | (simp [List.getD_eq_getElem?_getD, cellsD, hr, encR] <;> fail) | fail))
          | refine oX (frz := [1]) (v := .d (.ep [strs a])) Et_ok ?_ (hf := (by first | (simp [inB] <;> fail) | (simp [inB]; omega))) (he := (by first | (simp [List.getD_eq_getElem?_getD, cellsD, ha] <;> fail) | fail))
          | refine eX (v := .d (.ep [strs a])) ?_ (hf := (by first | (simp [inB] <;> fail) | (simp [inB]; omega))) (he := (by first | (simp [List.getD_eq_getElem?_getD, cellsD, ha] <;> fail) | fail))
          | (refine Run.ret ?_; (first | refine rB ?_ | refine rI ?_ | refine rA ?_ | refine rII ?_ | refine rSI ?_ | refine rT ?_ | refine rS ?_); first | done | (rfl))
          | ((exfalso; (simp at h <;> omega)))
          | fail)
      | false =>
        have hla' : ¬ 6 < a.length := by simpa [longA] using hla
        repeat' (first
          | refine Run.region ?_
          | refine Run.seq ?_
          | ((refine oB (frz := [1]) Et_ok (fun h => ?_) (fun h => ?_)) <;> (first | (exfalso; simp at h <;> fail) | (exfalso; simp at h; omega) | skip))
          | ((refine eB (fun h => ?_) (fun h => ?_)) <;> (first | (exfalso; simp at h <;> fail) | (exfalso; simp at h; omega) | skip))
          | refine oX (frz := [1]) Et_ok ?_
          | refine oS ?_
          | refine RunOps.nil ?_
          | refine Run.skip ?_
          | refine cT ?_
          | refine cF ?_
          | refine Run.block ?_
          | refine Run.exit ?_
          | refine Run.draw (frz := [1]) Et_ok (by kernel_rfl) ?_
          | refine eX ?_
          | refine eS ?_
          | refine eN ?_
          | refine oX (frz := [1]) (v := .d (.ep [.str r.name, alts r.alts])) Et_ok ?_ (hf := (by first | (simp [inB] <;> fail) | (simp [inB]; omega))) (he := (by first | (simp [List.getD_eq_getElem?_getD, cellsD, hr, encR] <;> fail) | fail))
          | refine eX (v := .d (.ep [.str r.name, alts r.alts])) ?_ (hf := (by first | (simp [inB] <;> fail) | (simp [inB]; omega))) (he := (by first | (simp [List.getD_eq_getElem?_getD, cellsD, hr, encR] <;> fail) | fail))
          | refine oX (frz := [1]) (v := .d (.ep [strs a])) Et_ok ?_ (hf := (by first | (simp [inB] <;> fail) | (simp [inB]; omega))) (he := (by first | (simp [List.getD_eq_getElem?_getD, cellsD, ha] <;> fail) | fail))
          | refine eX (v := .d (.ep [strs a])) ?_ (hf := (by first | (simp [inB] <;> fail) | (simp [inB]; omega))) (he := (by first | (simp [List.getD_eq_getElem?_getD, cellsD, ha] <;> fail) | fail))
          | (refine Run.ret ?_; (first | refine rB ?_ | refine rI ?_ | refine rA ?_ | refine rII ?_ | refine rSI ?_ | refine rT ?_ | refine rS ?_); first | done | ((exfalso; (simp at h <;> omega))))
          | (exact ⟨k + 1, ⟨by omega, by omega, any_next ha hk3 hla⟩, by omega, weak_of (by repeat' (first | exact trivial | refine ⟨rfl, ?_⟩ | refine ⟨(inc_get (k := k) (by kernel_rfl) (by omega)), ?_⟩))⟩)
          | ((exfalso; (simp at h <;> omega)))
          | fail)
    · have hall : (r.alts.take 25).any longA = false := by
        rcases Nat.lt_or_ge k 25 with hc | hc
        · have : k = r.alts.length := by omega
          subst this
          rw [List.take_length] at hk3
          rw [List.take_of_length_le (by omega)]; exact hk3
        · have : k = 25 := by omega
          subst this; exact hk3
      by_cases hka : k < r.alts.length
      · have hkb : ¬ k ≤ 24 := fun e => hkl ⟨hka, e⟩
        repeat' (first
          | refine Run.region ?_
          | refine Run.seq ?_
          | ((refine oB (frz := [1]) Et_ok (fun h => ?_) (fun h => ?_)) <;> (first | (exfalso; simp at h <;> fail) | (exfalso; simp at h; omega) | skip))
          | ((refine eB (fun h => ?_) (fun h => ?_)) <;> (first | (exfalso; simp at h <;> fail) | (exfalso; simp at h; omega) | skip))
          | refine oX (frz := [1]) Et_ok ?_
          | refine oS ?_
          | refine RunOps.nil ?_
          | refine Run.skip ?_
          | refine cT ?_
          | refine cF ?_
          | refine Run.block ?_
          | refine Run.exit ?_
          | refine Run.draw (frz := [1]) Et_ok (by kernel_rfl) ?_
          | refine eX ?_
          | refine eS ?_
          | refine eN ?_
          | refine oX (frz := [1]) (v := .d (.ep [.str r.name, alts r.alts])) Et_ok ?_ (hf := (by first | (simp [inB] <;> fail) | (simp [inB]; omega))) (he := (by first | (simp [List.getD_eq_getElem?_getD, cellsD, hr, encR] <;> fail) | fail))
          | refine eX (v := .d (.ep [.str r.name, alts r.alts])) ?_ (hf := (by first | (simp [inB] <;> fail) | (simp [inB]; omega))) (he := (by first | (simp [List.getD_eq_getElem?_getD, cellsD, hr, encR] <;> fail) | fail))
          | (refine Run.ret ?_; (first | refine rB ?_ | refine rI ?_ | refine rA ?_ | refine rII ?_ | refine rSI ?_ | refine rT ?_ | refine rS ?_); first | done | (skip))
          | (exact ⟨i + 1, ⟨by omega, by omega, any_next hr hi3 hall⟩, by omega, weak_of (by repeat' (first | exact trivial | refine ⟨rfl, ?_⟩ | refine ⟨(inc_get (k := i) (by kernel_rfl) (by omega)), ?_⟩))⟩)
          | ((exfalso; (simp at h <;> omega)))
          | fail)
      · repeat' (first
          | refine Run.region ?_
          | refine Run.seq ?_
          | ((refine oB (frz := [1]) Et_ok (fun h => ?_) (fun h => ?_)) <;> (first | (exfalso; simp at h <;> fail) | (exfalso; simp at h; omega) | skip))
          | ((refine eB (fun h => ?_) (fun h => ?_)) <;> (first | (exfalso; simp at h <;> fail) | (exfalso; simp at h; omega) | skip))
          | refine oX (frz := [1]) Et_ok ?_
          | refine oS ?_
          | refine RunOps.nil ?_
          | refine Run.skip ?_
          | refine cT ?_
          | refine cF ?_
          | refine Run.block ?_
          | refine Run.exit ?_
          | refine Run.draw (frz := [1]) Et_ok (by kernel_rfl) ?_
          | refine eX ?_
          | refine eS ?_
          | refine eN ?_
          | refine oX (frz := [1]) (v := .d (.ep [.str r.name, alts r.alts])) Et_ok ?_ (hf := (by first | (simp [inB] <;> fail) | (simp [inB]; omega))) (he := (by first | (simp [List.getD_eq_getElem?_getD, cellsD, hr, encR] <;> fail) | fail))
          | refine eX (v := .d (.ep [.str r.name, alts r.alts])) ?_ (hf := (by first | (simp [inB] <;> fail) | (simp [inB]; omega))) (he := (by first | (simp [List.getD_eq_getElem?_getD, cellsD, hr, encR] <;> fail) | fail))
          | (refine Run.ret ?_; (first | refine rB ?_ | refine rI ?_ | refine rA ?_ | refine rII ?_ | refine rSI ?_ | refine rT ?_ | refine rS ?_); first | done | (skip))
          | (exact ⟨i + 1, ⟨by omega, by omega, any_next hr hi3 hall⟩, by omega, weak_of (by repeat' (first | exact trivial | refine ⟨rfl, ?_⟩ | refine ⟨(inc_get (k := i) (by kernel_rfl) (by omega)), ?_⟩))⟩)
          | ((exfalso; (simp at h <;> omega)))
          | fail)
  · by_cases h8 : 8 < x.rules.length
    · have hi9 : i = 9 := by omega
      subst hi9
      have hfx : fullX x = true := by simp [fullX, h8]
      rw [hfx]
      by_cases ht : 8 < x.tokens.length
      · by_cases hn : 9 < x.rules.length
        · repeat' (first
            | refine Run.region ?_
            | refine Run.seq ?_
            | ((refine oB (frz := [1]) Et_ok (fun h => ?_) (fun h => ?_)) <;> (first | (exfalso; simp at h <;> fail) | (exfalso; simp at h; omega) | skip))
            | ((refine eB (fun h => ?_) (fun h => ?_)) <;> (first | (exfalso; simp at h <;> fail) | (exfalso; simp at h; omega) | skip))
            | refine oX (frz := [1]) Et_ok ?_
            | refine oS ?_
            | refine RunOps.nil ?_
            | refine Run.skip ?_
            | refine cT ?_
            | refine cF ?_
            | refine Run.block ?_
            | refine Run.exit ?_
            | refine Run.draw (frz := [1]) Et_ok (by kernel_rfl) ?_
            | refine eX ?_
            | refine eS ?_
            | refine eN ?_
            | (refine Run.ret ?_; (first | refine rB ?_ | refine rI ?_ | refine rA ?_ | refine rII ?_ | refine rSI ?_ | refine rT ?_ | refine rS ?_); first | done | (rfl))
            | ((exfalso; (simp at h <;> omega)))
            | fail)
        · repeat' (first
            | refine Run.region ?_
            | refine Run.seq ?_
            | ((refine oB (frz := [1]) Et_ok (fun h => ?_) (fun h => ?_)) <;> (first | (exfalso; simp at h <;> fail) | (exfalso; simp at h; omega) | skip))
            | ((refine eB (fun h => ?_) (fun h => ?_)) <;> (first | (exfalso; simp at h <;> fail) | (exfalso; simp at h; omega) | skip))
            | refine oX (frz := [1]) Et_ok ?_
            | refine oS ?_
            | refine RunOps.nil ?_
            | refine Run.skip ?_
            | refine cT ?_
            | refine cF ?_
            | refine Run.block ?_
            | refine Run.exit ?_
            | refine Run.draw (frz := [1]) Et_ok (by kernel_rfl) ?_
            | refine eX ?_
            | refine eS ?_
            | refine eN ?_
            | (refine Run.ret ?_; (first | refine rB ?_ | refine rI ?_ | refine rA ?_ | refine rII ?_ | refine rSI ?_ | refine rT ?_ | refine rS ?_); first | done | (rfl))
            | ((exfalso; (simp at h <;> omega)))
            | fail)
      · by_cases hn : 9 < x.rules.length
        · repeat' (first
            | refine Run.region ?_
            | refine Run.seq ?_
            | ((refine oB (frz := [1]) Et_ok (fun h => ?_) (fun h => ?_)) <;> (first | (exfalso; simp at h <;> fail) | (exfalso; simp at h; omega) | skip))
            | ((refine eB (fun h => ?_) (fun h => ?_)) <;> (first | (exfalso; simp at h <;> fail) | (exfalso; simp at h; omega) | skip))
            | refine oX (frz := [1]) Et_ok ?_
            | refine oS ?_
            | refine RunOps.nil ?_
            | refine Run.skip ?_
            | refine cT ?_
            | refine cF ?_
            | refine Run.block ?_
            | refine Run.exit ?_
            | refine Run.draw (frz := [1]) Et_ok (by kernel_rfl) ?_
            | refine eX ?_
            | refine eS ?_
            | refine eN ?_
            | (refine Run.ret ?_; (first | refine rB ?_ | refine rI ?_ | refine rA ?_ | refine rII ?_ | refine rSI ?_ | refine rT ?_ | refine rS ?_); first | done | (rfl))
            | ((exfalso; (simp at h <;> omega)))
            | fail)
        · repeat' (first
            | refine Run.region ?_
            | refine Run.seq ?_
            | ((refine oB (frz := [1]) Et_ok (fun h => ?_) (fun h => ?_)) <;> (first | (exfalso; simp at h <;> fail) | (exfalso; simp at h; omega) | skip))
            | ((refine eB (fun h => ?_) (fun h => ?_)) <;> (first | (exfalso; simp at h <;> fail) | (exfalso; simp at h; omega) | skip))
            | refine oX (frz := [1]) Et_ok ?_
            | refine oS ?_
            | refine RunOps.nil ?_
            | refine Run.skip ?_
            | refine cT ?_
            | refine cF ?_
            | refine Run.block ?_
            | refine Run.exit ?_
            | refine Run.draw (frz := [1]) Et_ok (by kernel_rfl) ?_
            | refine eX ?_
            | refine eS ?_
            | refine eN ?_
            | (refine Run.ret ?_; (first | refine rB ?_ | refine rI ?_ | refine rA ?_ | refine rII ?_ | refine rSI ?_ | refine rT ?_ | refine rS ?_); first | done | (rfl))
            | ((exfalso; (simp at h <;> omega)))
            | fail)
    · have hie : i = x.rules.length := by omega
      subst hie
      rw [fullX_end hi3, decide_eq_false h8]
      by_cases ht : 8 < x.tokens.length
      · rw [decide_eq_true ht]
        repeat' (first
          | refine Run.region ?_
          | refine Run.seq ?_
          | ((refine oB (frz := [1]) Et_ok (fun h => ?_) (fun h => ?_)) <;> (first | (exfalso; simp at h <;> fail) | (exfalso; simp at h; omega) | skip))
          | ((refine eB (fun h => ?_) (fun h => ?_)) <;> (first | (exfalso; simp at h <;> fail) | (exfalso; simp at h; omega) | skip))
          | refine oX (frz := [1]) Et_ok ?_
          | refine oS ?_
          | refine RunOps.nil ?_
          | refine Run.skip ?_
          | refine cT ?_
          | refine cF ?_
          | refine Run.block ?_
          | refine Run.exit ?_
          | refine Run.draw (frz := [1]) Et_ok (by kernel_rfl) ?_
          | refine eX ?_
          | refine eS ?_
          | refine eN ?_
          | (refine Run.ret ?_; (first | refine rB ?_ | refine rI ?_ | refine rA ?_ | refine rII ?_ | refine rSI ?_ | refine rT ?_ | refine rS ?_); first | done | (rfl))
          | ((exfalso; (simp at h <;> omega)))
          | fail)
      · rw [decide_eq_false ht]
        by_cases hs : 24 < sumTo x x.rules.length
        · rw [decide_eq_true hs]
          repeat' (first
            | refine Run.region ?_
            | refine Run.seq ?_
            | ((refine oB (frz := [1]) Et_ok (fun h => ?_) (fun h => ?_)) <;> (first | (exfalso; simp at h <;> fail) | (exfalso; simp at h; omega) | skip))
            | ((refine eB (fun h => ?_) (fun h => ?_)) <;> (first | (exfalso; simp at h <;> fail) | (exfalso; simp at h; omega) | skip))
            | refine oX (frz := [1]) Et_ok ?_
            | refine oS ?_
            | refine RunOps.nil ?_
            | refine Run.skip ?_
            | refine cT ?_
            | refine cF ?_
            | refine Run.block ?_
            | refine Run.exit ?_
            | refine Run.draw (frz := [1]) Et_ok (by kernel_rfl) ?_
            | refine eX ?_
            | refine eS ?_
            | refine eN ?_
            | (refine Run.ret ?_; (first | refine rB ?_ | refine rI ?_ | refine rA ?_ | refine rII ?_ | refine rSI ?_ | refine rT ?_ | refine rS ?_); first | done | (rfl))
            | ((exfalso; (simp at h <;> omega)))
            | fail)
        · rw [decide_eq_false hs]
          repeat' (first
            | refine Run.region ?_
            | refine Run.seq ?_
            | ((refine oB (frz := [1]) Et_ok (fun h => ?_) (fun h => ?_)) <;> (first | (exfalso; simp at h <;> fail) | (exfalso; simp at h; omega) | skip))
            | ((refine eB (fun h => ?_) (fun h => ?_)) <;> (first | (exfalso; simp at h <;> fail) | (exfalso; simp at h; omega) | skip))
            | refine oX (frz := [1]) Et_ok ?_
            | refine oS ?_
            | refine RunOps.nil ?_
            | refine Run.skip ?_
            | refine cT ?_
            | refine cF ?_
            | refine Run.block ?_
            | refine Run.exit ?_
            | refine Run.draw (frz := [1]) Et_ok (by kernel_rfl) ?_
            | refine eX ?_
            | refine eS ?_
            | refine eN ?_
            | (refine Run.ret ?_; (first | refine rB ?_ | refine rI ?_ | refine rA ?_ | refine rII ?_ | refine rSI ?_ | refine rT ?_ | refine rS ?_); first | done | (rfl))
            | ((exfalso; (simp at h <;> omega)))
            | fail)
end Go.Av
end
noncomputable section
namespace Go.Av
open Go Go.Proofs
set_option maxRecDepth 10000
def noName (s : List Nat) : Bool := !smallF s && !capitalF s
def misR (r : SRule) : Bool := !capitalF r.name || r.alts.any (fun a => a.any noName)
def misX (x : Src) : Bool := x.tokens.any (fun s => !smallF s) || x.rules.any misR || !smallF x.sep || !capitalF x.start
theorem misnamed08 (x : Src) (hf : FitsX x) : KnownCall Try.prog 77 [encX x] (.d (.bool (misX x))) := by
  have hrl := hf.rules
  have htl := hf.tokens
  refine knownE Et_ok (fnAt Try.func77 (by kernel_rfl) (by kernel_rfl) : FnAt _ _ (mkFn Try.f77 [1])) ?_
  repeat' (first
    | refine Run.region ?_
    | refine Run.seq ?_
    | ((refine oB (frz := [1]) Et_ok (fun h => ?_) (fun h => ?_)) <;> (first | (exfalso; simp at h <;> fail) | (exfalso; simp at h; omega) | skip))
    | ((refine eB (fun h => ?_) (fun h => ?_)) <;> (first | (exfalso; simp at h <;> fail) | (exfalso; simp at h; omega) | skip))
    | refine oX (frz := [1]) Et_ok ?_
    | refine oS ?_
    | refine RunOps.nil ?_
    | refine Run.skip ?_
    | refine cT ?_
    | refine cF ?_
    | refine Run.block ?_
    | refine Run.exit ?_
    | refine Run.draw (frz := [1]) Et_ok (by kernel_rfl) ?_
    | refine eX ?_
    | refine eS ?_
    | refine eN ?_
    | (refine Run.ret ?_; (first | refine rB ?_ | refine rI ?_ | refine rA ?_ | refine rII ?_ | refine rSI ?_ | refine rT ?_ | refine rS ?_); first | done | (skip))
    | fail)
  refine Run.loop (fun i : Nat => ⟨PT.ofList [(1, cellX x), (3, .d (.int .i64 i))], [], []⟩) (fun i => i ≤ x.tokens.length ∧ (x.tokens.take i).any (fun s => !smallF s) = false) (fun i => x.tokens.length - i) 0 ⟨Nat.zero_le _, rfl⟩ (weak_of (by repeat' (first | exact trivial | refine ⟨rfl, ?_⟩))) (fun i hi => ?_)
  rcases Nat.lt_or_ge i x.tokens.length with hlt | hge
  · obtain ⟨s, hs⟩ := get_ok hlt
    have hsm := refSmall s (Nat.le_trans (hf.tokenS s (List.mem_of_getElem? hs)) (by decide))
    cases hb : smallF s with
    | true =>
      rw [hb] at hsm
      repeat' (first
        | refine Run.region ?_
        | refine Run.seq ?_
        | ((refine oB (frz := [1]) Et_ok (fun h => ?_) (fun h => ?_)) <;> (first | (exfalso; simp at h <;> fail) | (exfalso; simp at h; omega) | skip))
        | ((refine eB (fun h => ?_) (fun h => ?_)) <;> (first | (exfalso; simp at h <;> fail) | (exfalso; simp at h; omega) | skip))
        | refine oX (frz := [1]) Et_ok ?_
        | refine oS ?_
        | refine RunOps.nil ?_
        | refine Run.skip ?_
        | refine cT ?_
        | refine cF ?_
        | refine Run.block ?_
        | refine Run.exit ?_
        | refine Run.draw (frz := [1]) Et_ok (by kernel_rfl) ?_
        | refine eX ?_
        | refine eS ?_
        | refine eN ?_
        | refine oX (frz := [1]) (v := .d (.ep [.str s])) Et_ok ?_ (hf := (by first | (simp [inB] <;> fail) | (simp [inB]; omega))) (he := (by first | (simp [List.getD_eq_getElem?_getD, cellsD, hs] <;> fail) | fail))
        | refine eX (v := .d (.ep [.str s])) ?_ (hf := (by first | (simp [inB] <;> fail) | (simp [inB]; omega))) (he := (by first | (simp [List.getD_eq_getElem?_getD, cellsD, hs] <;> fail) | fail))
        | refine oC (hsm) ?_
        | refine eC (hsm) ?_
        | (refine Run.ret ?_; (first | refine rB ?_ | refine rI ?_ | refine rA ?_ | refine rII ?_ | refine rSI ?_ | refine rT ?_ | refine rS ?_); first | done | (skip))
        | (exact ⟨i + 1, ⟨hlt, any_next hs hi.2 (by simp [hb])⟩, by omega, weak_of (by repeat' (first | exact trivial | refine ⟨rfl, ?_⟩ | refine ⟨(inc_get (k := i) (by kernel_rfl) (by omega)), ?_⟩))⟩)
        | ((exfalso; (simp at h <;> omega)))
        | fail)
    | false =>
      rw [hb] at hsm
      have hm : misX x = true := by unfold misX; rw [any_hit hs (p := fun s => !smallF s) (by simp [hb])]; rfl
      rw [hm]
      repeat' (first
        | refine Run.region ?_
        | refine Run.seq ?_
        | ((refine oB (frz := [1]) Et_ok (fun h => ?_) (fun h => ?_)) <;> (first | (exfalso; simp at h <;> fail) | (exfalso; simp at h; omega) | skip))
        | ((refine eB (fun h => ?_) (fun h => ?_)) <;> (first | (exfalso; simp at h <;> fail) | (exfalso; simp at h; omega) | skip))
        | refine oX (frz := [1]) Et_ok ?_
        | refine oS ?_
        | refine RunOps.nil ?_
        | refine Run.skip ?_
        | refine cT ?_
        | refine cF ?_
        | refine Run.block ?_
        | refine Run.exit ?_
        | refine Run.draw (frz := [1]) Et_ok (by kernel_rfl) ?_
        | refine eX ?_
        | refine eS ?_
        | refine eN ?_
        | refine oX (frz := [1]) (v := .d (.ep [.str s])) Et_ok ?_ (hf := (by first | (simp [inB] <;> fail) | (simp [inB]; omega))) (he := (by first | (simp [List.getD_eq_getElem?_getD, cellsD, hs] <;> fail) | fail))
        | refine eX (v := .d (.ep [.str s])) ?_ (hf := (by first | (simp [inB] <;> fail) | (simp [inB]; omega))) (he := (by first | (simp [List.getD_eq_getElem?_getD, cellsD, hs] <;> fail) | fail))
        | refine oC (hsm) ?_
        | refine eC (hsm) ?_
        | (refine Run.ret ?_; (first | refine rB ?_ | refine rI ?_ | refine rA ?_ | refine rII ?_ | refine rSI ?_ | refine rT ?_ | refine rS ?_); first | done | (rfl))
        | ((exfalso; (simp at h <;> omega)))
        | fail)
  · have hie : i = x.tokens.length := by omega
    have htk := hi.2
    rw [hie, List.take_length] at htk
    subst hie
    repeat' (first
      | refine Run.region ?_
      | refine Run.seq ?_
      | ((refine oB (frz := [1]) Et_ok (fun h => ?_) (fun h => ?_)) <;> (first | (exfalso; simp at h <;> fail) | (exfalso; simp at h; omega) | skip))
      | ((refine eB (fun h => ?_) (fun h => ?_)) <;> (first | (exfalso; simp at h <;> fail) | (exfalso; simp at h; omega) | skip))
      | refine oX (frz := [1]) Et_ok ?_
      | refine oS ?_
      | refine RunOps.nil ?_
      | refine Run.skip ?_
      | refine cT ?_
      | refine cF ?_
      | refine Run.block ?_
      | refine Run.exit ?_
      | refine Run.draw (frz := [1]) Et_ok (by kernel_rfl) ?_
      | refine eX ?_
      | refine eS ?_
      | refine eN ?_
      | (refine Run.ret ?_; (first | refine rB ?_ | refine rI ?_ | refine rA ?_ | refine rII ?_ | refine rSI ?_ | refine rT ?_ | refine rS ?_); first | done | (skip))
      | fail)
    refine Run.loop (fun i : Nat => ⟨PT.ofList [(1, cellX x), (4, .d (.int .i64 i))], [], []⟩) (fun i => i ≤ x.rules.length ∧ (x.rules.take i).any misR = false) (fun i => x.rules.length - i) 0 ⟨Nat.zero_le _, rfl⟩ (weak_of (by repeat' (first | exact trivial | refine ⟨rfl, ?_⟩))) (fun i hi => ?_)
    rcases Nat.lt_or_ge i x.rules.length with hlt | hge
    · obtain ⟨r, hr⟩ := get_ok hlt
      have hmem := List.mem_of_getElem? hr
      have hra := hf.alts r hmem
      have hcm := refCapital r.name (Nat.le_trans (hf.ruleS r hmem) (by decide))
      cases hb : capitalF r.name with
      | false =>
        rw [hb] at hcm
        have hm : misX x = true := by unfold misX; rw [any_hit hr (p := misR) (by simp [misR, hb])]; simp
        rw [hm]
        repeat' (first
          | refine Run.region ?_
          | refine Run.seq ?_
          | ((refine oB (frz := [1]) Et_ok (fun h => ?_) (fun h => ?_)) <;> (first | (exfalso; simp at h <;> fail) | (exfalso; simp at h; omega) | skip))
          | ((refine eB (fun h => ?_) (fun h => ?_)) <;> (first | (exfalso; simp at h <;> fail) | (exfalso; simp at h; omega) | skip))
          | refine oX (frz := [1]) Et_ok ?_
          | refine oS ?_
          | refine RunOps.nil ?_
          | refine Run.skip ?_
          | refine cT ?_
          | refine cF ?_
          | refine Run.block ?_
          | refine Run.exit ?_
          | refine Run.draw (frz := [1]) Et_ok (by kernel_rfl) ?_
          | refine eX ?_
          | refine eS ?_
          | refine eN ?_
          | refine oX (frz := [1]) (v := .d (.ep [.str r.name, alts r.alts])) Et_ok ?_ (hf := (by first | (simp [inB] <;> fail) | (simp [inB]; omega))) (he := (by first | (simp [List.getD_eq_getElem?_getD, cellsD, hr, encR] <;> fail) | fail))
          | refine eX (v := .d (.ep [.str r.name, alts r.alts])) ?_ (hf := (by first | (simp [inB] <;> fail) | (simp [inB]; omega))) (he := (by first | (simp [List.getD_eq_getElem?_getD, cellsD, hr, encR] <;> fail) | fail))
          | refine oC (hcm) ?_
          | refine eC (hcm) ?_
          | (refine Run.ret ?_; (first | refine rB ?_ | refine rI ?_ | refine rA ?_ | refine rII ?_ | refine rSI ?_ | refine rT ?_ | refine rS ?_); first | done | (rfl))
          | ((exfalso; (simp at h <;> omega)))
          | fail)
      | true =>
        rw [hb] at hcm
        repeat' (first
          | refine Run.region ?_
          | refine Run.seq ?_
          | ((refine oB (frz := [1]) Et_ok (fun h => ?_) (fun h => ?_)) <;> (first | (exfalso; simp at h <;> fail) | (exfalso; simp at h; omega) | skip))
          | ((refine eB (fun h => ?_) (fun h => ?_)) <;> (first | (exfalso; simp at h <;> fail) | (exfalso; simp at h; omega) | skip))
          | refine oX (frz := [1]) Et_ok ?_
          | refine oS ?_
          | refine RunOps.nil ?_
          | refine Run.skip ?_
          | refine cT ?_
          | refine cF ?_
          | refine Run.block ?_
          | refine Run.exit ?_
          | refine Run.draw (frz := [1]) Et_ok (by kernel_rfl) ?_
          | refine eX ?_
          | refine eS ?_
          | refine eN ?_
          | refine oX (frz := [1]) (v := .d (.ep [.str r.name, alts r.alts])) Et_ok ?_ (hf := (by first | (simp [inB] <;> fail) | (simp [inB]; omega))) (he := (by first | (simp [List.getD_eq_getElem?_getD, cellsD, hr, encR] <;> fail) | fail))
          | refine eX (v := .d (.ep [.str r.name, alts r.alts])) ?_ (hf := (by first | (simp [inB] <;> fail) | (simp [inB]; omega))) (he := (by first | (simp [List.getD_eq_getElem?_getD, cellsD, hr, encR] <;> fail) | fail))
          | refine oC (hcm) ?_
          | refine eC (hcm) ?_
          | (refine Run.ret ?_; (first | refine rB ?_ | refine rI ?_ | refine rA ?_ | refine rII ?_ | refine rSI ?_ | refine rT ?_ | refine rS ?_); first | done | (skip))
          | fail)
        refine Run.loop (fun k : Nat => ⟨PT.ofList [(1, cellX x), (4, .d (.int .i64 i)), (5, .d (.int .i64 k))], [], []⟩) (fun k => k ≤ r.alts.length ∧ (r.alts.take k).any (fun a => a.any noName) = false) (fun k => r.alts.length - k) 0 ⟨Nat.zero_le _, rfl⟩ (weak_of (by repeat' (first | exact trivial | refine ⟨rfl, ?_⟩))) (fun k hk => ?_)
        rcases Nat.lt_or_ge k r.alts.length with hkl | hkg
        · obtain ⟨a, ha⟩ := get_ok hkl
          have hmema := List.mem_of_getElem? ha
          have hal := hf.names r hmem a hmema
          repeat' (first
            | refine Run.region ?_
            | refine Run.seq ?_
            | ((refine oB (frz := [1]) Et_ok (fun h => ?_) (fun h => ?_)) <;> (first | (exfalso; simp at h <;> fail) | (exfalso; simp at h; omega) | skip))
            | ((refine eB (fun h => ?_) (fun h => ?_)) <;> (first | (exfalso; simp at h <;> fail) | (exfalso; simp at h; omega) | skip))
            | refine oX (frz := [1]) Et_ok ?_
            | refine oS ?_
            | refine RunOps.nil ?_
            | refine Run.skip ?_
            | refine cT ?_
            | refine cF ?_
            | refine Run.block ?_
            | refine Run.exit ?_
            | refine Run.draw (frz := [1]) Et_ok (by kernel_rfl) ?_
            | refine eX ?_
            | refine eS ?_
            | refine eN ?_
            | refine oX (frz := [1]) (v := .d (.ep [.str r.name, alts r.alts])) Et_ok ?_ (hf := (by first | (simp [inB] <;> fail) | (simp [inB]; omega))) (he := (by first | (simp [List.getD_eq_getElem?_getD, cellsD, hr, encR] <;> fail) | fail))
            | refine eX (v := .d (.ep [.str r.name, alts r.alts])) ?_ (hf := (by first | (simp [inB] <;> fail) | (simp [inB]; omega))) (he := (by first | (simp [List.getD_eq_getElem?_getD, cellsD, hr, encR] <;> fail) | fail))
            | (refine Run.ret ?_; (first | refine rB ?_ | refine rI ?_ | refine rA ?_ | refine rII ?_ | refine rSI ?_ | refine rT ?_ | refine rS ?_); first | done | (skip))
            | ((exfalso; (simp at h <;> omega)))
            | fail)
          refine Run.loop (fun j : Nat => ⟨PT.ofList [(1, cellX x), (4, .d (.int .i64 i)), (5, .d (.int .i64 k)), (6, .d (.int .i64 j))], [], []⟩) (fun j => j ≤ a.length ∧ (a.take j).any noName = false) (fun j => a.length - j) 0 ⟨Nat.zero_le _, rfl⟩ (weak_of (by repeat' (first | exact trivial | refine ⟨rfl, ?_⟩))) (fun j hj => ?_)
          rcases Nat.lt_or_ge j a.length with hjl | hjg
          · obtain ⟨s, hs⟩ := get_ok hjl
            have hsl := Nat.le_trans (hf.nameS r hmem a hmema s (List.mem_of_getElem? hs)) (show 1048576 ≤ 1099511627776 by decide)
            have hsm := refSmall s hsl
            have hsc := refCapital s hsl
            cases hc1 : smallF s with
            | true =>
              rw [hc1] at hsm
              repeat' (first
                | refine Run.region ?_
                | refine Run.seq ?_
                | ((refine oB (frz := [1]) Et_ok (fun h => ?_) (fun h => ?_)) <;> (first | (exfalso; simp at h <;> fail) | (exfalso; simp at h; omega) | skip))
                | ((refine eB (fun h => ?_) (fun h => ?_)) <;> (first | (exfalso; simp at h <;> fail) | (exfalso; simp at h; omega) | skip))
                | refine oX (frz := [1]) Et_ok ?_
                | refine oS ?_
                | refine RunOps.nil ?_
                | refine Run.skip ?_
                | refine cT ?_
                | refine cF ?_
                | refine Run.block ?_
                | refine Run.exit ?_
                | refine Run.draw (frz := [1]) Et_ok (by kernel_rfl) ?_
                | refine eX ?_
                | refine eS ?_
                | refine eN ?_
                | refine oX (frz := [1]) (v := .d (.ep [.str r.name, alts r.alts])) Et_ok ?_ (hf := (by first | (simp [inB] <;> fail) | (simp [inB]; omega))) (he := (by first | (simp [List.getD_eq_getElem?_getD, cellsD, hr, encR] <;> fail) | fail))
                | refine eX (v := .d (.ep [.str r.name, alts r.alts])) ?_ (hf := (by first | (simp [inB] <;> fail) | (simp [inB]; omega))) (he := (by first | (simp [List.getD_eq_getElem?_getD, cellsD, hr, encR] <;> fail) | fail))
                | refine oX (frz := [1]) (v := .d (.ep [strs a])) Et_ok ?_ (hf := (by first | (simp [inB] <;> fail) | (simp [inB]; omega))) (he := (by first | (simp [List.getD_eq_getElem?_getD, cellsD, ha] <;> fail) | fail))
                | refine eX (v := .d (.ep [strs a])) ?_ (hf := (by first | (simp [inB] <;> fail) | (simp [inB]; omega))) (he := (by first | (simp [List.getD_eq_getElem?_getD, cellsD, ha] <;> fail) | fail))
                | refine oX (frz := [1]) (v := .d (.ep [.str s])) Et_ok ?_ (hf := (by first | (simp [inB] <;> fail) | (simp [inB]; omega))) (he := (by first | (simp [List.getD_eq_getElem?_getD, cellsD, hs] <;> fail) | fail))
                | refine eX (v := .d (.ep [.str s])) ?_ (hf := (by first | (simp [inB] <;> fail) | (simp [inB]; omega))) (he := (by first | (simp [List.getD_eq_getElem?_getD, cellsD, hs] <;> fail) | fail))
                | refine oC (hsm) ?_
                | refine eC (hsm) ?_
                | refine oC (hsc) ?_
                | refine eC (hsc) ?_
                | (refine Run.ret ?_; (first | refine rB ?_ | refine rI ?_ | refine rA ?_ | refine rII ?_ | refine rSI ?_ | refine rT ?_ | refine rS ?_); first | done | (skip))
                | (exact ⟨j + 1, ⟨hjl, any_next hs hj.2 (by simp [noName, hc1])⟩, by omega, weak_of (by repeat' (first | exact trivial | refine ⟨rfl, ?_⟩ | refine ⟨(inc_get (k := j) (by kernel_rfl) (by omega)), ?_⟩))⟩)
                | ((exfalso; (simp at h <;> omega)))
                | fail)
            | false =>
              rw [hc1] at hsm
              cases hc2 : capitalF s with
              | true =>
                rw [hc2] at hsc
                repeat' (first
                  | refine Run.region ?_
                  | refine Run.seq ?_
                  | ((refine oB (frz := [1]) Et_ok (fun h => ?_) (fun h => ?_)) <;> (first | (exfalso; simp at h <;> fail) | (exfalso; simp at h; omega) | skip))
                  | ((refine eB (fun h => ?_) (fun h => ?_)) <;> (first | (exfalso; simp at h <;> fail) | (exfalso; simp at h; omega) | skip))
                  | refine oX (frz := [1]) Et_ok ?_
                  | refine oS ?_
                  | refine RunOps.nil ?_
                  | refine Run.skip ?_
                  | refine cT ?_
                  | refine cF ?_
                  | refine Run.block ?_
                  | refine Run.exit ?_
                  | refine Run.draw (frz := [1]) Et_ok (by kernel_rfl) ?_
                  | refine eX ?_
                  | refine eS ?_
                  | refine eN ?_
                  | refine oX (frz := [1]) (v := .d (.ep [.str r.name, alts r.alts])) Et_ok ?_ (hf := (by first | (simp [inB] <;> fail) | (simp [inB]; omega))) (he := (by first | (simp [List.getD_eq_getElem?_getD, cellsD, hr, encR] <;> fail) | fail))
                  | refine eX (v := .d (.ep [.str r.name, alts r.alts])) ?_ (hf := (by first | (simp [inB] <;> fail) | (simp [inB]; omega))) (he := (by first | (simp [List.getD_eq_getElem?_getD, cellsD, hr, encR] <;> fail) | fail))
                  | refine oX (frz := [1]) (v := .d (.ep [strs a])) Et_ok ?_ (hf := (by first | (simp [inB] <;> fail) | (simp [inB]; omega))) (he := (by first | (simp [List.getD_eq_getElem?_getD, cellsD, ha] <;> fail) | fail))
                  | refine eX (v := .d (.ep [strs a])) ?_ (hf := (by first | (simp [inB] <;> fail) | (simp [inB]; omega))) (he := (by first | (simp [List.getD_eq_getElem?_getD, cellsD, ha] <;> fail) | fail))
                  | refine oX (frz := [1]) (v := .d (.ep [.str s])) Et_ok ?_ (hf := (by first | (simp [inB] <;> fail) | (simp [inB]; omega))) (he := (by first | (simp [List.getD_eq_getElem?_getD, cellsD, hs] <;> fail) | fail))
                  | refine eX (v := .d (.ep [.str s])) ?_ (hf := (by first | (simp [inB] <;> fail) | (simp [inB]; omega))) (he := (by first | (simp [List.getD_eq_getElem?_getD, cellsD, hs] <;> fail) | fail))
                  | refine oC (hsm) ?_
                  | refine eC (hsm) ?_
                  | refine oC (hsc) ?_
                  | refine eC (hsc) ?_
                  | (refine Run.ret ?_; (first | refine rB ?_ | refine rI ?_ | refine rA ?_ | refine rII ?_ | refine rSI ?_ | refine rT ?_ | refine rS ?_); first | done | (skip))
                  | (exact ⟨j + 1, ⟨hjl, any_next hs hj.2 (by simp [noName, hc2])⟩, by omega, weak_of (by repeat' (first | exact trivial | refine ⟨rfl, ?_⟩ | refine ⟨(inc_get (k := j) (by kernel_rfl) (by omega)), ?_⟩))⟩)
                  | ((exfalso; (simp at h <;> omega)))
                  | fail)
              | false =>
                rw [hc2] at hsc
                have hm : misX x = true := by unfold misX; rw [any_hit hr (p := misR) (by simp only [misR]; rw [any_hit ha (p := fun a => a.any noName) (any_hit hs (by simp [noName, hc1, hc2]))]; simp)]; simp
                rw [hm]
                repeat' (first
                  | refine Run.region ?_
                  | refine Run.seq ?_
                  | ((refine oB (frz := [1]) Et_ok (fun h => ?_) (fun h => ?_)) <;> (first | (exfalso; simp at h <;> fail) | (exfalso; simp at h; omega) | skip))
                  | ((refine eB (fun h => ?_) (fun h => ?_)) <;> (first | (exfalso; simp at h <;> fail) | (exfalso; simp at h; omega) | skip))
                  | refine oX (frz := [1]) Et_ok ?_
                  | refine oS ?_
                  | refine RunOps.nil ?_
                  | refine Run.skip ?_
                  | refine cT ?_
                  | refine cF ?_
                  | refine Run.block ?_
                  | refine Run.exit ?_
                  | refine Run.draw (frz := [1]) Et_ok (by kernel_rfl) ?_
                  | refine eX ?_
                  | refine eS ?_
                  | refine eN ?_
                  | refine oX (frz := [1]) (v := .d (.ep [.str r.name, alts r.alts])) Et_ok ?_ (hf := (by first | (simp [inB] <;> fail) | (simp [inB]; omega))) (he := (by first | (simp [List.getD_eq_getElem?_getD, cellsD, hr, encR] <;> fail) | fail))
                  | refine eX (v := .d (.ep [.str r.name, alts r.alts])) ?_ (hf := (by first | (simp [inB] <;> fail) | (simp [inB]; omega))) (he := (by first | (simp [List.getD_eq_getElem?_getD, cellsD, hr, encR] <;> fail) | fail))
                  | refine oX (frz := [1]) (v := .d (.ep [strs a])) Et_ok ?_ (hf := (by first | (simp [inB] <;> fail) | (simp [inB]; omega))) (he := (by first | (simp [List.getD_eq_getElem?_getD, cellsD, ha] <;> fail) | fail))
                  | refine eX (v := .d (.ep [strs a])) ?_ (hf := (by first | (simp [inB] <;> fail) | (simp [inB]; omega))) (he := (by first | (simp [List.getD_eq_getElem?_getD, cellsD, ha] <;> fail) | fail))
                  | refine oX (frz := [1]) (v := .d (.ep [.str s])) Et_ok ?_ (hf := (by first | (simp [inB] <;> fail) | (simp [inB]; omega))) (he := (by first | (simp [List.getD_eq_getElem?_getD, cellsD, hs] <;> fail) | fail))
                  | refine eX (v := .d (.ep [.str s])) ?_ (hf := (by first | (simp [inB] <;> fail) | (simp [inB]; omega))) (he := (by first | (simp [List.getD_eq_getElem?_getD, cellsD, hs] <;> fail) | fail))
                  | refine oC (hsm) ?_
                  | refine eC (hsm) ?_
                  | refine oC (hsc) ?_
                  | refine eC (hsc) ?_
                  | (refine Run.ret ?_; (first | refine rB ?_ | refine rI ?_ | refine rA ?_ | refine rII ?_ | refine rSI ?_ | refine rT ?_ | refine rS ?_); first | done | (rfl))
                  | ((exfalso; (simp at h <;> omega)))
                  | fail)
          · have hje : j = a.length := by omega
            subst hje
            have haa := any_end hj.2
            repeat' (first
              | refine Run.region ?_
              | refine Run.seq ?_
              | ((refine oB (frz := [1]) Et_ok (fun h => ?_) (fun h => ?_)) <;> (first | (exfalso; simp at h <;> fail) | (exfalso; simp at h; omega) | skip))
              | ((refine eB (fun h => ?_) (fun h => ?_)) <;> (first | (exfalso; simp at h <;> fail) | (exfalso; simp at h; omega) | skip))
              | refine oX (frz := [1]) Et_ok ?_
              | refine oS ?_
              | refine RunOps.nil ?_
              | refine Run.skip ?_
              | refine cT ?_
              | refine cF ?_
              | refine Run.block ?_
              | refine Run.exit ?_
              | refine Run.draw (frz := [1]) Et_ok (by kernel_rfl) ?_
              | refine eX ?_
              | refine eS ?_
              | refine eN ?_
              | refine oX (frz := [1]) (v := .d (.ep [.str r.name, alts r.alts])) Et_ok ?_ (hf := (by first | (simp [inB] <;> fail) | (simp [inB]; omega))) (he := (by first | (simp [List.getD_eq_getElem?_getD, cellsD, hr, encR] <;> fail) | fail))
              | refine eX (v := .d (.ep [.str r.name, alts r.alts])) ?_ (hf := (by first | (simp [inB] <;> fail) | (simp [inB]; omega))) (he := (by first | (simp [List.getD_eq_getElem?_getD, cellsD, hr, encR] <;> fail) | fail))
              | refine oX (frz := [1]) (v := .d (.ep [strs a])) Et_ok ?_ (hf := (by first | (simp [inB] <;> fail) | (simp [inB]; omega))) (he := (by first | (simp [List.getD_eq_getElem?_getD, cellsD, ha] <;> fail) | fail))
              | refine eX (v := .d (.ep [strs a])) ?_ (hf := (by first | (simp [inB] <;> fail) | (simp [inB]; omega))) (he := (by first | (simp [List.getD_eq_getElem?_getD, cellsD, ha] <;> fail) | fail))
              | (refine Run.ret ?_; (first | refine rB ?_ | refine rI ?_ | refine rA ?_ | refine rII ?_ | refine rSI ?_ | refine rT ?_ | refine rS ?_); first | done | (skip))
              | (exact ⟨k + 1, ⟨hkl, any_next ha hk.2 haa⟩, by omega, weak_of (by repeat' (first | exact trivial | refine ⟨rfl, ?_⟩ | refine ⟨(inc_get (k := k) (by kernel_rfl) (by omega)), ?_⟩))⟩)
              | ((exfalso; (simp at h <;> omega)))
              | fail)
        · have hke : k = r.alts.length := by omega
          subst hke
          have hkk := any_end hk.2
          repeat' (first
            | refine Run.region ?_
            | refine Run.seq ?_
            | ((refine oB (frz := [1]) Et_ok (fun h => ?_) (fun h => ?_)) <;> (first | (exfalso; simp at h <;> fail) | (exfalso; simp at h; omega) | skip))
            | ((refine eB (fun h => ?_) (fun h => ?_)) <;> (first | (exfalso; simp at h <;> fail) | (exfalso; simp at h; omega) | skip))
            | refine oX (frz := [1]) Et_ok ?_
            | refine oS ?_
            | refine RunOps.nil ?_
            | refine Run.skip ?_
            | refine cT ?_
            | refine cF ?_
            | refine Run.block ?_
            | refine Run.exit ?_
            | refine Run.draw (frz := [1]) Et_ok (by kernel_rfl) ?_
            | refine eX ?_
            | refine eS ?_
            | refine eN ?_
            | refine oX (frz := [1]) (v := .d (.ep [.str r.name, alts r.alts])) Et_ok ?_ (hf := (by first | (simp [inB] <;> fail) | (simp [inB]; omega))) (he := (by first | (simp [List.getD_eq_getElem?_getD, cellsD, hr, encR] <;> fail) | fail))
            | refine eX (v := .d (.ep [.str r.name, alts r.alts])) ?_ (hf := (by first | (simp [inB] <;> fail) | (simp [inB]; omega))) (he := (by first | (simp [List.getD_eq_getElem?_getD, cellsD, hr, encR] <;> fail) | fail))
            | (refine Run.ret ?_; (first | refine rB ?_ | refine rI ?_ | refine rA ?_ | refine rII ?_ | refine rSI ?_ | refine rT ?_ | refine rS ?_); first | done | (skip))
            | (exact ⟨i + 1, ⟨hlt, any_next hr hi.2 (by simp only [misR, hb, hkk]; rfl)⟩, by omega, weak_of (by repeat' (first | exact trivial | refine ⟨rfl, ?_⟩ | refine ⟨(inc_get (k := i) (by kernel_rfl) (by omega)), ?_⟩))⟩)
            | ((exfalso; (simp at h <;> omega)))
            | fail)
    · have hie : i = x.rules.length := by omega
      subst hie
      have hm : misX x = (!smallF x.sep || !capitalF x.start) := by unfold misX; rw [htk, any_end hi.2]; simp
      rw [hm]
      have hsm := refSmall x.sep (Nat.le_trans hf.sep (by decide))
      have hsc := refCapital x.start (Nat.le_trans hf.start (by decide))
      cases hc1 : smallF x.sep with
      | false =>
        rw [hc1] at hsm
        repeat' (first
          | refine Run.region ?_
          | refine Run.seq ?_
          | ((refine oB (frz := [1]) Et_ok (fun h => ?_) (fun h => ?_)) <;> (first | (exfalso; simp at h <;> fail) | (exfalso; simp at h; omega) | skip))
          | ((refine eB (fun h => ?_) (fun h => ?_)) <;> (first | (exfalso; simp at h <;> fail) | (exfalso; simp at h; omega) | skip))
          | refine oX (frz := [1]) Et_ok ?_
          | refine oS ?_
          | refine RunOps.nil ?_
          | refine Run.skip ?_
          | refine cT ?_
          | refine cF ?_
          | refine Run.block ?_
          | refine Run.exit ?_
          | refine Run.draw (frz := [1]) Et_ok (by kernel_rfl) ?_
          | refine eX ?_
          | refine eS ?_
          | refine eN ?_
          | refine oC (hsm) ?_
          | refine eC (hsm) ?_
          | refine oC (hsc) ?_
          | refine eC (hsc) ?_
          | (refine Run.ret ?_; (first | refine rB ?_ | refine rI ?_ | refine rA ?_ | refine rII ?_ | refine rSI ?_ | refine rT ?_ | refine rS ?_); first | done | (rfl))
          | ((exfalso; (simp at h <;> omega)))
          | fail)
      | true =>
        rw [hc1] at hsm
        cases hc2 : capitalF x.start with
        | false =>
          rw [hc2] at hsc
          repeat' (first
            | refine Run.region ?_
            | refine Run.seq ?_
            | ((refine oB (frz := [1]) Et_ok (fun h => ?_) (fun h => ?_)) <;> (first | (exfalso; simp at h <;> fail) | (exfalso; simp at h; omega) | skip))
            | ((refine eB (fun h => ?_) (fun h => ?_)) <;> (first | (exfalso; simp at h <;> fail) | (exfalso; simp at h; omega) | skip))
            | refine oX (frz := [1]) Et_ok ?_
            | refine oS ?_
            | refine RunOps.nil ?_
            | refine Run.skip ?_
            | refine cT ?_
            | refine cF ?_
            | refine Run.block ?_
            | refine Run.exit ?_
            | refine Run.draw (frz := [1]) Et_ok (by kernel_rfl) ?_
            | refine eX ?_
            | refine eS ?_
            | refine eN ?_
            | refine oC (hsm) ?_
            | refine eC (hsm) ?_
            | refine oC (hsc) ?_
            | refine eC (hsc) ?_
            | (refine Run.ret ?_; (first | refine rB ?_ | refine rI ?_ | refine rA ?_ | refine rII ?_ | refine rSI ?_ | refine rT ?_ | refine rS ?_); first | done | (rfl))
            | ((exfalso; (simp at h <;> omega)))
            | fail)
        | true =>
          rw [hc2] at hsc
          repeat' (first
            | refine Run.region ?_
            | refine Run.seq ?_
            | ((refine oB (frz := [1]) Et_ok (fun h => ?_) (fun h => ?_)) <;> (first | (exfalso; simp at h <;> fail) | (exfalso; simp at h; omega) | skip))
            | ((refine eB (fun h => ?_) (fun h => ?_)) <;> (first | (exfalso; simp at h <;> fail) | (exfalso; simp at h; omega) | skip))
            | refine oX (frz := [1]) Et_ok ?_
            | refine oS ?_
            | refine RunOps.nil ?_
            | refine Run.skip ?_
            | refine cT ?_
            | refine cF ?_
            | refine Run.block ?_
            | refine Run.exit ?_
            | refine Run.draw (frz := [1]) Et_ok (by kernel_rfl) ?_
            | refine eX ?_
            | refine eS ?_
            | refine eN ?_
            | refine oC (hsm) ?_
            | refine eC (hsm) ?_
            | refine oC (hsc) ?_
            | refine eC (hsc) ?_
            | (refine Run.ret ?_; (first | refine rB ?_ | refine rI ?_ | refine rA ?_ | refine rII ?_ | refine rSI ?_ | refine rT ?_ | refine rS ?_); first | done | (rfl))
            | ((exfalso; (simp at h <;> omega)))
            | fail)
end Go.Av
end
noncomputable section
namespace Go.Av
open Go Go.Proofs
set_option maxRecDepth 10000
def hasF (l : List (List Nat)) (s : List Nat) : Bool := l.any fun y => decide (y = s)
def usesR (s : List Nat) (r : SRule) : Bool := r.alts.any (fun a => hasF a s)
def usesX (x : Src) (s : List Nat) : Bool := x.rules.any (usesR s)
theorem uses08 (x : Src) (t : List Nat) (hf : FitsX x) : KnownCall Try.prog 80 [encX x, .str t] (.d (.bool (usesX x t))) := by
  have hrl := hf.rules
  refine knownE Et_ok (fnAt Try.func80 (by kernel_rfl) (by kernel_rfl) : FnAt _ _ (mkFn Try.f80 [2])) ?_
  repeat' (first
    | refine Run.region ?_
    | refine Run.seq ?_
    | ((refine oB (frz := [2]) Et_ok (fun h => ?_) (fun h => ?_)) <;> (first | (exfalso; simp at h <;> fail) | (exfalso; simp at h; omega) | skip))
    | ((refine eB (fun h => ?_) (fun h => ?_)) <;> (first | (exfalso; simp at h <;> fail) | (exfalso; simp at h; omega) | skip))
    | refine oX (frz := [2]) Et_ok ?_
    | refine oS ?_
    | refine RunOps.nil ?_
    | refine Run.skip ?_
    | refine cT ?_
    | refine cF ?_
    | refine Run.block ?_
    | refine Run.exit ?_
    | refine Run.draw (frz := [2]) Et_ok (by kernel_rfl) ?_
    | refine eX ?_
    | refine eS ?_
    | refine eN ?_
    | (refine Run.ret ?_; (first | refine rB ?_ | refine rI ?_ | refine rA ?_ | refine rII ?_ | refine rSI ?_ | refine rT ?_ | refine rS ?_); first | done | (skip))
    | fail)
  refine Run.loop (fun i : Nat => ⟨PT.ofList [(1, .d (.str t)), (2, cellX x), (5, .d (.int .i64 i))], [], []⟩) (fun i => i ≤ x.rules.length ∧ (x.rules.take i).any (usesR t) = false) (fun i => x.rules.length - i) 0 ⟨Nat.zero_le _, rfl⟩ (weak_of (by repeat' (first | exact trivial | refine ⟨rfl, ?_⟩))) (fun i hi => ?_)
  rcases Nat.lt_or_ge i x.rules.length with hlt | hge
  · obtain ⟨r, hr⟩ := get_ok hlt
    have hmem := List.mem_of_getElem? hr
    have hra := hf.alts r hmem
    repeat' (first
      | refine Run.region ?_
      | refine Run.seq ?_
      | ((refine oB (frz := [2]) Et_ok (fun h => ?_) (fun h => ?_)) <;> (first | (exfalso; simp at h <;> fail) | (exfalso; simp at h; omega) | skip))
      | ((refine eB (fun h => ?_) (fun h => ?_)) <;> (first | (exfalso; simp at h <;> fail) | (exfalso; simp at h; omega) | skip))
      | refine oX (frz := [2]) Et_ok ?_
      | refine oS ?_
      | refine RunOps.nil ?_
      | refine Run.skip ?_
      | refine cT ?_
      | refine cF ?_
      | refine Run.block ?_
      | refine Run.exit ?_
      | refine Run.draw (frz := [2]) Et_ok (by kernel_rfl) ?_
      | refine eX ?_
      | refine eS ?_
      | refine eN ?_
      | (refine Run.ret ?_; (first | refine rB ?_ | refine rI ?_ | refine rA ?_ | refine rII ?_ | refine rSI ?_ | refine rT ?_ | refine rS ?_); first | done | (skip))
      | ((exfalso; (simp at h <;> omega)))
      | fail)
    refine Run.loop (fun k : Nat => ⟨PT.ofList [(1, .d (.str t)), (2, cellX x), (5, .d (.int .i64 i)), (6, .d (.int .i64 k))], [], []⟩) (fun k => k ≤ r.alts.length ∧ (r.alts.take k).any (fun a => hasF a t) = false) (fun k => r.alts.length - k) 0 ⟨Nat.zero_le _, rfl⟩ (weak_of (by repeat' (first | exact trivial | refine ⟨rfl, ?_⟩))) (fun k hk => ?_)
    rcases Nat.lt_or_ge k r.alts.length with hkl | hkg
    · obtain ⟨a, ha⟩ := get_ok hkl
      have hh := has08 a t (Nat.le_trans (hf.names r hmem a (List.mem_of_getElem? ha)) (by decide))
      cases hb : hasF a t with
      | true =>
        rw [show (a.any fun y => decide (y = t)) = true from hb] at hh
        have hu : usesX x t = true := any_hit hr (p := usesR t) (any_hit ha (p := fun a => hasF a t) hb)
        rw [hu]
        repeat' (first
          | refine Run.region ?_
          | refine Run.seq ?_
          | ((refine oB (frz := [2]) Et_ok (fun h => ?_) (fun h => ?_)) <;> (first | (exfalso; simp at h <;> fail) | (exfalso; simp at h; omega) | skip))
          | ((refine eB (fun h => ?_) (fun h => ?_)) <;> (first | (exfalso; simp at h <;> fail) | (exfalso; simp at h; omega) | skip))
          | refine oX (frz := [2]) Et_ok ?_
          | refine oS ?_
          | refine RunOps.nil ?_
          | refine Run.skip ?_
          | refine cT ?_
          | refine cF ?_
          | refine Run.block ?_
          | refine Run.exit ?_
          | refine Run.draw (frz := [2]) Et_ok (by kernel_rfl) ?_
          | refine eX ?_
          | refine eS ?_
          | refine eN ?_
          | refine oX (frz := [2]) (v := .d (.ep [.str r.name, alts r.alts])) Et_ok ?_ (hf := (by first | (simp [inB] <;> fail) | (simp [inB]; omega))) (he := (by first | (simp [List.getD_eq_getElem?_getD, cellsD, hr, encR] <;> fail) | fail))
          | refine eX (v := .d (.ep [.str r.name, alts r.alts])) ?_ (hf := (by first | (simp [inB] <;> fail) | (simp [inB]; omega))) (he := (by first | (simp [List.getD_eq_getElem?_getD, cellsD, hr, encR] <;> fail) | fail))
          | refine oX (frz := [2]) (v := .d (.ep [strs a])) Et_ok ?_ (hf := (by first | (simp [inB] <;> fail) | (simp [inB]; omega))) (he := (by first | (simp [List.getD_eq_getElem?_getD, cellsD, ha] <;> fail) | fail))
          | refine eX (v := .d (.ep [strs a])) ?_ (hf := (by first | (simp [inB] <;> fail) | (simp [inB]; omega))) (he := (by first | (simp [List.getD_eq_getElem?_getD, cellsD, ha] <;> fail) | fail))
          | refine oC (hh) ?_
          | refine eC (hh) ?_
          | (refine Run.ret ?_; (first | refine rB ?_ | refine rI ?_ | refine rA ?_ | refine rII ?_ | refine rSI ?_ | refine rT ?_ | refine rS ?_); first | done | (rfl))
          | ((exfalso; (simp at h <;> omega)))
          | fail)
      | false =>
        rw [show (a.any fun y => decide (y = t)) = false from hb] at hh
        repeat' (first
          | refine Run.region ?_
          | refine Run.seq ?_
          | ((refine oB (frz := [2]) Et_ok (fun h => ?_) (fun h => ?_)) <;> (first | (exfalso; simp at h <;> fail) | (exfalso; simp at h; omega) | skip))
          | ((refine eB (fun h => ?_) (fun h => ?_)) <;> (first | (exfalso; simp at h <;> fail) | (exfalso; simp at h; omega) | skip))
          | refine oX (frz := [2]) Et_ok ?_
          | refine oS ?_
          | refine RunOps.nil ?_
          | refine Run.skip ?_
          | refine cT ?_
          | refine cF ?_
          | refine Run.block ?_
          | refine Run.exit ?_
          | refine Run.draw (frz := [2]) Et_ok (by kernel_rfl) ?_
          | refine eX ?_
          | refine eS ?_
          | refine eN ?_
          | refine oX (frz := [2]) (v := .d (.ep [.str r.name, alts r.alts])) Et_ok ?_ (hf := (by first | (simp [inB] <;> fail) | (simp [inB]; omega))) (he := (by first | (simp [List.getD_eq_getElem?_getD, cellsD, hr, encR] <;> fail) | fail))
          | refine eX (v := .d (.ep [.str r.name, alts r.alts])) ?_ (hf := (by first | (simp [inB] <;> fail) | (simp [inB]; omega))) (he := (by first | (simp [List.getD_eq_getElem?_getD, cellsD, hr, encR] <;> fail) | fail))
          | refine oX (frz := [2]) (v := .d (.ep [strs a])) Et_ok ?_ (hf := (by first | (simp [inB] <;> fail) | (simp [inB]; omega))) (he := (by first | (simp [List.getD_eq_getElem?_getD, cellsD, ha] <;> fail) | fail))
          | refine eX (v := .d (.ep [strs a])) ?_ (hf := (by first | (simp [inB] <;> fail) | (simp [inB]; omega))) (he := (by first | (simp [List.getD_eq_getElem?_getD, cellsD, ha] <;> fail) | fail))
          | refine oC (hh) ?_
          | refine eC (hh) ?_
          | (refine Run.ret ?_; (first | refine rB ?_ | refine rI ?_ | refine rA ?_ | refine rII ?_ | refine rSI ?_ | refine rT ?_ | refine rS ?_); first | done | (skip))
          | (exact ⟨k + 1, ⟨hkl, any_next ha hk.2 hb⟩, by omega, weak_of (by repeat' (first | exact trivial | refine ⟨rfl, ?_⟩ | refine ⟨(inc_get (k := k) (by kernel_rfl) (by omega)), ?_⟩))⟩)
          | ((exfalso; (simp at h <;> omega)))
          | fail)
    · have hke : k = r.alts.length := by omega
      subst hke
      have hkk := any_end hk.2
      repeat' (first
        | refine Run.region ?_
        | refine Run.seq ?_
        | ((refine oB (frz := [2]) Et_ok (fun h => ?_) (fun h => ?_)) <;> (first | (exfalso; simp at h <;> fail) | (exfalso; simp at h; omega) | skip))
        | ((refine eB (fun h => ?_) (fun h => ?_)) <;> (first | (exfalso; simp at h <;> fail) | (exfalso; simp at h; omega) | skip))
        | refine oX (frz := [2]) Et_ok ?_
        | refine oS ?_
        | refine RunOps.nil ?_
        | refine Run.skip ?_
        | refine cT ?_
        | refine cF ?_
        | refine Run.block ?_
        | refine Run.exit ?_
        | refine Run.draw (frz := [2]) Et_ok (by kernel_rfl) ?_
        | refine eX ?_
        | refine eS ?_
        | refine eN ?_
        | refine oX (frz := [2]) (v := .d (.ep [.str r.name, alts r.alts])) Et_ok ?_ (hf := (by first | (simp [inB] <;> fail) | (simp [inB]; omega))) (he := (by first | (simp [List.getD_eq_getElem?_getD, cellsD, hr, encR] <;> fail) | fail))
        | refine eX (v := .d (.ep [.str r.name, alts r.alts])) ?_ (hf := (by first | (simp [inB] <;> fail) | (simp [inB]; omega))) (he := (by first | (simp [List.getD_eq_getElem?_getD, cellsD, hr, encR] <;> fail) | fail))
        | (refine Run.ret ?_; (first | refine rB ?_ | refine rI ?_ | refine rA ?_ | refine rII ?_ | refine rSI ?_ | refine rT ?_ | refine rS ?_); first | done | (skip))
        | (exact ⟨i + 1, ⟨hlt, any_next hr hi.2 hkk⟩, by omega, weak_of (by repeat' (first | exact trivial | refine ⟨rfl, ?_⟩ | refine ⟨(inc_get (k := i) (by kernel_rfl) (by omega)), ?_⟩))⟩)
        | ((exfalso; (simp at h <;> omega)))
        | fail)
  · have hie : i = x.rules.length := by omega
    subst hie
    rw [show usesX x t = false from any_end hi.2]
    repeat' (first
      | refine Run.region ?_
      | refine Run.seq ?_
      | ((refine oB (frz := [2]) Et_ok (fun h => ?_) (fun h => ?_)) <;> (first | (exfalso; simp at h <;> fail) | (exfalso; simp at h; omega) | skip))
      | ((refine eB (fun h => ?_) (fun h => ?_)) <;> (first | (exfalso; simp at h <;> fail) | (exfalso; simp at h; omega) | skip))
      | refine oX (frz := [2]) Et_ok ?_
      | refine oS ?_
      | refine RunOps.nil ?_
      | refine Run.skip ?_
      | refine cT ?_
      | refine cF ?_
      | refine Run.block ?_
      | refine Run.exit ?_
      | refine Run.draw (frz := [2]) Et_ok (by kernel_rfl) ?_
      | refine eX ?_
      | refine eS ?_
      | refine eN ?_
      | (refine Run.ret ?_; (first | refine rB ?_ | refine rI ?_ | refine rA ?_ | refine rII ?_ | refine rSI ?_ | refine rT ?_ | refine rS ?_); first | done | (rfl))
      | ((exfalso; (simp at h <;> omega)))
      | fail)
abbrev ruleNames (x : Src) : List (List Nat) := x.rules.map (·.name)
def unkS (x : Src) (s : List Nat) : Bool := !hasF (ruleNames x) s && !hasF x.tokens s
def unkR (x : Src) (r : SRule) : Bool := r.alts.any (fun a => a.any (unkS x))
def unkX (x : Src) : Bool := x.rules.any (unkR x) || !hasF (ruleNames x) x.start
theorem unknown08 (x : Src) (hf : FitsX x) : KnownCall Try.prog 81 [encX x] (.d (.bool (unkX x))) := by
  have hrl := hf.rules
  have htl := hf.tokens
  have hrn := rules08 x hf
  have hnl : (ruleNames x).length ≤ 1099511627776 := by simp; omega
  obtain ⟨ns, hns⟩ : ∃ ns, ns = ruleNames x := ⟨_, rfl⟩
  rw [show x.rules.map (·.name) = ns from hns.symm] at hrn
  rw [← hns] at hnl
  have hunk : ∀ s, unkS x s = (!hasF ns s && !hasF x.tokens s) := fun s => by rw [hns]; rfl
  refine knownE Et_ok (fnAt Try.func81 (by kernel_rfl) (by kernel_rfl) : FnAt _ _ (mkFn Try.f81 [1])) ?_
  repeat' (first
    | refine Run.region ?_
    | refine Run.seq ?_
    | ((refine oB (frz := [1]) Et_ok (fun h => ?_) (fun h => ?_)) <;> (first | (exfalso; simp at h <;> fail) | (exfalso; simp at h; omega) | skip))
    | ((refine eB (fun h => ?_) (fun h => ?_)) <;> (first | (exfalso; simp at h <;> fail) | (exfalso; simp at h; omega) | skip))
    | refine oX (frz := [1]) Et_ok ?_
    | refine oS ?_
    | refine RunOps.nil ?_
    | refine Run.skip ?_
    | refine cT ?_
    | refine cF ?_
    | refine Run.block ?_
    | refine Run.exit ?_
    | refine Run.draw (frz := [1]) Et_ok (by kernel_rfl) ?_
    | refine eX ?_
    | refine eS ?_
    | refine eN ?_
    | ((refine oK (hrn) (fun h => ?_) (fun h => ?_)) <;> (first | (exfalso; simp at h <;> fail) | (exfalso; simp at h; omega) | skip))
    | refine oC (hrn) ?_
    | ((refine eK (hrn) (fun h => ?_) (fun h => ?_)) <;> (first | (exfalso; simp at h <;> fail) | (exfalso; simp at h; omega) | skip))
    | refine eC (hrn) ?_
    | (refine Run.ret ?_; (first | refine rB ?_ | refine rI ?_ | refine rA ?_ | refine rII ?_ | refine rSI ?_ | refine rT ?_ | refine rS ?_); first | done | (skip))
    | fail)
  refine Run.loop (fun i : Nat => ⟨PT.ofList [(1, cellX x), (3, .d (strs ns)), (4, .d (.int .i64 i))], [], []⟩) (fun i => i ≤ x.rules.length ∧ (x.rules.take i).any (unkR x) = false) (fun i => x.rules.length - i) 0 ⟨Nat.zero_le _, rfl⟩ (weak_of (by repeat' (first | exact trivial | refine ⟨rfl, ?_⟩))) (fun i hi => ?_)
  rcases Nat.lt_or_ge i x.rules.length with hlt | hge
  · obtain ⟨r, hr⟩ := get_ok hlt
    have hmem := List.mem_of_getElem? hr
    have hra := hf.alts r hmem
    repeat' (first
      | refine Run.region ?_
      | refine Run.seq ?_
      | ((refine oB (frz := [1]) Et_ok (fun h => ?_) (fun h => ?_)) <;> (first | (exfalso; simp at h <;> fail) | (exfalso; simp at h; omega) | skip))
      | ((refine eB (fun h => ?_) (fun h => ?_)) <;> (first | (exfalso; simp at h <;> fail) | (exfalso; simp at h; omega) | skip))
      | refine oX (frz := [1]) Et_ok ?_
      | refine oS ?_
      | refine RunOps.nil ?_
      | refine Run.skip ?_
      | refine cT ?_
      | refine cF ?_
      | refine Run.block ?_
      | refine Run.exit ?_
      | refine Run.draw (frz := [1]) Et_ok (by kernel_rfl) ?_
      | refine eX ?_
      | refine eS ?_
      | refine eN ?_
      | (refine Run.ret ?_; (first | refine rB ?_ | refine rI ?_ | refine rA ?_ | refine rII ?_ | refine rSI ?_ | refine rT ?_ | refine rS ?_); first | done | (skip))
      | ((exfalso; (simp at h <;> omega)))
      | fail)
    refine Run.loop (fun k : Nat => ⟨PT.ofList [(1, cellX x), (3, .d (strs ns)), (4, .d (.int .i64 i)), (5, .d (.int .i64 k))], [], []⟩) (fun k => k ≤ r.alts.length ∧ (r.alts.take k).any (fun a => a.any (unkS x)) = false) (fun k => r.alts.length - k) 0 ⟨Nat.zero_le _, rfl⟩ (weak_of (by repeat' (first | exact trivial | refine ⟨rfl, ?_⟩))) (fun k hk => ?_)
    rcases Nat.lt_or_ge k r.alts.length with hkl | hkg
    · obtain ⟨a, ha⟩ := get_ok hkl
      have hmema := List.mem_of_getElem? ha
      have hal := hf.names r hmem a hmema
      repeat' (first
        | refine Run.region ?_
        | refine Run.seq ?_
        | ((refine oB (frz := [1]) Et_ok (fun h => ?_) (fun h => ?_)) <;> (first | (exfalso; simp at h <;> fail) | (exfalso; simp at h; omega) | skip))
        | ((refine eB (fun h => ?_) (fun h => ?_)) <;> (first | (exfalso; simp at h <;> fail) | (exfalso; simp at h; omega) | skip))
        | refine oX (frz := [1]) Et_ok ?_
        | refine oS ?_
        | refine RunOps.nil ?_
        | refine Run.skip ?_
        | refine cT ?_
        | refine cF ?_
        | refine Run.block ?_
        | refine Run.exit ?_
        | refine Run.draw (frz := [1]) Et_ok (by kernel_rfl) ?_
        | refine eX ?_
        | refine eS ?_
        | refine eN ?_
        | refine oX (frz := [1]) (v := .d (.ep [.str r.name, alts r.alts])) Et_ok ?_ (hf := (by first | (simp [inB] <;> fail) | (simp [inB]; omega))) (he := (by first | (simp [List.getD_eq_getElem?_getD, cellsD, hr, encR] <;> fail) | fail))
        | refine eX (v := .d (.ep [.str r.name, alts r.alts])) ?_ (hf := (by first | (simp [inB] <;> fail) | (simp [inB]; omega))) (he := (by first | (simp [List.getD_eq_getElem?_getD, cellsD, hr, encR] <;> fail) | fail))
        | (refine Run.ret ?_; (first | refine rB ?_ | refine rI ?_ | refine rA ?_ | refine rII ?_ | refine rSI ?_ | refine rT ?_ | refine rS ?_); first | done | (skip))
        | ((exfalso; (simp at h <;> omega)))
        | fail)
      refine Run.loop (fun j : Nat => ⟨PT.ofList [(1, cellX x), (3, .d (strs ns)), (4, .d (.int .i64 i)), (5, .d (.int .i64 k)), (6, .d (.int .i64 j))], [], []⟩) (fun j => j ≤ a.length ∧ (a.take j).any (unkS x) = false) (fun j => a.length - j) 0 ⟨Nat.zero_le _, rfl⟩ (weak_of (by repeat' (first | exact trivial | refine ⟨rfl, ?_⟩))) (fun j hj => ?_)
      rcases Nat.lt_or_ge j a.length with hjl | hjg
      · obtain ⟨s, hs⟩ := get_ok hjl
        have h1 := has08 ns s hnl
        have h2 := has08 x.tokens s (Nat.le_trans htl (by decide))
        have hu := hunk s
        cases hc1 : hasF ns s with
        | true =>
          rw [show (ns.any fun y => decide (y = s)) = true from hc1] at h1
          rw [hc1] at hu
          repeat' (first
            | refine Run.region ?_
            | refine Run.seq ?_
            | ((refine oB (frz := [1]) Et_ok (fun h => ?_) (fun h => ?_)) <;> (first | (exfalso; simp at h <;> fail) | (exfalso; simp at h; omega) | skip))
            | ((refine eB (fun h => ?_) (fun h => ?_)) <;> (first | (exfalso; simp at h <;> fail) | (exfalso; simp at h; omega) | skip))
            | refine oX (frz := [1]) Et_ok ?_
            | refine oS ?_
            | refine RunOps.nil ?_
            | refine Run.skip ?_
            | refine cT ?_
            | refine cF ?_
            | refine Run.block ?_
            | refine Run.exit ?_
            | refine Run.draw (frz := [1]) Et_ok (by kernel_rfl) ?_
            | refine eX ?_
            | refine eS ?_
            | refine eN ?_
            | refine oX (frz := [1]) (v := .d (.ep [.str r.name, alts r.alts])) Et_ok ?_ (hf := (by first | (simp [inB] <;> fail) | (simp [inB]; omega))) (he := (by first | (simp [List.getD_eq_getElem?_getD, cellsD, hr, encR] <;> fail) | fail))
            | refine eX (v := .d (.ep [.str r.name, alts r.alts])) ?_ (hf := (by first | (simp [inB] <;> fail) | (simp [inB]; omega))) (he := (by first | (simp [List.getD_eq_getElem?_getD, cellsD, hr, encR] <;> fail) | fail))
            | refine oX (frz := [1]) (v := .d (.ep [strs a])) Et_ok ?_ (hf := (by first | (simp [inB] <;> fail) | (simp [inB]; omega))) (he := (by first | (simp [List.getD_eq_getElem?_getD, cellsD, ha] <;> fail) | fail))
            | refine eX (v := .d (.ep [strs a])) ?_ (hf := (by first | (simp [inB] <;> fail) | (simp [inB]; omega))) (he := (by first | (simp [List.getD_eq_getElem?_getD, cellsD, ha] <;> fail) | fail))
            | refine oX (frz := [1]) (v := .d (.ep [.str s])) Et_ok ?_ (hf := (by first | (simp [inB] <;> fail) | (simp [inB]; omega))) (he := (by first | (simp [List.getD_eq_getElem?_getD, cellsD, hs] <;> fail) | fail))
            | refine eX (v := .d (.ep [.str s])) ?_ (hf := (by first | (simp [inB] <;> fail) | (simp [inB]; omega))) (he := (by first | (simp [List.getD_eq_getElem?_getD, cellsD, hs] <;> fail) | fail))
            | refine oC (h1) ?_
            | refine eC (h1) ?_
            | refine oC (h2) ?_
            | refine eC (h2) ?_
            | (refine Run.ret ?_; (first | refine rB ?_ | refine rI ?_ | refine rA ?_ | refine rII ?_ | refine rSI ?_ | refine rT ?_ | refine rS ?_); first | done | (skip))
            | (exact ⟨j + 1, ⟨hjl, any_next hs hj.2 (by rw [hu]; rfl)⟩, by omega, weak_of (by repeat' (first | exact trivial | refine ⟨rfl, ?_⟩ | refine ⟨(inc_get (k := j) (by kernel_rfl) (by omega)), ?_⟩))⟩)
            | ((exfalso; (simp at h <;> omega)))
            | fail)
        | false =>
          rw [show (ns.any fun y => decide (y = s)) = false from hc1] at h1
          rw [hc1] at hu
          cases hc2 : hasF x.tokens s with
          | true =>
            rw [show (x.tokens.any fun y => decide (y = s)) = true from hc2] at h2
            rw [hc2] at hu
            repeat' (first
              | refine Run.region ?_
              | refine Run.seq ?_
              | ((refine oB (frz := [1]) Et_ok (fun h => ?_) (fun h => ?_)) <;> (first | (exfalso; simp at h <;> fail) | (exfalso; simp at h; omega) | skip))
              | ((refine eB (fun h => ?_) (fun h => ?_)) <;> (first | (exfalso; simp at h <;> fail) | (exfalso; simp at h; omega) | skip))
              | refine oX (frz := [1]) Et_ok ?_
              | refine oS ?_
              | refine RunOps.nil ?_
              | refine Run.skip ?_
              | refine cT ?_
              | refine cF ?_
              | refine Run.block ?_
              | refine Run.exit ?_
              | refine Run.draw (frz := [1]) Et_ok (by kernel_rfl) ?_
              | refine eX ?_
              | refine eS ?_
              | refine eN ?_
              | refine oX (frz := [1]) (v := .d (.ep [.str r.name, alts r.alts])) Et_ok ?_ (hf := (by first | (simp [inB] <;> fail) | (simp [inB]; omega))) (he := (by first | (simp [List.getD_eq_getElem?_getD, cellsD, hr, encR] <;> fail) | fail))
              | refine eX (v := .d (.ep [.str r.name, alts r.alts])) ?_ (hf := (by first | (simp [inB] <;> fail) | (simp [inB]; omega))) (he := (by first | (simp [List.getD_eq_getElem?_getD, cellsD, hr, encR] <;> fail) | fail))
              | refine oX (frz := [1]) (v := .d (.ep [strs a])) Et_ok ?_ (hf := (by first | (simp [inB] <;> fail) | (simp [inB]; omega))) (he := (by first | (simp [List.getD_eq_getElem?_getD, cellsD, ha] <;> fail) | fail))
              | refine eX (v := .d (.ep [strs a])) ?_ (hf := (by first | (simp [inB] <;> fail) | (simp [inB]; omega))) (he := (by first | (simp [List.getD_eq_getElem?_getD, cellsD, ha] <;> fail) | fail))
              | refine oX (frz := [1]) (v := .d (.ep [.str s])) Et_ok ?_ (hf := (by first | (simp [inB] <;> fail) | (simp [inB]; omega))) (he := (by first | (simp [List.getD_eq_getElem?_getD, cellsD, hs] <;> fail) | fail))
              | refine eX (v := .d (.ep [.str s])) ?_ (hf := (by first | (simp [inB] <;> fail) | (simp [inB]; omega))) (he := (by first | (simp [List.getD_eq_getElem?_getD, cellsD, hs] <;> fail) | fail))
              | refine oC (h1) ?_
              | refine eC (h1) ?_
              | refine oC (h2) ?_
              | refine eC (h2) ?_
              | (refine Run.ret ?_; (first | refine rB ?_ | refine rI ?_ | refine rA ?_ | refine rII ?_ | refine rSI ?_ | refine rT ?_ | refine rS ?_); first | done | (skip))
              | (exact ⟨j + 1, ⟨hjl, any_next hs hj.2 (by rw [hu]; rfl)⟩, by omega, weak_of (by repeat' (first | exact trivial | refine ⟨rfl, ?_⟩ | refine ⟨(inc_get (k := j) (by kernel_rfl) (by omega)), ?_⟩))⟩)
              | ((exfalso; (simp at h <;> omega)))
              | fail)
          | false =>
            rw [show (x.tokens.any fun y => decide (y = s)) = false from hc2] at h2
            rw [hc2] at hu
            have hm : unkX x = true := by unfold unkX; rw [any_hit hr (p := unkR x) (by unfold unkR; exact any_hit ha (p := fun a => a.any (unkS x)) (any_hit hs (by rw [hu]; rfl)))]; rfl
            rw [hm]
            repeat' (first
              | refine Run.region ?_
              | refine Run.seq ?_
              | ((refine oB (frz := [1]) Et_ok (fun h => ?_) (fun h => ?_)) <;> (first | (exfalso; simp at h <;> fail) | (exfalso; simp at h; omega) | skip))
              | ((refine eB (fun h => ?_) (fun h => ?_)) <;> (first | (exfalso; simp at h <;> fail) | (exfalso; simp at h; omega) | skip))
              | refine oX (frz := [1]) Et_ok ?_
              | refine oS ?_
              | refine RunOps.nil ?_
              | refine Run.skip ?_
              | refine cT ?_
              | refine cF ?_
              | refine Run.block ?_
              | refine Run.exit ?_
              | refine Run.draw (frz := [1]) Et_ok (by kernel_rfl) ?_
              | refine eX ?_
              | refine eS ?_
              | refine eN ?_
              | refine oX (frz := [1]) (v := .d (.ep [.str r.name, alts r.alts])) Et_ok ?_ (hf := (by first | (simp [inB] <;> fail) | (simp [inB]; omega))) (he := (by first | (simp [List.getD_eq_getElem?_getD, cellsD, hr, encR] <;> fail) | fail))
              | refine eX (v := .d (.ep [.str r.name, alts r.alts])) ?_ (hf := (by first | (simp [inB] <;> fail) | (simp [inB]; omega))) (he := (by first | (simp [List.getD_eq_getElem?_getD, cellsD, hr, encR] <;> fail) | fail))
              | refine oX (frz := [1]) (v := .d (.ep [strs a])) Et_ok ?_ (hf := (by first | (simp [inB] <;> fail) | (simp [inB]; omega))) (he := (by first | (simp [List.getD_eq_getElem?_getD, cellsD, ha] <;> fail) | fail))
              | refine eX (v := .d (.ep [strs a])) ?_ (hf := (by first | (simp [inB] <;> fail) | (simp [inB]; omega))) (he := (by first | (simp [List.getD_eq_getElem?_getD, cellsD, ha] <;> fail) | fail))
              | refine oX (frz := [1]) (v := .d (.ep [.str s])) Et_ok ?_ (hf := (by first | (simp [inB] <;> fail) | (simp [inB]; omega))) (he := (by first | (simp [List.getD_eq_getElem?_getD, cellsD, hs] <;> fail) | fail))
              | refine eX (v := .d (.ep [.str s])) ?_ (hf := (by first | (simp [inB] <;> fail) | (simp [inB]; omega))) (he := (by first | (simp [List.getD_eq_getElem?_getD, cellsD, hs] <;> fail) | fail))
              | refine oC (h1) ?_
              | refine eC (h1) ?_
              | refine oC (h2) ?_
              | refine eC (h2) ?_
              | (refine Run.ret ?_; (first | refine rB ?_ | refine rI ?_ | refine rA ?_ | refine rII ?_ | refine rSI ?_ | refine rT ?_ | refine rS ?_); first | done | (rfl))
              | ((exfalso; (simp at h <;> omega)))
              | fail)
      · have hje : j = a.length := by omega
        subst hje
        have haa := any_end hj.2
        repeat' (first
          | refine Run.region ?_
          | refine Run.seq ?_
          | ((refine oB (frz := [1]) Et_ok (fun h => ?_) (fun h => ?_)) <;> (first | (exfalso; simp at h <;> fail) | (exfalso; simp at h; omega) | skip))
          | ((refine eB (fun h => ?_) (fun h => ?_)) <;> (first | (exfalso; simp at h <;> fail) | (exfalso; simp at h; omega) | skip))
          | refine oX (frz := [1]) Et_ok ?_
          | refine oS ?_
          | refine RunOps.nil ?_
          | refine Run.skip ?_
          | refine cT ?_
          | refine cF ?_
          | refine Run.block ?_
          | refine Run.exit ?_
          | refine Run.draw (frz := [1]) Et_ok (by kernel_rfl) ?_
          | refine eX ?_
          | refine eS ?_
          | refine eN ?_
          | refine oX (frz := [1]) (v := .d (.ep [.str r.name, alts r.alts])) Et_ok ?_ (hf := (by first | (simp [inB] <;> fail) | (simp [inB]; omega))) (he := (by first | (simp [List.getD_eq_getElem?_getD, cellsD, hr, encR] <;> fail) | fail))
          | refine eX (v := .d (.ep [.str r.name, alts r.alts])) ?_ (hf := (by first | (simp [inB] <;> fail) | (simp [inB]; omega))) (he := (by first | (simp [List.getD_eq_getElem?_getD, cellsD, hr, encR] <;> fail) | fail))
          | refine oX (frz := [1]) (v := .d (.ep [strs a])) Et_ok ?_ (hf := (by first | (simp [inB] <;> fail) | (simp [inB]; omega))) (he := (by first | (simp [List.getD_eq_getElem?_getD, cellsD, ha] <;> fail) | fail))
          | refine eX (v := .d (.ep [strs a])) ?_ (hf := (by first | (simp [inB] <;> fail) | (simp [inB]; omega))) (he := (by first | (simp [List.getD_eq_getElem?_getD, cellsD, ha] <;> fail) | fail))
          | (refine Run.ret ?_; (first | refine rB ?_ | refine rI ?_ | refine rA ?_ | refine rII ?_ | refine rSI ?_ | refine rT ?_ | refine rS ?_); first | done | (skip))
          | (exact ⟨k + 1, ⟨hkl, any_next ha hk.2 haa⟩, by omega, weak_of (by repeat' (first | exact trivial | refine ⟨rfl, ?_⟩ | refine ⟨(inc_get (k := k) (by kernel_rfl) (by omega)), ?_⟩))⟩)
          | ((exfalso; (simp at h <;> omega)))
          | fail)
    · have hke : k = r.alts.length := by omega
      subst hke
      have hkk := any_end hk.2
      repeat' (first
        | refine Run.region ?_
        | refine Run.seq ?_
        | ((refine oB (frz := [1]) Et_ok (fun h => ?_) (fun h => ?_)) <;> (first | (exfalso; simp at h <;> fail) | (exfalso; simp at h; omega) | skip))
        | ((refine eB (fun h => ?_) (fun h => ?_)) <;> (first | (exfalso; simp at h <;> fail) | (exfalso; simp at h; omega) | skip))
        | refine oX (frz := [1]) Et_ok ?_
        | refine oS ?_
        | refine RunOps.nil ?_
        | refine Run.skip ?_
        | refine cT ?_
        | refine cF ?_
        | refine Run.block ?_
        | refine Run.exit ?_
        | refine Run.draw (frz := [1]) Et_ok (by kernel_rfl) ?_
        | refine eX ?_
        | refine eS ?_
        | refine eN ?_
        | refine oX (frz := [1]) (v := .d (.ep [.str r.name, alts r.alts])) Et_ok ?_ (hf := (by first | (simp [inB] <;> fail) | (simp [inB]; omega))) (he := (by first | (simp [List.getD_eq_getElem?_getD, cellsD, hr, encR] <;> fail) | fail))
        | refine eX (v := .d (.ep [.str r.name, alts r.alts])) ?_ (hf := (by first | (simp [inB] <;> fail) | (simp [inB]; omega))) (he := (by first | (simp [List.getD_eq_getElem?_getD, cellsD, hr, encR] <;> fail) | fail))
        | (refine Run.ret ?_; (first | refine rB ?_ | refine rI ?_ | refine rA ?_ | refine rII ?_ | refine rSI ?_ | refine rT ?_ | refine rS ?_); first | done | (skip))
        | (exact ⟨i + 1, ⟨hlt, any_next hr hi.2 hkk⟩, by omega, weak_of (by repeat' (first | exact trivial | refine ⟨rfl, ?_⟩ | refine ⟨(inc_get (k := i) (by kernel_rfl) (by omega)), ?_⟩))⟩)
        | ((exfalso; (simp at h <;> omega)))
        | fail)
  · have hie : i = x.rules.length := by omega
    subst hie
    have h1 := has08 ns x.start hnl
    have hm : unkX x = !hasF ns x.start := by unfold unkX; rw [any_end hi.2, hns]; rfl
    rw [hm]
    cases hc1 : hasF ns x.start with
    | true =>
      rw [show (ns.any fun y => decide (y = x.start)) = true from hc1] at h1
      repeat' (first
        | refine Run.region ?_
        | refine Run.seq ?_
        | ((refine oB (frz := [1]) Et_ok (fun h => ?_) (fun h => ?_)) <;> (first | (exfalso; simp at h <;> fail) | (exfalso; simp at h; omega) | skip))
        | ((refine eB (fun h => ?_) (fun h => ?_)) <;> (first | (exfalso; simp at h <;> fail) | (exfalso; simp at h; omega) | skip))
        | refine oX (frz := [1]) Et_ok ?_
        | refine oS ?_
        | refine RunOps.nil ?_
        | refine Run.skip ?_
        | refine cT ?_
        | refine cF ?_
        | refine Run.block ?_
        | refine Run.exit ?_
        | refine Run.draw (frz := [1]) Et_ok (by kernel_rfl) ?_
        | refine eX ?_
        | refine eS ?_
        | refine eN ?_
        | refine oC (h1) ?_
        | refine eC (h1) ?_
        | (refine Run.ret ?_; (first | refine rB ?_ | refine rI ?_ | refine rA ?_ | refine rII ?_ | refine rSI ?_ | refine rT ?_ | refine rS ?_); first | done | (rfl))
        | ((exfalso; (simp at h <;> omega)))
        | fail)
    | false =>
      rw [show (ns.any fun y => decide (y = x.start)) = false from hc1] at h1
      repeat' (first
        | refine Run.region ?_
        | refine Run.seq ?_
        | ((refine oB (frz := [1]) Et_ok (fun h => ?_) (fun h => ?_)) <;> (first | (exfalso; simp at h <;> fail) | (exfalso; simp at h; omega) | skip))
        | ((refine eB (fun h => ?_) (fun h => ?_)) <;> (first | (exfalso; simp at h <;> fail) | (exfalso; simp at h; omega) | skip))
        | refine oX (frz := [1]) Et_ok ?_
        | refine oS ?_
        | refine RunOps.nil ?_
        | refine Run.skip ?_
        | refine cT ?_
        | refine cF ?_
        | refine Run.block ?_
        | refine Run.exit ?_
        | refine Run.draw (frz := [1]) Et_ok (by kernel_rfl) ?_
        | refine eX ?_
        | refine eS ?_
        | refine eN ?_
        | refine oC (h1) ?_
        | refine eC (h1) ?_
        | (refine Run.ret ?_; (first | refine rB ?_ | refine rI ?_ | refine rA ?_ | refine rII ?_ | refine rSI ?_ | refine rT ?_ | refine rS ?_); first | done | (rfl))
        | ((exfalso; (simp at h <;> omega)))
        | fail)
def smallsX (x : Src) : List (List Nat) := x.tokens ++ [x.sep]
def twoX (x : Src) : Bool := decide (¬ (smallsX x).Nodup) || decide (¬ (ruleNames x).Nodup)
def checkX (x : Src) : Int := if x.k < 1 ∨ 4 < x.k then 2 else if shortX x = true then 5 else if fullX x = true then 6 else if misX x = true then 12 else if twoX x = true then 8 else if usesX x x.sep = true then 14 else if unkX x = true then 7 else 0
theorem strs_smallsX (x : Src) : DV.sl 1 ([] ++ x.tokens.map DV.str ++ [DV.str x.sep]) = strs (smallsX x) := by simp [smallsX]
theorem checkX_k {x : Src} (h : x.k < 1 ∨ 4 < x.k) : checkX x = 2 := if_pos h
theorem check08 (x : Src) (hf : FitsX x) : KnownCall Try.prog 53 [encX x] (.d (.int .i64 (checkX x))) := by
  have htl := hf.tokens
  have hrl := hf.rules
  have c1 := short08 x hf
  have c2 := full08 x hf
  have c3 := misnamed08 x hf
  have c4 := twice08 (smallsX x) (by simp [smallsX]; omega)
  have c5 := rules08 x hf
  have c6 := twice08 (ruleNames x) (by simp; omega)
  have c7 := uses08 x x.sep hf
  have c8 := unknown08 x hf
  rw [← strs_smallsX] at c4
  by_cases hk : x.k < 1 ∨ 4 < x.k
  · rw [checkX_k hk]
    by_cases hk1 : x.k < 1
    · refine knownE Et_ok (fnAt Try.func53 (by kernel_rfl) (by kernel_rfl) : FnAt _ _ (mkFn Try.f53 [1, 28])) ?_
      repeat' (first
        | refine Run.region ?_
        | refine Run.seq ?_
        | ((refine oB (frz := [1, 28]) Et_ok (fun h => ?_) (fun h => ?_)) <;> (first | (exfalso; simp at h <;> fail) | (exfalso; simp at h; omega) | skip))
        | ((refine eB (fun h => ?_) (fun h => ?_)) <;> (first | (exfalso; simp at h <;> fail) | (exfalso; simp at h; omega) | skip))
        | refine oX (frz := [1, 28]) Et_ok ?_
        | refine oS ?_
        | refine RunOps.nil ?_
        | refine Run.skip ?_
        | refine cT ?_
        | refine cF ?_
        | refine Run.block ?_
        | refine Run.exit ?_
        | refine Run.draw (frz := [1, 28]) Et_ok (by kernel_rfl) ?_
        | refine eX ?_
        | refine eS ?_
        | refine eN ?_
        | (refine Run.ret ?_; (first | refine rB ?_ | refine rI ?_ | refine rA ?_ | refine rII ?_ | refine rSI ?_ | refine rT ?_ | refine rS ?_); first | done | (rfl))
        | ((exfalso; (simp at h <;> omega)))
        | fail)
    · have hk4 : 4 < x.k := by omega
      refine knownE Et_ok (fnAt Try.func53 (by kernel_rfl) (by kernel_rfl) : FnAt _ _ (mkFn Try.f53 [1, 28])) ?_
      repeat' (first
        | refine Run.region ?_
        | refine Run.seq ?_
        | ((refine oB (frz := [1, 28]) Et_ok (fun h => ?_) (fun h => ?_)) <;> (first | (exfalso; simp at h <;> fail) | (exfalso; simp at h; omega) | skip))
        | ((refine eB (fun h => ?_) (fun h => ?_)) <;> (first | (exfalso; simp at h <;> fail) | (exfalso; simp at h; omega) | skip))
        | refine oX (frz := [1, 28]) Et_ok ?_
        | refine oS ?_
        | refine RunOps.nil ?_
        | refine Run.skip ?_
        | refine cT ?_
        | refine cF ?_
        | refine Run.block ?_
        | refine Run.exit ?_
        | refine Run.draw (frz := [1, 28]) Et_ok (by kernel_rfl) ?_
        | refine eX ?_
        | refine eS ?_
        | refine eN ?_
        | (refine Run.ret ?_; (first | refine rB ?_ | refine rI ?_ | refine rA ?_ | refine rII ?_ | refine rSI ?_ | refine rT ?_ | refine rS ?_); first | done | (rfl))
        | ((exfalso; (simp at h <;> omega)))
        | fail)
  · have hk1 : ¬ x.k < 1 := fun h => hk (.inl h)
    have hk4 : ¬ 4 < x.k := fun h => hk (.inr h)
    have hc : checkX x = if shortX x = true then 5 else if fullX x = true then 6 else if misX x = true then 12 else if (decide (¬ (smallsX x).Nodup) || decide (¬ (ruleNames x).Nodup)) = true then 8 else if usesX x x.sep = true then 14 else if unkX x = true then 7 else 0 := if_neg hk
    rw [hc]
    generalize shortX x = b1 at c1 ⊢
    generalize fullX x = b2 at c2 ⊢
    generalize misX x = b3 at c3 ⊢
    generalize decide (¬ (smallsX x).Nodup) = b4 at c4 ⊢
    generalize decide (¬ (ruleNames x).Nodup) = b5 at c6 ⊢
    generalize usesX x x.sep = b6 at c7 ⊢
    generalize unkX x = b7 at c8 ⊢
    cases b1 with
    | true =>
      refine knownE Et_ok (fnAt Try.func53 (by kernel_rfl) (by kernel_rfl) : FnAt _ _ (mkFn Try.f53 [1, 28])) ?_
      repeat' (first
        | refine Run.region ?_
        | refine Run.seq ?_
        | ((refine oB (frz := [1, 28]) Et_ok (fun h => ?_) (fun h => ?_)) <;> (first | (exfalso; simp at h <;> fail) | (exfalso; simp at h; omega) | skip))
        | ((refine eB (fun h => ?_) (fun h => ?_)) <;> (first | (exfalso; simp at h <;> fail) | (exfalso; simp at h; omega) | skip))
        | refine oX (frz := [1, 28]) Et_ok ?_
        | refine oS ?_
        | refine RunOps.nil ?_
        | refine Run.skip ?_
        | refine cT ?_
        | refine cF ?_
        | refine Run.block ?_
        | refine Run.exit ?_
        | refine Run.draw (frz := [1, 28]) Et_ok (by kernel_rfl) ?_
        | refine eX ?_
        | refine eS ?_
        | refine eN ?_
        | refine oC (c1) ?_
        | refine eC (c1) ?_
        | (refine Run.ret ?_; (first | refine rB ?_ | refine rI ?_ | refine rA ?_ | refine rII ?_ | refine rSI ?_ | refine rT ?_ | refine rS ?_); first | done | (rfl))
        | ((exfalso; (simp at h <;> omega)))
        | fail)
    | false =>
      cases b2 with
      | true =>
        refine knownE Et_ok (fnAt Try.func53 (by kernel_rfl) (by kernel_rfl) : FnAt _ _ (mkFn Try.f53 [1, 28])) ?_
        repeat' (first
          | refine Run.region ?_
          | refine Run.seq ?_
          | ((refine oB (frz := [1, 28]) Et_ok (fun h => ?_) (fun h => ?_)) <;> (first | (exfalso; simp at h <;> fail) | (exfalso; simp at h; omega) | skip))
          | ((refine eB (fun h => ?_) (fun h => ?_)) <;> (first | (exfalso; simp at h <;> fail) | (exfalso; simp at h; omega) | skip))
          | refine oX (frz := [1, 28]) Et_ok ?_
          | refine oS ?_
          | refine RunOps.nil ?_
          | refine Run.skip ?_
          | refine cT ?_
          | refine cF ?_
          | refine Run.block ?_
          | refine Run.exit ?_
          | refine Run.draw (frz := [1, 28]) Et_ok (by kernel_rfl) ?_
          | refine eX ?_
          | refine eS ?_
          | refine eN ?_
          | refine oC (c1) ?_
          | refine eC (c1) ?_
          | refine oC (c2) ?_
          | refine eC (c2) ?_
          | (refine Run.ret ?_; (first | refine rB ?_ | refine rI ?_ | refine rA ?_ | refine rII ?_ | refine rSI ?_ | refine rT ?_ | refine rS ?_); first | done | (rfl))
          | ((exfalso; (simp at h <;> omega)))
          | fail)
      | false =>
        cases b3 with
        | true =>
          refine knownE Et_ok (fnAt Try.func53 (by kernel_rfl) (by kernel_rfl) : FnAt _ _ (mkFn Try.f53 [1, 28])) ?_
          repeat' (first
            | refine Run.region ?_
            | refine Run.seq ?_
            | ((refine oB (frz := [1, 28]) Et_ok (fun h => ?_) (fun h => ?_)) <;> (first | (exfalso; simp at h <;> fail) | (exfalso; simp at h; omega) | skip))
            | ((refine eB (fun h => ?_) (fun h => ?_)) <;> (first | (exfalso; simp at h <;> fail) | (exfalso; simp at h; omega) | skip))
            | refine oX (frz := [1, 28]) Et_ok ?_
            | refine oS ?_
            | refine RunOps.nil ?_
            | refine Run.skip ?_
            | refine cT ?_
            | refine cF ?_
            | refine Run.block ?_
            | refine Run.exit ?_
            | refine Run.draw (frz := [1, 28]) Et_ok (by kernel_rfl) ?_
            | refine eX ?_
            | refine eS ?_
            | refine eN ?_
            | refine oC (c1) ?_
            | refine eC (c1) ?_
            | refine oC (c2) ?_
            | refine eC (c2) ?_
            | refine oC (c3) ?_
            | refine eC (c3) ?_
            | (refine Run.ret ?_; (first | refine rB ?_ | refine rI ?_ | refine rA ?_ | refine rII ?_ | refine rSI ?_ | refine rT ?_ | refine rS ?_); first | done | (rfl))
            | ((exfalso; (simp at h <;> omega)))
            | fail)
        | false =>
          refine knownE Et_ok (fnAt Try.func53 (by kernel_rfl) (by kernel_rfl) : FnAt _ _ (mkFn Try.f53 [1, 28])) ?_
          repeat' (first
            | refine Run.region ?_
            | refine Run.seq ?_
            | ((refine oB (frz := [1, 28]) Et_ok (fun h => ?_) (fun h => ?_)) <;> (first | (exfalso; simp at h <;> fail) | (exfalso; simp at h; omega) | skip))
            | ((refine eB (fun h => ?_) (fun h => ?_)) <;> (first | (exfalso; simp at h <;> fail) | (exfalso; simp at h; omega) | skip))
            | refine oX (frz := [1, 28]) Et_ok ?_
            | refine oS ?_
            | refine RunOps.nil ?_
            | refine Run.skip ?_
            | refine cT ?_
            | refine cF ?_
            | refine Run.block ?_
            | refine Run.exit ?_
            | refine Run.draw (frz := [1, 28]) Et_ok (by kernel_rfl) ?_
            | refine eX ?_
            | refine eS ?_
            | refine eN ?_
            | refine oC (c1) ?_
            | refine eC (c1) ?_
            | refine oC (c2) ?_
            | refine eC (c2) ?_
            | refine oC (c3) ?_
            | refine eC (c3) ?_
            | ((refine oLb (c4) (fun h => ?_) (fun h => ?_)) <;> (first | (exfalso; simp at h <;> fail) | (exfalso; simp at h; omega) | skip))
            | refine oL (c4) ?_
            | ((refine eLb (c4) (fun h => ?_) (fun h => ?_)) <;> (first | (exfalso; simp at h <;> fail) | (exfalso; simp at h; omega) | skip))
            | refine eL (c4) ?_
            | ((refine oK (c5) (fun h => ?_) (fun h => ?_)) <;> (first | (exfalso; simp at h <;> fail) | (exfalso; simp at h; omega) | skip))
            | refine oC (c5) ?_
            | ((refine eK (c5) (fun h => ?_) (fun h => ?_)) <;> (first | (exfalso; simp at h <;> fail) | (exfalso; simp at h; omega) | skip))
            | refine eC (c5) ?_
            | ((refine oK (c6) (fun h => ?_) (fun h => ?_)) <;> (first | (exfalso; simp at h <;> fail) | (exfalso; simp at h; omega) | skip))
            | refine oC (c6) ?_
            | ((refine eK (c6) (fun h => ?_) (fun h => ?_)) <;> (first | (exfalso; simp at h <;> fail) | (exfalso; simp at h; omega) | skip))
            | refine eC (c6) ?_
            | ((refine oK (c7) (fun h => ?_) (fun h => ?_)) <;> (first | (exfalso; simp at h <;> fail) | (exfalso; simp at h; omega) | skip))
            | refine oC (c7) ?_
            | ((refine eK (c7) (fun h => ?_) (fun h => ?_)) <;> (first | (exfalso; simp at h <;> fail) | (exfalso; simp at h; omega) | skip))
            | refine eC (c7) ?_
            | ((refine oK (c8) (fun h => ?_) (fun h => ?_)) <;> (first | (exfalso; simp at h <;> fail) | (exfalso; simp at h; omega) | skip))
            | refine oC (c8) ?_
            | ((refine eK (c8) (fun h => ?_) (fun h => ?_)) <;> (first | (exfalso; simp at h <;> fail) | (exfalso; simp at h; omega) | skip))
            | refine eC (c8) ?_
            | refine oX (frz := [1, 28]) Et_ok ?_ (hv := app1) (hf := rfl) (he := rfl)
            | refine eX ?_ (hv := app1) (hf := rfl) (he := rfl)
            | refine oX (frz := [1, 28]) Et_ok ?_ (hv := app0) (hf := rfl) (he := rfl)
            | refine eX ?_ (hv := app0) (hf := rfl) (he := rfl)
            | (refine Run.ret ?_; (first | refine rB ?_ | refine rI ?_ | refine rA ?_ | refine rII ?_ | refine rSI ?_ | refine rT ?_ | refine rS ?_); first | done | (first | rfl | (simp_all <;> fail)))
            | ((exfalso; (simp at h <;> omega)))
            | ((exfalso; simp_all <;> fail))
            | fail)
end Go.Av
end

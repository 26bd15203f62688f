/-
  Parts of the way to the law, joined. Conditions stand at each.
-/
import Derived.Test.YtpcomlcjkdmggaaGreatMFA2
import Derived.Test.YtpcomlcjkdmggaaGreatRows
import Derived.Test.YtpcomlcjkdmggaaGreatMFA3
import Derived.Shelf.SlSortCmp.NoneTotal
import Derived.Ground.SlsfProg
import Derived.Test.YtpcomlcjkdmggaaGreatProg
set_option linter.all false
namespace Go.Av
open Go Go.Proofs
def ty2 : Ty := ⟨.int .i64, 1, 8, [(.int .i64 0)]⟩
def ty3 : Ty := ⟨.int .i64, 1, 8, [(.int .i64 0)]⟩
def ty4 : Ty := ⟨.bool, 1, 1, [(.bool false)]⟩
def ty5 : Ty := ⟨.int .u8, 1, 1, [(.int .u8 0)]⟩
def ty9 : Ty := ⟨.string, 1, 16, [(.str [])]⟩
def ty21 : Ty := ⟨.int .i32, 1, 4, [(.int .i32 0)]⟩
def ty22 : Ty := ⟨.slice 9, 1, 24, [.nilsl]⟩
def ty23 : Ty := ⟨.slice 54, 1, 24, [.nilsl]⟩
def ty25 : Ty := ⟨.struct #[⟨ "K", 3, 0, false, "", "", 0⟩, ⟨ "Tokens", 22, 1, false, "", "", 8⟩, ⟨ "Sep", 9, 2, false, "", "", 32⟩, ⟨ "Names", 22, 3, false, "", "", 48⟩, ⟨ "Start", 3, 4, false, "", "", 72⟩, ⟨ "Prods", 23, 5, false, "", "", 80⟩], 6, 104, [(.int .i64 0), .nilsl, (.str []), .nilsl, (.int .i64 0), .nilsl]⟩
def ty26 : Ty := ⟨.slice 3, 1, 24, [.nilsl]⟩
def ty30 : Ty := ⟨.slice 35, 1, 24, [.nilsl]⟩
def ty31 : Ty := ⟨.int .i64, 1, 8, [(.int .i64 0)]⟩
def ty35 : Ty := ⟨.slice 44, 1, 24, [.nilsl]⟩
def ty42 : Ty := ⟨.array 4 3, 4, 32, [(.int .i64 0), (.int .i64 0), (.int .i64 0), (.int .i64 0)]⟩
def ty44 : Ty := ⟨.struct #[⟨ "N", 3, 0, false, "", "", 0⟩, ⟨ "S", 42, 1, false, "", "", 8⟩], 5, 40, [(.int .i64 0), (.int .i64 0), (.int .i64 0), (.int .i64 0), (.int .i64 0)]⟩
def ty54 : Ty := ⟨.struct #[⟨ "Left", 3, 0, false, "", "", 0⟩, ⟨ "Right", 26, 1, false, "", "", 8⟩], 2, 32, [(.int .i64 0), .nilsl]⟩
def ty56 : Ty := ⟨.func #[25] #[31] false, 1, 8, [.nilfunc]⟩
def ty57 : Ty := ⟨.slice 62, 1, 24, [.nilsl]⟩
def ty59 : Ty := ⟨.struct #[⟨ "g", 25, 0, false, "", "stenotype/first", 0⟩, ⟨ "sets", 57, 6, false, "", "stenotype/first", 104⟩], 7, 128, [(.int .i64 0), .nilsl, (.str []), .nilsl, (.int .i64 0), .nilsl, .nilsl]⟩
def ty62 : Ty := ⟨.map 44 4, 1, 8, [.nilmap]⟩
def ty64 : Ty := ⟨.func #[102] #[] false, 1, 8, [.nilfunc]⟩
def ty65 : Ty := ⟨.func #[102] #[] false, 1, 8, [.nilfunc]⟩
def ty75 : Ty := ⟨.slice 56, 1, 24, [.nilsl]⟩
def ty80 : Ty := ⟨.func #[44, 44] #[3] false, 1, 8, [.nilfunc]⟩
def ty87 : Ty := ⟨.func #[62, 3] #[62] false, 1, 8, [.nilfunc]⟩
def ty88 : Ty := ⟨.slice 4, 1, 24, [.nilsl]⟩
def ty92 : Ty := ⟨.func #[146] #[] false, 1, 8, [.nilfunc]⟩
def ty93 : Ty := ⟨.func #[146] #[] false, 1, 8, [.nilfunc]⟩
def ty96 : Ty := ⟨.map 9 4, 1, 8, [.nilmap]⟩
def ty99 : Ty := ⟨.func #[3] #[4] false, 1, 8, [.nilfunc]⟩
def ty101 : Ty := ⟨.func #[54] #[4] false, 1, 8, [.nilfunc]⟩
def ty102 : Ty := ⟨.func #[44] #[4] false, 1, 8, [.nilfunc]⟩
def ty105 : Ty := ⟨.int .u64, 1, 8, [(.int .u64 0)]⟩
def ty117 : Ty := ⟨.slice 2, 1, 24, [.nilsl]⟩
def ty124 : Ty := ⟨.int .i64, 1, 8, [(.int .i64 0)]⟩
def ty132 : Ty := ⟨.int .u32, 1, 4, [(.int .u32 0)]⟩
def ty134 : Ty := ⟨.int .u64, 1, 8, [(.int .u64 0)]⟩
def ty145 : Ty := ⟨.func #[54] #[2] false, 1, 8, [.nilfunc]⟩
def ty146 : Ty := ⟨.func #[3, 54] #[4] false, 1, 8, [.nilfunc]⟩
def ty147 : Ty := ⟨.int .u64, 1, 8, [(.int .u64 0)]⟩
def ty151 : Ty := ⟨.pointer 3, 1, 8, [.nilptr]⟩
def ty154 : Ty := ⟨.array 4 9, 4, 64, [(.str []), (.str []), (.str []), (.str [])]⟩
def ty156 : Ty := ⟨.pointer 147, 1, 8, [.nilptr]⟩
noncomputable def Et : PT Ty := (.node (.node (.node (.node (.node (.node .nil (some ty31) .nil) none .nil) none (.node .nil (some ty23) (.node (.node (.node .nil (some ty151) .nil) (some ty87) .nil) none .nil))) (some ty3) (.node (.node (.node .nil (some ty35) (.node .nil (some ty99) .nil)) none (.node (.node (.node .nil (some ty147) .nil) none .nil) none .nil)) none (.node (.node (.node .nil (some ty75) .nil) none .nil) none (.node .nil (some ty59) .nil)))) none (.node (.node (.node (.node (.node .nil (some ty65) .nil) none .nil) none (.node (.node (.node .nil (some ty145) .nil) none .nil) none .nil)) (some ty9) (.node (.node .nil none (.node .nil (some ty105) .nil)) (some ty25) (.node .nil (some ty57) .nil))) (some ty5) (.node (.node (.node .nil none (.node .nil (some ty101) .nil)) (some ty21) (.node .nil none (.node .nil (some ty117) .nil))) none (.node .nil none (.node (.node .nil (some ty93) .nil) none .nil))))) none (.node (.node (.node (.node (.node (.node .nil (some ty64) .nil) none (.node .nil (some ty96) .nil)) none (.node (.node .nil (some ty80) .nil) none .nil)) none (.node .nil none (.node (.node .nil (some ty88) .nil) (some ty56) .nil))) (some ty4) (.node (.node (.node (.node (.node .nil (some ty132) .nil) none .nil) none .nil) none .nil) none (.node (.node .nil (some ty44) .nil) none (.node (.node (.node .nil (some ty156) .nil) (some ty92) .nil) none (.node .nil (some ty124) .nil))))) (some ty2) (.node (.node (.node .nil none (.node (.node (.node .nil (some ty146) .nil) none .nil) none .nil)) none (.node (.node .nil (some ty42) .nil) (some ty26) (.node (.node (.node .nil (some ty154) .nil) none .nil) none .nil))) none (.node (.node (.node (.node (.node .nil (some ty134) .nil) none .nil) none (.node .nil (some ty102) .nil)) (some ty22) (.node .nil (some ty54) .nil)) none (.node .nil (some ty30) (.node .nil (some ty62) .nil))))))
theorem Et_ok : EnvOK Tryz.prog Et := envOK_of ⟨trivial, ⟨trivial, ⟨⟨by kernel_rfl, by kernel_rfl⟩, ⟨trivial, ⟨trivial, ⟨⟨by kernel_rfl, by kernel_rfl⟩, trivial, trivial⟩, trivial⟩, ⟨⟨by kernel_rfl, by kernel_rfl⟩, trivial, ⟨trivial, ⟨⟨by kernel_rfl, by kernel_rfl⟩, ⟨⟨by kernel_rfl, by kernel_rfl⟩, trivial, trivial⟩, trivial⟩, trivial⟩⟩⟩, ⟨trivial, ⟨trivial, ⟨⟨by kernel_rfl, by kernel_rfl⟩, trivial, ⟨⟨by kernel_rfl, by kernel_rfl⟩, trivial, trivial⟩⟩, ⟨trivial, ⟨trivial, ⟨⟨by kernel_rfl, by kernel_rfl⟩, trivial, trivial⟩, trivial⟩, trivial⟩⟩, ⟨trivial, ⟨trivial, ⟨⟨by kernel_rfl, by kernel_rfl⟩, trivial, trivial⟩, trivial⟩, ⟨⟨by kernel_rfl, by kernel_rfl⟩, trivial, trivial⟩⟩⟩⟩, ⟨⟨by kernel_rfl, by kernel_rfl⟩, ⟨⟨by kernel_rfl, by kernel_rfl⟩, ⟨trivial, ⟨trivial, ⟨⟨by kernel_rfl, by kernel_rfl⟩, trivial, trivial⟩, trivial⟩, ⟨trivial, ⟨trivial, ⟨⟨by kernel_rfl, by kernel_rfl⟩, trivial, trivial⟩, trivial⟩, trivial⟩⟩, ⟨⟨by kernel_rfl, by kernel_rfl⟩, ⟨trivial, trivial, ⟨⟨by kernel_rfl, by kernel_rfl⟩, trivial, trivial⟩⟩, ⟨⟨by kernel_rfl, by kernel_rfl⟩, trivial, trivial⟩⟩⟩, ⟨trivial, ⟨⟨by kernel_rfl, by kernel_rfl⟩, ⟨trivial, trivial, ⟨⟨by kernel_rfl, by kernel_rfl⟩, trivial, trivial⟩⟩, ⟨trivial, trivial, ⟨⟨by kernel_rfl, by kernel_rfl⟩, trivial, trivial⟩⟩⟩, ⟨trivial, trivial, ⟨trivial, ⟨⟨by kernel_rfl, by kernel_rfl⟩, trivial, trivial⟩, trivial⟩⟩⟩⟩⟩, ⟨⟨by kernel_rfl, by kernel_rfl⟩, ⟨⟨by kernel_rfl, by kernel_rfl⟩, ⟨trivial, ⟨trivial, ⟨trivial, ⟨⟨by kernel_rfl, by kernel_rfl⟩, trivial, trivial⟩, ⟨⟨by kernel_rfl, by kernel_rfl⟩, trivial, trivial⟩⟩, ⟨trivial, ⟨⟨by kernel_rfl, by kernel_rfl⟩, trivial, trivial⟩, trivial⟩⟩, ⟨trivial, trivial, ⟨⟨by kernel_rfl, by kernel_rfl⟩, ⟨⟨by kernel_rfl, by kernel_rfl⟩, trivial, trivial⟩, trivial⟩⟩⟩, ⟨trivial, ⟨trivial, ⟨trivial, ⟨trivial, ⟨⟨by kernel_rfl, by kernel_rfl⟩, trivial, trivial⟩, trivial⟩, trivial⟩, trivial⟩, ⟨trivial, ⟨⟨by kernel_rfl, by kernel_rfl⟩, trivial, trivial⟩, ⟨trivial, ⟨⟨by kernel_rfl, by kernel_rfl⟩, ⟨⟨by kernel_rfl, by kernel_rfl⟩, trivial, trivial⟩, trivial⟩, ⟨⟨by kernel_rfl, by kernel_rfl⟩, trivial, trivial⟩⟩⟩⟩⟩, ⟨trivial, ⟨trivial, ⟨trivial, trivial, ⟨trivial, ⟨trivial, ⟨⟨by kernel_rfl, by kernel_rfl⟩, trivial, trivial⟩, trivial⟩, trivial⟩⟩, ⟨⟨by kernel_rfl, by kernel_rfl⟩, ⟨⟨by kernel_rfl, by kernel_rfl⟩, trivial, trivial⟩, ⟨trivial, ⟨trivial, ⟨⟨by kernel_rfl, by kernel_rfl⟩, trivial, trivial⟩, trivial⟩, trivial⟩⟩⟩, ⟨trivial, ⟨⟨by kernel_rfl, by kernel_rfl⟩, ⟨trivial, ⟨trivial, ⟨⟨by kernel_rfl, by kernel_rfl⟩, trivial, trivial⟩, trivial⟩, ⟨⟨by kernel_rfl, by kernel_rfl⟩, trivial, trivial⟩⟩, ⟨⟨by kernel_rfl, by kernel_rfl⟩, trivial, trivial⟩⟩, ⟨⟨by kernel_rfl, by kernel_rfl⟩, trivial, ⟨⟨by kernel_rfl, by kernel_rfl⟩, trivial, trivial⟩⟩⟩⟩⟩⟩
end Go.Av
noncomputable section
namespace Go.Av
open Go Go.Proofs
def Fz (_ : List Nat) : Prop := True
section
variable {frz : List Nat} {nt m : Nat} {ro' : Option Nat} {K : Ex → S → Prop} {ops : Array Oper} {l : List Oper} {o : Oper} {tm tm' tm1 tm0 : PT AV} {objs objs' : List Ob} {dl : List Dl} {b : Bool} {ob : Option (List Ob)} {fl : Bool} {s s0 : S} {i : Nat} {acc : List Eff} {G : S → Prop} {P A B X Y Q : Prop} {g : FuncId} {ds : List DV} {r : AV}
theorem oXw (_ : Fz frz) {v v' : AV} (k : RunOps Tryz.prog nt m ro' ops l ⟨tm', objs', dl⟩ K) (hg : guardA ops (rd tm) o = some true := by rfl) (hv : evAny Et H0 frz (rd tm) objs o = some (v', ob, fl) := by rfl) (hf : fl = true := by rfl)
    (he : v' = v := by first | (conv => lhs; dsimp only) | rfl) (ho : ob.getD objs = objs' := by first | (conv => lhs; dsimp only [Option.getD]) | rfl) (hp : isPan v = false := by rfl) (ht : setD nt tm o.dst v = some tm' := by rfl) :
    RunOps Tryz.prog nt m ro' ops (o :: l) ⟨tm, objs, dl⟩ K := RunOps.x Et_ok hg hv hf he ho hp ht k
theorem oXn (_ : Fz frz) {v v' : AV} (k : RunOps Tryz.prog nt m ro' ops l ⟨tm', objs', dl⟩ K) (_ : boolOp o.op = false := by rfl) (hg : guardA ops (rd tm) o = some true := by rfl) (hv : evAny Et H0 frz (rd tm) objs o = some (v', ob, fl) := by rfl) (hf : fl = true := by rfl)
    (he : v' = v := by first | (conv => lhs; dsimp only) | rfl) (ho : ob.getD objs = objs' := by first | (conv => lhs; dsimp only [Option.getD]) | rfl) (hp : isPan v = false := by rfl) (ht : setD nt tm o.dst v = some tm' := by rfl) :
    RunOps Tryz.prog nt m ro' ops (o :: l) ⟨tm, objs, dl⟩ K := RunOps.x Et_ok hg hv hf he ho hp ht k
theorem eXn {v v' : AV} (k : EvD Tryz.prog Et frz nt ops s0 (i + 1) (acc ++ [effOf (rd tm) objs o ob]) l ⟨tm', objs', dl⟩ G) (_ : boolOp o.op = false := by rfl) (hg : guardA ops (rd tm) o = some true := by rfl) (hv : evAny Et H0 frz (rd tm) objs o = some (v', ob, fl) := by rfl) (hf : fl = true := by rfl)
    (he : v' = v := by first | (conv => lhs; dsimp only) | rfl) (ho : ob.getD objs = objs' := by first | (conv => lhs; dsimp only [Option.getD]) | rfl) (hp : isPan v = false := by rfl) (ht : setD nt tm o.dst v = some tm' := by rfl) :
    EvD Tryz.prog Et frz nt ops s0 i acc (o :: l) ⟨tm, objs, dl⟩ G := EvD.x hg hv hf he ho hp ht k
theorem oBw (_ : Fz frz) (k1 : b = true → RunOps Tryz.prog nt m ro' ops l ⟨tm1, objs', dl⟩ K) (k0 : b = false → RunOps Tryz.prog nt m ro' ops l ⟨tm0, objs', dl⟩ K) (hb : boolOp o.op = true := by rfl) (hg : guardA ops (rd tm) o = some true := by rfl)
    (hv : evAny Et H0 frz (rd tm) objs o = some (.d (.bool b), ob, fl) := by rfl) (hf : fl = true := by rfl) (ho : ob.getD objs = objs' := by first | (conv => lhs; dsimp only [Option.getD]) | rfl) (ht1 : setD nt tm o.dst (.d (.bool true)) = some tm1 := by rfl) (ht0 : setD nt tm o.dst (.d (.bool false)) = some tm0 := by rfl) :
    RunOps Tryz.prog nt m ro' ops (o :: l) ⟨tm, objs, dl⟩ K := RunOps.xb Et_ok hb hg hv hf ho ht1 ht0 k1 k0
theorem dW (_ : Fz frz) {id : Nat} (h : EvD Tryz.prog Et frz nt ops s 0 [] ops.toList s (fun s' => K .normal s')) : Run Tryz.prog nt m ro' (.region id ops true) s K := Run.draw Et_ok (by kernel_rfl) h
theorem gD {α : Type} (l : List α) (i : Nat) (d : α) : l.getD i d = l[i]?.getD d := List.getD_eq_getElem?_getD
theorem ti {k : Nat} (l : List (Nat × AV)) (n : Nat) (ho : objs.take n = objs' := by rfl) (hn : Nat.ble k n = true := by rfl) (h : allTidy tm l := by repeat' (first | exact trivial | refine ⟨(Or.inl rfl), ?_⟩ | refine ⟨(Or.inr rfl), ?_⟩ | refine ⟨(Or.inl (inc_get (by kernel_rfl) (by omega))), ?_⟩ | fail))
    (hl : allQ (refA 8 n) l := by repeat' (first | exact trivial | refine ⟨rfl, ?_⟩ | fail)) (hr : objs'.all (refOb n) = true := by rfl) (hd : dl.all (refDl n) = true := by rfl) : Tidy k ⟨tm, objs, dl⟩ ⟨PT.ofList l, objs', dl⟩ := tidy_of l n ho hn h hl hr hd
theorem oV (k : RunOps Tryz.prog nt m ro' ops l ⟨tm', objs', dl⟩ K) {v v' : AV} (_ : Fz frz := by assumption) (hg : guardA ops (rd tm) o = some true := by rfl) (hv : evAny Et H0 frz (rd tm) objs o = some (v', ob, fl) := by rfl) (hf : fl = true := by rfl)
    (he : v' = v := by first | (conv => lhs; dsimp only) | rfl) (ho : ob.getD objs = objs' := by first | (conv => lhs; dsimp only [Option.getD]) | rfl) (hp : isPan v = false := by rfl) (ht : setD nt tm o.dst v = some tm' := by rfl) :
    RunOps Tryz.prog nt m ro' ops (o :: l) ⟨tm, objs, dl⟩ K := RunOps.x Et_ok hg hv hf he ho hp ht k
theorem kF {n : Nat} {f : Func} {ds : List DV} {r : AV} (h1 : Tryz.prog.funcs[n]? = some f) (l : List Nat) (h : Fz l → Run Tryz.prog (mkFn f l).nt 0 none (mkFn f l).body ⟨initTm 0 (ds.map .d) .nil, [], []⟩ (EndK Et (mkFn f l).results r)) (h2 : f.body.isSome = true := by kernel_rfl)
    (h3 : (f.name == "runtime.NumGoroutine") = false := by kernel_rfl) (h4 : xk l = none := by rfl) (hlen : (ds.map AV.d).length = (mkFn f l).np := by rfl) (hle : Nat.ble (mkFn f l).np (mkFn f l).nt = true := by rfl) : KnownCall Tryz.prog n ds r := knownE Et_ok (fnAt h1 h2 h3 h4) (h trivial) hlen hle
theorem zX (q : Q) (h : Q → P := by intro q; first | exact oXw (by assumption) q | exact eX q) : P := h q
theorem zW (q : Q) (h : Q → P := by intro q; first | exact Run.region q | exact Run.seq q | exact oXn (by assumption) q | exact oS q | exact RunOps.nil q | exact Run.skip q | exact cT q | exact cF q | exact Run.block q | exact Run.exit q | exact dW (by assumption) q | exact eXn q | exact eS q | exact eN q | (refine Run.ret ?_; first | exact rB q | exact rI q | exact rA q | exact rII q | exact rSI q | exact rT q | exact rS q)) : P := h q
theorem zS (q : Q) (h : Q → P := by intro q; first | exact Run.seq q | exact Run.region q | exact RunOps.nil q | exact Run.skip q | exact cT q | exact cF q | exact Run.block q | exact Run.exit q) : P := h q
theorem zA (q : Q) (h : Q → P := by intro q; first | exact oXw (by assumption) q | exact oS q | exact RunOps.nil q | exact Run.region q | exact Run.seq q | exact Run.skip q | exact Run.block q | exact Run.exit q | exact dW (by assumption) q | exact eX q | exact eS q | exact eN q) : P := h q
theorem zB (x : A → X) (y : B → Y) (h : (A → X) → (B → Y) → P := by intro x y; first | exact oBw (by assumption) x y | exact eB x y) : P := h x y
def Vx (_ : AV) : Prop := True
theorem oVw (_ : Fz frz) {v v' : AV} (he : v' = v) (k : RunOps Tryz.prog nt m ro' ops l ⟨tm', objs', dl⟩ K) (hg : guardA ops (rd tm) o = some true := by rfl) (hv : evAny Et H0 frz (rd tm) objs o = some (v', ob, fl) := by rfl) (hf : fl = true := by rfl) (ho : ob.getD objs = objs' := by first | (conv => lhs; dsimp only [Option.getD]) | rfl) (hp : isPan v = false := by rfl) (ht : setD nt tm o.dst v = some tm' := by rfl) :
    RunOps Tryz.prog nt m ro' ops (o :: l) ⟨tm, objs, dl⟩ K := RunOps.x Et_ok hg hv hf he ho hp ht k
theorem eVw {v v' : AV} (he : v' = v) (k : EvD Tryz.prog Et frz nt ops s0 (i + 1) (acc ++ [effOf (rd tm) objs o ob]) l ⟨tm', objs', dl⟩ G) (hg : guardA ops (rd tm) o = some true := by rfl) (hv : evAny Et H0 frz (rd tm) objs o = some (v', ob, fl) := by rfl) (hf : fl = true := by rfl) (ho : ob.getD objs = objs' := by first | (conv => lhs; dsimp only [Option.getD]) | rfl) (hp : isPan v = false := by rfl) (ht : setD nt tm o.dst v = some tm' := by rfl) :
    EvD Tryz.prog Et frz nt ops s0 i acc (o :: l) ⟨tm, objs, dl⟩ G := EvD.x hg hv hf he ho hp ht k
theorem oIv (_ : Fz frz) {v v' : AV} (_ : Vx v) (k : RunOps Tryz.prog nt m ro' ops l ⟨tm', objs', dl⟩ K) (hg : guardA ops (rd tm) o = some true := by rfl) (hv : evAny Et H0 frz (rd tm) objs o = some (v', ob, fl) := by rfl) (he : v' = v) (hf : fl = true := by first | (simp [inB] <;> fail) | (simp [inB]; omega)) (ho : ob.getD objs = objs' := by first | (conv => lhs; dsimp only [Option.getD]) | rfl) (hp : isPan v = false := by rfl) (ht : setD nt tm o.dst v = some tm' := by rfl) :
    RunOps Tryz.prog nt m ro' ops (o :: l) ⟨tm, objs, dl⟩ K := RunOps.x Et_ok hg hv hf he ho hp ht k
theorem eIv {v v' : AV} (_ : Vx v) (k : EvD Tryz.prog Et frz nt ops s0 (i + 1) (acc ++ [effOf (rd tm) objs o ob]) l ⟨tm', objs', dl⟩ G) (hg : guardA ops (rd tm) o = some true := by rfl) (hv : evAny Et H0 frz (rd tm) objs o = some (v', ob, fl) := by rfl) (he : v' = v) (hf : fl = true := by first | (simp [inB] <;> fail) | (simp [inB]; omega)) (ho : ob.getD objs = objs' := by first | (conv => lhs; dsimp only [Option.getD]) | rfl) (hp : isPan v = false := by rfl) (ht : setD nt tm o.dst v = some tm' := by rfl) :
    EvD Tryz.prog Et frz nt ops s0 i acc (o :: l) ⟨tm, objs, dl⟩ G := EvD.x hg hv hf he ho hp ht k
theorem zAp (q : Q) (h : Q → P := by intro q; first | exact oXw (by assumption) q (hv := app1) (hf := rfl) (he := rfl) | exact eX q (hv := app1) (hf := rfl) (he := rfl) | exact oXw (by assumption) q (hv := app0) (hf := rfl) (he := rfl) | exact eX q (hv := app0) (hf := rfl) (he := rfl)) : P := h q
theorem zV {v v' : AV} (he : v' = v) (q : Q) (h : v' = v → Q → P := by intro e q; first | exact oVw (by assumption) e q | exact eVw e q) : P := h he q
theorem zI {F : Prop} (w : Fz frz) (v : AV) (f : F) (q : Q) (h : Fz frz → Vx v → F → Q → P := by intro w x f q; first | exact oIv w x q (he := by first | (simp [gD, cellsD, f] <;> fail) | fail) | exact eIv x q (he := by first | (simp [gD, cellsD, f] <;> fail) | fail)) : P := h w trivial f q
theorem zIP {F : Prop} (w : Fz frz) (v : AV) (f : F) (q : Q) (h : Fz frz → Vx v → F → Q → P := by intro w x f q; first | exact oIv w x q (he := by first | (simp [gD, cellsD, encP, f] <;> fail) | fail) | exact eIv x q (he := by first | (simp [gD, cellsD, encP, f] <;> fail) | fail)) : P := h w trivial f q
theorem zk (a : A) (h : A → P := by intro h; exfalso; simp at h; first | done | omega) : P := h a
theorem zC (c : KnownCall Tryz.prog g ds r) (q : Q) (h : KnownCall Tryz.prog g ds r → Q → P := by intro c q; first | exact oC c q | exact eC c q) : P := h c q
theorem zK (c : KnownCall Tryz.prog g ds (.d (.bool b))) (x : A → X) (y : B → Y) (h : KnownCall Tryz.prog g ds (.d (.bool b)) → (A → X) → (B → Y) → P := by intro c x y; first | exact oK c x y | exact eK c x y) : P := h c x y
theorem zL (c : KnownCall Tryz.prog g ds r) (q : Q) (h : KnownCall Tryz.prog g ds r → Q → P := by intro c q; first | exact oL c q | exact eL c q) : P := h c q
theorem zM (c : KnownCall Tryz.prog g ds r) (q : Q) (h : KnownCall Tryz.prog g ds r → Q → P := by intro c q; first | exact oL c q | exact eL c q | exact oM c q | exact eM c q) : P := h c q
theorem fnB {n : Nat} {f : Func} (h1 : Tryz.prog.funcs[n]? = some f) (l : List Nat) (h2 : f.body.isSome = true := by kernel_rfl) (h3 : (f.name == "runtime.NumGoroutine") = false := by kernel_rfl) (h4 : xk l = none := by rfl) : FnAt Tryz.prog n (mkFn f l) := fnAt h1 h2 h3 h4
theorem zE (q : Q) (h : Q → P := by intro q; refine Run.ret ?_; first | exact rB q | exact rI q | exact rA q | exact rII q | exact rSI q | exact rT q | exact rS q) : P := h q
end
set_option maxRecDepth 10000
abbrev strs (l : List (List Nat)) : DV := .sl 1 (l.map .str)
abbrev ints (l : List Int) : DV := .sl 1 (l.map (.int .i64))
theorem get_ok {α : Type} {l : List α} {i : Nat} (h : i < l.length) : ∃ x, l[i]? = some x := ⟨l[i], by simp [h]⟩
abbrev nI (n : Nat) : DV := .int .i64 (n : Nat)
@[simp] theorem cellsD_nI (n : Nat) : cellsD (nI n) = [nI n] := rfl
abbrev nats (l : List Nat) : DV := .sl 1 (l.map nI)
abbrev lkC (l : List Nat) : List DV := [nI l.length, nI (l.getD 0 0), nI (l.getD 1 0), nI (l.getD 2 0), nI (l.getD 3 0)]
abbrev lk (l : List Nat) : DV := .agg (lkC l)
abbrev lks (L : List (List Nat)) : DV := .sl 5 (L.map lk)
structure Rt (l : List Nat) : Prop where
  len : l.length ≤ 4
  lt : ∀ x ∈ l, x < 8
theorem ofK (l : List Nat) (h : l.length ≤ 4) : KnownCall Tryz.prog 63 [nats l] (.d (lk l)) := by
  match l, h with
  | [], _ =>
    refine kF Tryz.func63 [] fun w => ?_
    repeat' (first
      | refine zW ?_
      | refine zB ?_ ?_ <;> intro h <;> try exact zk h
      | rfl
      | fail)
  | [a], _ =>
    refine kF Tryz.func63 [] fun w => ?_
    repeat' (first
      | refine zW ?_
      | refine zB ?_ ?_ <;> intro h <;> try exact zk h
      | rfl
      | fail)
  | [a, b], _ =>
    refine kF Tryz.func63 [] fun w => ?_
    repeat' (first
      | refine zW ?_
      | refine zB ?_ ?_ <;> intro h <;> try exact zk h
      | rfl
      | fail)
  | [a, b, c], _ =>
    refine kF Tryz.func63 [] fun w => ?_
    repeat' (first
      | refine zW ?_
      | refine zB ?_ ?_ <;> intro h <;> try exact zk h
      | rfl
      | fail)
  | [a, b, c, d], _ =>
    refine kF Tryz.func63 [] fun w => ?_
    repeat' (first
      | refine zW ?_
      | refine zB ?_ ?_ <;> intro h <;> try exact zk h
      | rfl
      | fail)
theorem ofK5 (a b c d e : Nat) (r : List Nat) : KnownCall Tryz.prog 63 [nats (a :: b :: c :: d :: e :: r)] (.d (lk [a, b, c, d])) := by
  refine kF Tryz.func63 [] fun w => ?_
  repeat' (first
    | refine zW ?_
    | refine zB ?_ ?_ <;> intro h <;> try exact zk h
    | rfl
    | fail)
theorem of4 (l : List Nat) : KnownCall Tryz.prog 63 [nats l] (.d (lk (l.take 4))) := by
  match l with
  | [] => exact ofK [] (by simp)
  | [a] => exact ofK [a] (by simp)
  | [a, b] => exact ofK [a, b] (by simp)
  | [a, b, c] => exact ofK [a, b, c] (by simp)
  | [a, b, c, d] => exact ofK [a, b, c, d] (by simp)
  | a :: b :: c :: d :: e :: r => exact ofK5 a b c d e r
section
variable {frz : List Nat} {nt m : Nat} {ro' : Option Nat} {K : Ex → S → Prop} {ops : Array Oper} {l : List Oper} {o : Oper} {tm tm' : PT AV} {objs objs' : List Ob} {dl : List Dl} {ob : Option (List Ob)} {fl : Bool} {s0 : S} {i : Nat} {acc : List Eff} {G : S → Prop} {P Q : Prop}
theorem flag4 {i : Nat} (h : i < 4) : (inB (i : Int) 4 && Nat.ble ((i : Int).toNat * 1) 4) = true := by
  simp [inB, Nat.ble_eq]; omega
theorem oCw (_ : Fz frz) {v v' : AV} (he : v' = v) (k : RunOps Tryz.prog nt m ro' ops l ⟨tm', objs', dl⟩ K) (hg : guardA ops (rd tm) o = some true := by rfl) (hv : evAny Et H0 frz (rd tm) objs o = some (v', ob, fl) := by rfl) (hf : fl = true := by first | (simp [cutC, inB, maxC] <;> fail) | (simp [cutC, inB, maxC]; omega) | exact flag4 (by omega) | fail) (ho : ob.getD objs = objs' := by first | (conv => lhs; dsimp only [Option.getD]) | rfl) (hp : isPan v = false := by rfl) (ht : setD nt tm o.dst v = some tm' := by rfl) :
    RunOps Tryz.prog nt m ro' ops (o :: l) ⟨tm, objs, dl⟩ K := RunOps.x Et_ok hg hv hf he ho hp ht k
theorem eCw {v v' : AV} (he : v' = v) (k : EvD Tryz.prog Et frz nt ops s0 (i + 1) (acc ++ [effOf (rd tm) objs o ob]) l ⟨tm', objs', dl⟩ G) (hg : guardA ops (rd tm) o = some true := by rfl) (hv : evAny Et H0 frz (rd tm) objs o = some (v', ob, fl) := by rfl) (hf : fl = true := by first | (simp [cutC, inB, maxC] <;> fail) | (simp [cutC, inB, maxC]; omega) | exact flag4 (by omega) | fail) (ho : ob.getD objs = objs' := by first | (conv => lhs; dsimp only [Option.getD]) | rfl) (hp : isPan v = false := by rfl) (ht : setD nt tm o.dst v = some tm' := by rfl) :
    EvD Tryz.prog Et frz nt ops s0 i acc (o :: l) ⟨tm, objs, dl⟩ G := EvD.x hg hv hf he ho hp ht k
theorem zCut {v v' : AV} (he : v' = v) (q : Q) (h : v' = v → Q → P := by intro e q; first | exact oCw (by assumption) e q | exact eCw e q) : P := h he q
end
theorem cut4 (l : List Nat) (hl : l.length ≤ 4) (n : Nat) (hn : n ≤ l.length) : AV.d (.sl 1 (cutL none (some (n : Int)) [nI (l.getD 0 0), nI (l.getD 1 0), nI (l.getD 2 0), nI (l.getD 3 0)])) = .d (nats (l.take n)) := by
  congr 2
  simp only [cutL, Option.getD, Int.toNat_natCast, Int.toNat_zero, List.drop_zero]
  match l, hl, n, hn with
  | [], _, 0, _ => rfl
  | [a], _, 0, _ => rfl
  | [a], _, 1, _ => rfl
  | [a, b], _, 0, _ => rfl
  | [a, b], _, 1, _ => rfl
  | [a, b], _, 2, _ => rfl
  | [a, b, c], _, 0, _ => rfl
  | [a, b, c], _, 1, _ => rfl
  | [a, b, c], _, 2, _ => rfl
  | [a, b, c], _, 3, _ => rfl
  | [a, b, c, d], _, 0, _ => rfl
  | [a, b, c, d], _, 1, _ => rfl
  | [a, b, c, d], _, 2, _ => rfl
  | [a, b, c, d], _, 3, _ => rfl
  | [a, b, c, d], _, 4, _ => rfl
theorem cut4' (l : List Nat) (hl : l.length ≤ 4) : AV.d (.sl 1 (cutL none (some (l.length : Int)) [nI (l.getD 0 0), nI (l.getD 1 0), nI (l.getD 2 0), nI (l.getD 3 0)])) = .d (nats l) := by
  have := cut4 l hl l.length (Nat.le_refl _)
  rwa [List.take_length] at this
def chkL (l : List Nat) (terms : Int) : Int := if terms < 1 then 2 else if 8 < terms then 2 else if l.all (fun x => decide ((x : Int) < terms)) then 0 else 14
theorem cutK (l : List Nat) (hl : l.length ≤ 4) (k : Nat) : KnownCall Tryz.prog 115 [lk l, nI k] (.d (lk (l.take k))) := by
  have hm : AV.d (.int .i64 (if (k : Int) < (l.length : Int) then (k : Int) else (l.length : Int))) = .d (nI (min k l.length)) := by
    congr 2; split <;> omega
  have h4 := cut4 l hl (min k l.length) (by omega)
  rw [show l.take (min k l.length) = l.take k by
    rcases Nat.le_total k l.length with h | h
    · rw [Nat.min_eq_left h]
    · rw [Nat.min_eq_right h, List.take_length, List.take_of_length_le h]] at h4
  have hk := ofK (l.take k) (by rw [List.length_take]; omega)
  refine kF Tryz.func115 [2] fun w => ?_
  repeat' (first
    | refine zV hm ?_
    | refine zW ?_
    | refine zB ?_ ?_ <;> intro h <;> try exact zk h
    | refine zCut h4 ?_
    | refine zK (hk) ?_ ?_ <;> intro h <;> try exact zk h
    | refine zC (hk) ?_
    | rfl
    | fail)
theorem checkK (l : List Nat) (hl : l.length ≤ 4) (terms : Int) : KnownCall Tryz.prog 37 [lk l, .int .i64 terms] (.d (.int .i64 (chkL l terms))) := by
  have h4 := cut4' l hl
  refine kF Tryz.func37 [2] fun w => ?_
  repeat' (first
    | refine zW ?_
    | refine zB ?_ ?_ <;> intro h <;> try exact zk h
    | refine zCut h4 ?_
    | refine zK (ofK l hl) ?_ ?_ <;> intro h <;> try exact zk h
    | refine zC (ofK l hl) ?_
    | (show _ = _; ((simp only [chkL]; repeat' split) <;> (first | rfl | (simp_all <;> fail) | (simp_all; omega))))
    | fail)
  have h1 : ¬ terms < 1 := by rename_i a1 _ _ _; simpa using a1
  have h2 : ¬ 8 < terms := by rename_i a2 _ _; simpa using a2
  refine Run.loop (fun i : Nat => ⟨PT.ofList [(1, .d (.int .i64 terms)), (35, .d (nats l)), (36, .d (nI (l.map nI).length)), (37, .d (.int .i64 i))], [], []⟩) (fun i => i ≤ l.length ∧ ∀ x ∈ l.take i, (x : Int) < terms) (fun i => l.length - i) 0 ⟨Nat.zero_le _, by simp⟩ (weak_of (by repeat' (first | exact trivial | refine ⟨rfl, ?_⟩))) (fun i hi => ?_)
  rcases Nat.lt_or_ge i l.length with hlt | hge
  · obtain ⟨x, hx⟩ := get_ok hlt
    have hgo : (x : Int) < terms → ∀ y ∈ l.take (i + 1), (y : Int) < terms := fun h => by
      rw [List.take_add_one, hx]; intro y hy
      rcases List.mem_append.1 hy with h1 | h1
      · exact hi.2 y h1
      · simp at h1; subst h1; exact h
    have hbad : ¬ (x : Int) < terms → chkL l terms = 14 := fun h => by
      unfold chkL
      rw [if_neg h1, if_neg h2, if_neg]
      simp only [List.all_eq_true, decide_eq_true_eq]
      intro ha; exact h (ha x (List.mem_of_getElem? hx))
    repeat' (first
      | refine zW ?_
      | refine zB ?_ ?_ <;> intro h <;> try exact zk h
      | refine zI w (.d (.ep [nI x])) hx ?_
      | (show _ = _; rw [hbad (by simpa using h)])
      | (exact ⟨i + 1, ⟨hlt, hgo (by simpa using h)⟩, by omega, weak_of (by repeat' (first | exact trivial | refine ⟨rfl, ?_⟩ | refine ⟨(inc_get (k := i) (by kernel_rfl) (by omega)), ?_⟩))⟩)
      | fail)
  · have hie : i = l.length := by have := hi.1; omega
    have hok : chkL l terms = 0 := by
      unfold chkL
      rw [if_neg h1, if_neg h2, if_pos]
      simp only [List.all_eq_true, decide_eq_true_eq]
      have := hi.2; rwa [hie, List.take_length] at this
    subst hie
    repeat' (first
      | refine zW ?_
      | refine zB ?_ ?_ <;> intro h <;> try exact zk h
      | (show _ = _; rw [hok])
      | fail)
theorem chkL0 {l : List Nat} (h : Rt l) : chkL l 8 = 0 := by
  unfold chkL
  rw [if_neg (by omega), if_neg (by omega), if_pos]
  simp only [List.all_eq_true, decide_eq_true_eq]
  intro x hx; have := h.lt x hx; omega
theorem rightK (x y : List Nat) (hx : Rt x) (hy : Rt y) : KnownCall Tryz.prog 78 [.int .i64 8, .sl 5 [lk x, lk y]] (.d (.int .i64 0)) := by
  have h1 := checkK x hx.len 8
  have h2 := checkK y hy.len 8
  rw [chkL0 hx] at h1
  rw [chkL0 hy] at h2
  refine kF Tryz.func78 [] fun w => ?_
  repeat' (first
    | refine zW ?_
    | refine zB ?_ ?_ <;> intro h <;> try exact zk h
    | fail)
  refine Run.loopT (fun i : Nat => ⟨PT.ofList [(0, .d (.int .i64 8)), (8, .d (.sl 5 [lk x, lk y])), (9, .d (.int .i64 2)), (10, .d (.int .i64 i))], [], []⟩) (fun i => i ≤ 2) (fun i => 2 - i) 0 (Nat.zero_le _) (ti _ 0) (fun i hi => ?_)
  match i, hi with
  | 0, _ =>
    repeat' (first
      | refine zW ?_
      | refine zB ?_ ?_ <;> intro h <;> try exact zk h
      | refine zC (h1) ?_
      | (exact ⟨1, by omega, by omega, (ti _ 0)⟩)
      | fail)
  | 1, _ =>
    repeat' (first
      | refine zW ?_
      | refine zB ?_ ?_ <;> intro h <;> try exact zk h
      | refine zC (h2) ?_
      | (exact ⟨2, by omega, by omega, (ti _ 0)⟩)
      | fail)
  | 2, _ =>
    repeat' (first
      | refine zW ?_
      | refine zB ?_ ?_ <;> intro h <;> try exact zk h
      | rfl
      | fail)
theorem listK (l : List Nat) (hl : l.length ≤ 4) : KnownCall Tryz.prog 116 [lk l] (.d (nats l)) := by
  have w : Fz [1] := trivial
  have h4 := cut4' l hl
  refine knownE2 Et_ok (fnB Tryz.func116 [1]) ?_
  repeat' (first
    | refine zW ?_
    | refine zB ?_ ?_ <;> intro h <;> try exact zk h
    | refine zCut h4 ?_
    | refine zAp ?_
    | (refine Run.ret ?_; refine r2 ?_; first | done | (exact .refl))
    | fail)
theorem listA (l : List Nat) (hl : l.length ≤ 4) : ACall Tryz.prog 116 [.d (lk l)] [] (.sr 0 1 ([] ++ l.map nI)) [.room (([] : List DV).length + (l.map nI).length) 1] := by
  have w : Fz [1] := trivial
  have h4 := cut4' l hl
  refine acall_of_run Et_ok (fnB Tryz.func116 [1]) rfl rfl ?_
  repeat' (first
    | refine zW ?_
    | refine zB ?_ ?_ <;> intro h <;> try exact zk h
    | refine zCut h4 ?_
    | refine zAp ?_
    | fail)
  refine Run.ret ?_
  exact ⟨trivial, rfl, rfl⟩
theorem joinK (k : Nat) (hk1 : 1 ≤ k) (hk : k ≤ 4) (x y : List Nat) (hx : Rt x) (hy : Rt y) : KnownCall Tryz.prog 91 [nI k, lk x, lk y] (.tup [.d (lk ((x ++ y).take k)), .d (.int .i64 0)]) := by
  have c0 := rightK x y hx hy
  have c1 := fun O => ACall.lift (ds := [lk x]) (listA x hx.len) rfl O
  have c2 := listK y hy.len
  have c3 := of4 (x ++ y)
  rw [show nats (x ++ y) = .sl 1 ([] ++ x.map nI ++ y.map nI) by simp] at c3
  have c4 := cutK ((x ++ y).take 4) (by rw [List.length_take]; omega) k
  rw [List.take_take, Nat.min_eq_left hk] at c4
  have hl1 := hx.len
  have hl2 := hy.len
  refine kF Tryz.func91 [4, 5, 11] fun w => ?_
  repeat' (first
    | refine zW ?_
    | refine zB ?_ ?_ <;> intro h <;> try exact zk h
    | refine zX ?_
    | refine zC (c0) ?_
    | refine eA (c1 _) ?_
    | refine zC (c2) ?_
    | refine zL (c3) ?_
    | refine zC (c4) ?_
    | refine zAp ?_
    | rfl
    | ((exfalso; first | (simp at h <;> fail) | (simp at h; omega)))
    | fail)
def cmpL : List Nat → List Nat → Int
  | [], [] => 0
  | [], _ :: _ => -1
  | _ :: _, [] => 1
  | a :: x, b :: y => if a < b then -1 else if b < a then 1 else cmpL x y
theorem cmpL_self : ∀ x, cmpL x x = 0
  | [] => rfl
  | a :: x => by simp only [cmpL, Nat.lt_irrefl, if_false]; exact cmpL_self x
theorem cmpL_at : ∀ {i : Nat} {x y : List Nat} {a b : Nat}, x.take i = y.take i → x[i]? = some a → y[i]? = some b → a ≠ b → cmpL x y = if a < b then -1 else 1
  | 0, x :: xs, y :: ys, a, b, _, hx, hy, hne => by
    simp at hx hy; subst hx hy
    simp only [cmpL]
    by_cases h : x < y
    · rw [if_pos h, if_pos h]
    · rw [if_neg h, if_neg h, if_pos (by omega)]
  | i + 1, x :: xs, y :: ys, a, b, ht, hx, hy, hne => by
    simp at hx hy ht
    obtain ⟨rfl, ht⟩ := ht
    simp only [cmpL, Nat.lt_irrefl, if_false]
    exact cmpL_at ht hx hy hne
  | 0, [], _, _, _, _, hx, _, _ => by simp at hx
  | 0, _ :: _, [], _, _, _, _, hy, _ => by simp at hy
  | i + 1, [], _, _, _, _, hx, _, _ => by simp at hx
  | i + 1, _ :: _, [], _, _, _, _, hy, _ => by simp at hy
theorem cmpL_end : ∀ {i : Nat} {x y : List Nat}, x.take i = y.take i → i = min x.length y.length → x ≠ y → cmpL x y = if x.length < y.length then -1 else 1
  | i, [], [], _, _, hne => absurd rfl hne
  | i, [], y :: ys, _, _, _ => by simp [cmpL]
  | i, x :: xs, [], _, _, _ => by simp [cmpL]
  | i + 1, x :: xs, y :: ys, ht, hi, hne => by
    simp at ht hi hne
    obtain ⟨rfl, ht⟩ := ht
    simp only [cmpL, Nat.lt_irrefl, if_false, List.length_cons, Nat.add_lt_add_iff_right]
    exact cmpL_end ht (by omega) (hne rfl)
  | 0, x :: xs, y :: ys, _, hi, _ => by simp at hi
theorem lk_inj {x y : List Nat} (hx : x.length ≤ 4) (hl : x.length = y.length) (h0 : x.getD 0 0 = y.getD 0 0) (h1 : x.getD 1 0 = y.getD 1 0) (h2 : x.getD 2 0 = y.getD 2 0) (h3 : x.getD 3 0 = y.getD 3 0) : x = y := by
  refine List.ext_getElem? fun i => ?_
  rcases Nat.lt_or_ge i x.length with h | h
  · obtain ⟨a, ha⟩ := get_ok h
    obtain ⟨b, hb⟩ := get_ok (show i < y.length by omega)
    rw [ha, hb]
    have : x.getD i 0 = y.getD i 0 := by
      match i, h with
      | 0, _ => exact h0
      | 1, _ => exact h1
      | 2, _ => exact h2
      | 3, _ => exact h3
      | i + 4, h => omega
    simpa [List.getD_eq_getElem?_getD, ha, hb] using this
  · rw [List.getElem?_eq_none h, List.getElem?_eq_none (by omega)]
theorem drop4 {x : List Nat} {i a : Nat} (hl : x.length ≤ 4) (h : x[i]? = some a) : ∃ R, AV.d (.ep (List.drop ((i : Int).toNat * 1) [nI (x.getD 0 0), nI (x.getD 1 0), nI (x.getD 2 0), nI (x.getD 3 0)])) = .d (.ep (nI a :: R)) := by
  have hi := (List.getElem?_eq_some_iff.1 h).1
  simp only [List.getD_eq_getElem?_getD, Int.toNat_natCast, Nat.mul_one]
  match i, hi, h with
  | 0, _, h => rw [h]; exact ⟨_, rfl⟩
  | 1, _, h => rw [h]; exact ⟨_, rfl⟩
  | 2, _, h => rw [h]; exact ⟨_, rfl⟩
  | 3, _, h => rw [h]; exact ⟨_, rfl⟩
  | i + 4, hi, _ => omega
theorem compareK (x y : List Nat) (hx : Rt x) (hy : Rt y) : KnownCall Tryz.prog 53 [lk x, lk y] (.tup [.d (.int .i64 (cmpL x y)), .d (.int .i64 0)]) := by
  have c0 := rightK x y hx hy
  have hl1 := hx.len
  have hl2 := hy.len
  by_cases hxy : x = y
  · subst hxy
    rw [cmpL_self]
    refine kF Tryz.func53 [2, 3, 10] fun w => ?_
    repeat' (first
      | refine zW ?_
      | refine zB ?_ ?_ <;> intro h <;> try exact zk h
      | refine zX ?_
      | refine zC (c0) ?_
      | rfl
      | fail)
  · have hm : AV.d (.int .i64 (if (y.length : Int) < (x.length : Int) then (y.length : Int) else (x.length : Int))) = .d (nI (min x.length y.length)) := by
      congr 2; split <;> omega
    refine kF Tryz.func53 [2, 3, 10] fun w => ?_
    repeat' (first
      | refine zV hm ?_
      | refine zW ?_
      | refine zB ?_ ?_ <;> intro h <;> try exact zk h
      | refine zX ?_
      | refine zC (c0) ?_
      | ((exfalso; simp only [Bool.and_eq_true, beq_iff_eq] at h; exact hxy (lk_inj hl1 (by omega) (by omega) (by omega) (by omega) (by omega))))
      | fail)
    refine Run.loop (fun i : Nat => ⟨PT.ofList [(2, .d (.ep (lkC x))), (3, .d (.ep (lkC y))), (24, .d (nI (min x.length y.length))), (25, .d (.int .i64 i))], [], []⟩) (fun i => i ≤ min x.length y.length ∧ x.take i = y.take i) (fun i => min x.length y.length - i) 0 ⟨Nat.zero_le _, rfl⟩ (weak_of (by repeat' (first | exact trivial | refine ⟨rfl, ?_⟩))) (fun i hi => ?_)
    rcases Nat.lt_or_ge i (min x.length y.length) with hlt | hge
    · obtain ⟨a, ha⟩ := get_ok (show i < x.length by omega)
      obtain ⟨b, hb⟩ := get_ok (show i < y.length by omega)
      obtain ⟨R1, r1⟩ := drop4 hl1 ha
      obtain ⟨R2, r2⟩ := drop4 hl2 hb
      have hgo : a = b → x.take (i + 1) = y.take (i + 1) := fun h => by rw [List.take_add_one, List.take_add_one, hi.2, ha, hb, h]
      have hne := cmpL_at hi.2 ha hb
      repeat' (first
        | refine zW ?_
        | refine zB ?_ ?_ <;> intro h <;> try exact zk h
        | refine zX ?_
        | refine zCut r1 ?_
        | refine zCut r2 ?_
        | (show _ = _; (rw [hne (by intro e; subst e; simp_all)]; split <;> simp_all <;> omega))
        | (exact ⟨i + 1, ⟨hlt, hgo (by simp at h; omega)⟩, by omega, weak_of (by repeat' (first | exact trivial | refine ⟨rfl, ?_⟩ | refine ⟨(inc_get (k := i) (by kernel_rfl) (by omega)), ?_⟩))⟩)
        | fail)
    · have hie : i = min x.length y.length := by have := hi.1; omega
      have he := cmpL_end hi.2 hie hxy
      subst hie
      repeat' (first
        | refine zW ?_
        | refine zB ?_ ?_ <;> intro h <;> try exact zk h
        | refine zX ?_
        | (show _ = _; (rw [he]; split <;> simp_all <;> omega))
        | fail)
abbrev iI (n : Int) : DV := .int .i64 n
structure Raw where
  (n a b c d : Int)
abbrev Raw.s (r : Raw) : List Int := [r.a, r.b, r.c, r.d]
abbrev rwC (r : Raw) : List DV := [iI r.n, iI r.a, iI r.b, iI r.c, iI r.d]
abbrev rw5 (r : Raw) : DV := .agg (rwC r)
abbrev rws (L : List Raw) : DV := .sl 5 (L.map rw5)
def chkR (r : Raw) (t : Int) : Int :=
  if t < 1 then 2 else if 8 < t then 2 else if r.n < 0 then 3 else if 4 < r.n then 3 else if (r.s.drop r.n.toNat).all (fun v => decide (v = 0)) then
    if (r.s.take r.n.toNat).all (fun v => decide (0 ≤ v ∧ v < t)) then 0 else 14 else 3
theorem drop4R {r : Raw} {i : Nat} {v : Int} (h : r.s[i]? = some v) : ∃ R, AV.d (.ep (List.drop ((i : Int).toNat * 1) [iI r.a, iI r.b, iI r.c, iI r.d])) = .d (.ep (iI v :: R)) := by
  have hi := (List.getElem?_eq_some_iff.1 h).1
  simp only [Int.toNat_natCast, Nat.mul_one]
  match i, hi, h with
  | 0, _, h => simp at h; subst h; exact ⟨_, rfl⟩
  | 1, _, h => simp at h; subst h; exact ⟨_, rfl⟩
  | 2, _, h => simp at h; subst h; exact ⟨_, rfl⟩
  | 3, _, h => simp at h; subst h; exact ⟨_, rfl⟩
  | i + 4, hi, _ => simp at hi; omega
theorem chkRef (r : Raw) (t : Int) : KnownCall Tryz.prog 38 [rw5 r, iI t] (.d (iI (chkR r t))) := by
  by_cases h1 : t < 1 ∨ 8 < t
  · have he : chkR r t = 2 := by
      unfold chkR; rcases h1 with h | h
      · rw [if_pos h]
      · rw [if_neg (by omega), if_pos h]
    rw [he]
    refine kF Tryz.func38 [2] fun w => ?_
    repeat' (first
      | refine zW ?_
      | refine zB ?_ ?_ <;> intro h <;> try exact zk h
      | rfl
      | ((exfalso; simp only [decide_eq_true_eq, decide_eq_false_iff_not, Bool.not_eq_true, bne_iff_ne, ne_eq] at *; omega))
      | fail)
  by_cases h2 : r.n < 0 ∨ 4 < r.n
  · have he : chkR r t = 3 := by
      unfold chkR; rw [if_neg (by omega), if_neg (by omega)]; rcases h2 with h | h
      · rw [if_pos h]
      · rw [if_neg (by omega), if_pos h]
    rw [he]
    refine kF Tryz.func38 [2] fun w => ?_
    repeat' (first
      | refine zW ?_
      | refine zB ?_ ?_ <;> intro h <;> try exact zk h
      | rfl
      | ((exfalso; simp only [decide_eq_true_eq, decide_eq_false_iff_not, Bool.not_eq_true, bne_iff_ne, ne_eq] at *; omega))
      | fail)
  obtain ⟨m, hm⟩ : ∃ m : Nat, r.n = m := ⟨r.n.toNat, by omega⟩
  have hm4 : m ≤ 4 := by omega
  have hu : chkR r t = if (r.s.drop m).all (fun v => decide (v = 0)) then if (r.s.take m).all (fun v => decide (0 ≤ v ∧ v < t)) then 0 else 14 else 3 := by
    unfold chkR; rw [if_neg (by omega), if_neg (by omega), if_neg (by omega), if_neg (by omega), hm]; rfl
  have hsl : r.s.length = 4 := rfl
  have hrw : rwC r = [nI m, iI r.a, iI r.b, iI r.c, iI r.d] := by simp only [rwC, hm]
  rw [show rw5 r = .agg [nI m, iI r.a, iI r.b, iI r.c, iI r.d] by rw [← hrw]]
  refine kF Tryz.func38 [2] fun w => ?_
  repeat' (first
    | refine zW ?_
    | refine zB ?_ ?_ <;> intro h <;> try exact zk h
    | ((exfalso; simp only [decide_eq_true_eq, decide_eq_false_iff_not, Bool.not_eq_true, bne_iff_ne, ne_eq] at *; omega))
    | fail)
  refine Run.loop (fun j : Nat => ⟨PT.ofList [(1, .d (iI t)), (2, .d (.ep [nI m, iI r.a, iI r.b, iI r.c, iI r.d])), (5, .d (nI j))], [], []⟩) (fun j => m ≤ j ∧ j ≤ 4 ∧ ∀ p, m ≤ p → p < j → r.s[p]? = some 0) (fun j => 4 - j) m ⟨Nat.le_refl _, hm4, fun p h1 h2 => by omega⟩ (weak_of (by repeat' (first | exact trivial | refine ⟨rfl, ?_⟩))) (fun j hj => ?_)
  obtain ⟨hj1, hj2, hj3⟩ := hj
  rcases Nat.lt_or_ge j 4 with hlt | hge
  · obtain ⟨v, hv⟩ := get_ok (show j < r.s.length by rw [hsl]; exact hlt)
    obtain ⟨R, hR⟩ := drop4R hv
    have hbad : ¬ v = 0 → chkR r t = 3 := fun h => by
      rw [hu, if_neg]; intro ha
      have : v ∈ r.s.drop m := by
        refine List.mem_of_getElem? (i := j - m) ?_
        rw [List.getElem?_drop, show m + (j - m) = j by omega]; exact hv
      exact h (by simpa using List.all_eq_true.1 ha v this)
    have hgo : v = 0 → ∀ p, m ≤ p → p < j + 1 → r.s[p]? = some 0 := fun h p h1 h2 => by
      rcases Nat.lt_or_ge p j with h3 | h3
      · exact hj3 p h1 h3
      · have : p = j := by omega
        subst this; subst h; exact hv
    repeat' (first
      | refine zW ?_
      | refine zB ?_ ?_ <;> intro h <;> try exact zk h
      | refine zCut hR ?_
      | (show _ = _; rw [hbad (by simpa using h)])
      | (exact ⟨j + 1, ⟨by omega, hlt, hgo (by simpa using h)⟩, by omega, weak_of (by repeat' (first | exact trivial | refine ⟨rfl, ?_⟩ | refine ⟨(inc_get (k := j) (by kernel_rfl) (by omega)), ?_⟩))⟩)
      | ((exfalso; simp only [decide_eq_true_eq, decide_eq_false_iff_not, Bool.not_eq_true, bne_iff_ne, ne_eq] at *; omega))
      | fail)
  · have hj4 : j = 4 := by omega
    subst hj4
    have hok : (r.s.drop m).all (fun v => decide (v = 0)) = true := List.all_eq_true.2 fun v hv => by
      obtain ⟨p, hp⟩ := List.getElem?_of_mem hv
      rw [List.getElem?_drop] at hp
      have h4 := (List.getElem?_eq_some_iff.1 hp).1
      rw [hj3 (m + p) (by omega) (by rw [hsl] at h4; exact h4)] at hp
      simp at hp; simp [← hp]
    rw [if_pos hok] at hu
    repeat' (first
      | refine zW ?_
      | refine zB ?_ ?_ <;> intro h <;> try exact zk h
      | ((exfalso; simp only [decide_eq_true_eq, decide_eq_false_iff_not, Bool.not_eq_true, bne_iff_ne, ne_eq] at *; omega))
      | fail)
    refine Run.loop (fun j : Nat => ⟨PT.ofList [(1, .d (iI t)), (2, .d (.ep [nI m, iI r.a, iI r.b, iI r.c, iI r.d])), (6, .d (nI j))], [], []⟩) (fun j => j ≤ m ∧ ∀ v ∈ r.s.take j, 0 ≤ v ∧ v < t) (fun j => m - j) 0 ⟨Nat.zero_le _, by simp⟩ (weak_of (by repeat' (first | exact trivial | refine ⟨rfl, ?_⟩))) (fun j hj => ?_)
    obtain ⟨hj1, hk3⟩ := hj
    rcases Nat.lt_or_ge j m with hlt | hge
    · obtain ⟨v, hv⟩ := get_ok (show j < r.s.length by rw [hsl]; omega)
      obtain ⟨R, hR⟩ := drop4R hv
      have hbad : ¬ (0 ≤ v ∧ v < t) → chkR r t = 14 := fun h => by
        rw [hu, if_neg]; intro ha
        have : v ∈ r.s.take m := by
          refine List.mem_of_getElem? (i := j) ?_
          rw [List.getElem?_take, if_pos hlt]; exact hv
        exact h (by simpa using List.all_eq_true.1 ha v this)
      have hgo : 0 ≤ v ∧ v < t → ∀ u ∈ r.s.take (j + 1), 0 ≤ u ∧ u < t := fun h u hu => by
        rw [List.take_add_one, hv] at hu
        rcases List.mem_append.1 hu with h1 | h1
        · exact hk3 u h1
        · simp at h1; subst h1; exact h
      repeat' (first
        | refine zW ?_
        | refine zB ?_ ?_ <;> intro h <;> try exact zk h
        | refine zCut hR ?_
        | (show _ = _; rw [hbad (by simp only [decide_eq_true_eq, decide_eq_false_iff_not] at *; omega)])
        | (exact ⟨j + 1, ⟨hlt, hgo (by simp only [decide_eq_true_eq, decide_eq_false_iff_not] at *; omega)⟩, by omega, weak_of (by repeat' (first | exact trivial | refine ⟨rfl, ?_⟩ | refine ⟨(inc_get (k := j) (by kernel_rfl) (by omega)), ?_⟩))⟩)
        | ((exfalso; simp only [decide_eq_true_eq, decide_eq_false_iff_not, Bool.not_eq_true, bne_iff_ne, ne_eq] at *; omega))
        | fail)
    · have hje : j = m := by omega
      subst hje
      have hok2 : chkR r t = 0 := by
        rw [hu, if_pos]
        exact List.all_eq_true.2 fun v hv => by simpa using hk3 v hv
      repeat' (first
        | refine zW ?_
        | refine zB ?_ ?_ <;> intro h <;> try exact zk h
        | (show _ = _; rw [hok2])
        | ((exfalso; simp only [decide_eq_true_eq, decide_eq_false_iff_not, Bool.not_eq_true, bne_iff_ne, ne_eq] at *; omega))
        | fail)
abbrev rawOf (l : List Nat) : Raw := ⟨(l.length : Nat), (l.getD 0 0 : Nat), (l.getD 1 0 : Nat), (l.getD 2 0 : Nat), (l.getD 3 0 : Nat)⟩
theorem rw5_of (l : List Nat) : rw5 (rawOf l) = lk l := rfl
theorem chkR_lk {l : List Nat} (hl : l.length ≤ 4) {t : Int} (h1 : 1 ≤ t) (h8 : t ≤ 8) (h : ∀ x ∈ l, (x : Int) < t) : chkR (rawOf l) t = 0 := by
  unfold chkR
  rw [if_neg (by omega), if_neg (by omega), if_neg (by simp only []; omega), if_neg (by simp only []; omega)]
  match l, hl, h with
  | [], _, _ => simp
  | [a], _, h => simp at h ⊢; omega
  | [a, b], _, h => simp at h ⊢; omega
  | [a, b, c], _, h => simp at h ⊢; omega
  | [a, b, c, d], _, h => simp at h ⊢; omega
theorem chkR_raw {r : Raw} {t : Int} (h : chkR r t = 0) : 1 ≤ t ∧ t ≤ 8 ∧ ∃ l : List Nat, Rt l ∧ r = rawOf l ∧ ∀ x ∈ l, (x : Int) < t := by
  unfold chkR at h
  split at h
  · omega
  split at h
  · omega
  split at h
  · omega
  split at h
  · omega
  split at h
  · rename_i g1 g2 g3 g4 g5
    split at h
    · rename_i g6
      refine ⟨by omega, by omega, ?_⟩
      obtain ⟨n, a, b, c, d⟩ := r
      simp only at g3 g4 g5 g6
      obtain ⟨m, hm⟩ : ∃ m : Nat, n = m := ⟨n.toNat, by omega⟩
      subst hm
      have hm4 : m ≤ 4 := by omega
      have nat : ∀ {v : Int}, 0 ≤ v → v = (v.toNat : Int) := fun h => by omega
      rcases (show m = 0 ∨ m = 1 ∨ m = 2 ∨ m = 3 ∨ m = 4 by omega) with rfl | rfl | rfl | rfl | rfl
      · simp at g5
        exact ⟨[], ⟨by simp, by simp⟩, by simp [g5], by simp⟩
      · simp at g5 g6
        exact ⟨[a.toNat], ⟨by simp, by simp; omega⟩, by simp [g5]; omega, by simp; omega⟩
      · simp at g5 g6
        exact ⟨[a.toNat, b.toNat], ⟨by simp, by simp; omega⟩, by simp [g5]; omega, by simp; omega⟩
      · simp at g5 g6
        exact ⟨[a.toNat, b.toNat, c.toNat], ⟨by simp, by simp; omega⟩, by simp [g5]; omega, by simp; omega⟩
      · simp at g6
        exact ⟨[a.toNat, b.toNat, c.toNat, d.toNat], ⟨by simp, by simp; omega⟩, by simp; omega, by simp; omega⟩
    · omega
  · omega
theorem chkRefL (l : List Nat) (hl : Rt l) : KnownCall Tryz.prog 38 [lk l, .int .i64 8] (.d (.int .i64 0)) := by
  have := chkRef (rawOf l) 8
  rw [chkR_lk hl.len (by omega) (by omega) (fun x hx => by have := hl.lt x hx; omega)] at this
  exact this
theorem bothRef (x y : List Nat) (hx : Rt x) (hy : Rt y) : KnownCall Tryz.prog 139 [lk x, lk y] (.d (.int .i64 0)) := by
  have c1 := chkRefL x hx
  have c2 := chkRefL y hy
  refine kF Tryz.func139 [2, 3] fun w => ?_
  repeat' (first
    | refine zW ?_
    | refine zB ?_ ?_ <;> intro h <;> try exact zk h
    | refine zX ?_
    | refine zC (c1) ?_
    | refine zC (c2) ?_
    | rfl
    | fail)
abbrev bxL (l : List Nat) : List AV := [.d (nI l.length), .d (nI (l.getD 0 0)), .d (nI (l.getD 1 0)), .d (nI (l.getD 2 0)), .d (nI (l.getD 3 0))]
def bxS : List Nat → List AV
  | [] => [.d (nI 0), .d (nI 0), .d (nI 0), .d (nI 0), .d (nI 0)]
  | [a] => [.d (nI 1), .d (nI a), .d (nI 0), .d (nI 0), .d (nI 0)]
  | [a, b] => [.d (nI 2), .d (nI a), .d (nI b), .d (nI 0), .d (nI 0)]
  | [a, b, c] => [.d (nI 3), .d (nI a), .d (nI b), .d (nI c), .d (nI 0)]
  | a :: b :: c :: d :: _ => [.d (nI 4), .d (nI a), .d (nI b), .d (nI c), .d (nI d)]
theorem bxS_L {l : List Nat} (h : l.length ≤ 4) : bxS l = bxL l := by
  match l, h with
  | [], _ => rfl
  | [a], _ => rfl
  | [a, b], _ => rfl
  | [a, b, c], _ => rfl
  | [a, b, c, d], _ => rfl
theorem take_all {l : List Nat} {i k : Nat} (h : ¬ (i < l.length ∧ i < k)) (hk : i ≤ k) : l.take i = l.take k := by
  rcases Nat.lt_or_ge i l.length with h1 | h1
  · rw [show i = k by omega]
  · rw [List.take_of_length_le h1, List.take_of_length_le (by omega)]
theorem take_more {x y : List Nat} {j k : Nat} (h : ¬ (j < y.length ∧ ((x ++ y.take j).take k).length < k)) : (x ++ y.take j).take k = (x ++ y).take k := by
  rcases Nat.lt_or_ge j y.length with h1 | h1
  · have h2 : k ≤ (x ++ y.take j).length := by
      have : ¬ ((x ++ y.take j).take k).length < k := fun h3 => h ⟨h1, h3⟩
      rw [List.length_take] at this; omega
    conv => rhs; rw [← List.take_append_drop j y, ← List.append_assoc, List.take_append_of_le_length h2]
  · rw [List.take_of_length_le h1]
theorem take_next {x y : List Nat} {j k b : Nat} (h : ((x ++ y.take j).take k).length < k) (hb : y[j]? = some b) : (x ++ y.take j).take k ++ [b] = (x ++ y.take (j + 1)).take k := by
  have h2 : (x ++ y.take j).length < k := by rw [List.length_take] at h; omega
  have e : x ++ y.take (j + 1) = (x ++ y.take j) ++ [b] := by rw [List.take_add_one, hb]; simp
  have h3 : ((x ++ y.take j) ++ [b]).length ≤ k := by rw [List.length_append]; simp only [List.length_singleton]; omega
  rw [e, List.take_of_length_le (Nat.le_of_lt h2), List.take_of_length_le h3]
set_option maxHeartbeats 1000000 in
theorem plusRef (k : Nat) (hk : k ≤ 4) (x y : List Nat) (hx : Rt x) (hy : Rt y) : KnownCall Tryz.prog 141 [nI k, lk x, lk y] (.d (lk ((x ++ y).take k))) := by
  have hl1 := hx.len
  have hl2 := hy.len
  refine kF Tryz.func141 [4, 5] fun w => ?_
  repeat' (first
    | refine zW ?_
    | refine zB ?_ ?_ <;> intro h <;> try exact zk h
    | refine zX ?_
    | fail)
  refine Run.loopT (fun p : Nat × List Nat => ⟨PT.ofList [(0, .d (nI k)), (4, .d (.ep (lkC x))), (5, .d (.ep (lkC y))), (6, .bp 0 0), (7, .bp 1 0), (8, .d (nI p.1))], [.box (bxS []), .box (bxS p.2)], []⟩) (fun p => p.1 ≤ x.length ∧ p.1 ≤ k ∧ p.2 = x.take p.1) (fun p => x.length - p.1) (0, []) ⟨Nat.zero_le _, Nat.zero_le _, rfl⟩ (ti _ 2) (fun p hp => ?_)
  obtain ⟨i, acc⟩ := p
  obtain ⟨h1, h2, h3⟩ := hp
  simp only at h1 h2 h3 ⊢
  have hal : acc.length = i := by rw [h3, List.length_take]; omega
  by_cases hc : i < x.length ∧ i < k
  · obtain ⟨b, hb⟩ := get_ok hc.1
    have hbd : x.getD i 0 = b := by rw [List.getD_eq_getElem?_getD, hb]; rfl
    have hnx : acc ++ [x.getD i 0] = x.take (i + 1) := by rw [List.take_add_one, hb, h3, hbd]; rfl
    match acc, hal, hnx with
    | [], hal, hnx =>
      have hi : i = 0 := hal.symm
      subst hi
      repeat' (first
        | refine zW ?_
        | refine zB ?_ ?_ <;> intro h <;> try exact zk h
        | refine zX ?_
        | (exact ⟨(0 + 1, [] ++ [x.getD 0 0]), ⟨by simp only []; omega, by simp only []; omega, hnx⟩, by simp only []; omega, (ti _ 2)⟩)
        | ((exfalso; simp only [decide_eq_true_eq, decide_eq_false_iff_not] at *; omega))
        | fail)
    | [a0], hal, hnx =>
      have hi : i = 1 := hal.symm
      subst hi
      repeat' (first
        | refine zW ?_
        | refine zB ?_ ?_ <;> intro h <;> try exact zk h
        | refine zX ?_
        | (exact ⟨(1 + 1, [a0] ++ [x.getD 1 0]), ⟨by simp only []; omega, by simp only []; omega, hnx⟩, by simp only []; omega, (ti _ 2)⟩)
        | ((exfalso; simp only [decide_eq_true_eq, decide_eq_false_iff_not] at *; omega))
        | fail)
    | [a0, a1], hal, hnx =>
      have hi : i = 2 := hal.symm
      subst hi
      repeat' (first
        | refine zW ?_
        | refine zB ?_ ?_ <;> intro h <;> try exact zk h
        | refine zX ?_
        | (exact ⟨(2 + 1, [a0, a1] ++ [x.getD 2 0]), ⟨by simp only []; omega, by simp only []; omega, hnx⟩, by simp only []; omega, (ti _ 2)⟩)
        | ((exfalso; simp only [decide_eq_true_eq, decide_eq_false_iff_not] at *; omega))
        | fail)
    | [a0, a1, a2], hal, hnx =>
      have hi : i = 3 := hal.symm
      subst hi
      repeat' (first
        | refine zW ?_
        | refine zB ?_ ?_ <;> intro h <;> try exact zk h
        | refine zX ?_
        | (exact ⟨(3 + 1, [a0, a1, a2] ++ [x.getD 3 0]), ⟨by simp only []; omega, by simp only []; omega, hnx⟩, by simp only []; omega, (ti _ 2)⟩)
        | ((exfalso; simp only [decide_eq_true_eq, decide_eq_false_iff_not] at *; omega))
        | fail)
    | a0 :: a1 :: a2 :: a3 :: t, hal, _ => simp at hal; omega
  · have e : acc = (x ++ y.take 0).take k := by rw [h3, List.take_zero, List.append_nil]; exact take_all hc h2
    rw [bxS_L (show acc.length ≤ 4 by omega)]
    repeat' (first
      | refine zW ?_
      | refine zB ?_ ?_ <;> intro h <;> try exact zk h
      | refine zX ?_
      | ((exfalso; simp only [decide_eq_true_eq, decide_eq_false_iff_not] at *; omega))
      | fail)
    all_goals
      refine Run.loopT (fun p : Nat × List Nat => ⟨PT.ofList [(0, .d (nI k)), (4, .d (.ep (lkC x))), (5, .d (.ep (lkC y))), (6, .bp 0 0), (7, .bp 1 0), (9, .d (nI p.1))], [.box (bxS []), .box (bxS p.2)], []⟩) (fun p => p.1 ≤ y.length ∧ p.2 = (x ++ y.take p.1).take k) (fun p => y.length - p.1) (0, acc) ⟨Nat.zero_le _, e⟩ (ti _ 2 (Eq.trans (b := [.box (bxS []), .box (bxL acc)]) rfl (by rw [bxS_L (show acc.length ≤ 4 by omega)])) (hr := by show [Ob.box (bxS []), Ob.box (bxS acc)].all (refOb 2) = true; rw [bxS_L (show acc.length ≤ 4 by omega)]; rfl)) (fun p hp => ?_)
      obtain ⟨j, acc⟩ := p
      obtain ⟨h1, h3⟩ := hp
      simp only at h1 h3 ⊢
      by_cases hc : j < y.length ∧ acc.length < k
      · obtain ⟨b, hb⟩ := get_ok hc.1
        obtain ⟨R, hR⟩ := drop4 hl2 hb
        have hnx : acc ++ [b] = (x ++ y.take (j + 1)).take k := by rw [h3]; exact take_next (by rw [← h3]; exact hc.2) hb
        have hlt := hc.2
        match acc, hlt, hnx with
        | [], hlt, hnx =>
          have hlt : 0 < k := hlt
          repeat' (first
            | refine zW ?_
            | refine zB ?_ ?_ <;> intro h <;> try exact zk h
            | refine zX ?_
            | refine zCut hR ?_
            | (exact ⟨(j + 1, [] ++ [b]), ⟨hc.1, hnx⟩, by simp only []; omega, (ti _ 2)⟩)
            | ((exfalso; simp only [decide_eq_true_eq, decide_eq_false_iff_not] at *; omega))
            | fail)
        | [a0], hlt, hnx =>
          have hlt : 1 < k := hlt
          repeat' (first
            | refine zW ?_
            | refine zB ?_ ?_ <;> intro h <;> try exact zk h
            | refine zX ?_
            | refine zCut hR ?_
            | (exact ⟨(j + 1, [a0] ++ [b]), ⟨hc.1, hnx⟩, by simp only []; omega, (ti _ 2)⟩)
            | ((exfalso; simp only [decide_eq_true_eq, decide_eq_false_iff_not] at *; omega))
            | fail)
        | [a0, a1], hlt, hnx =>
          have hlt : 2 < k := hlt
          repeat' (first
            | refine zW ?_
            | refine zB ?_ ?_ <;> intro h <;> try exact zk h
            | refine zX ?_
            | refine zCut hR ?_
            | (exact ⟨(j + 1, [a0, a1] ++ [b]), ⟨hc.1, hnx⟩, by simp only []; omega, (ti _ 2)⟩)
            | ((exfalso; simp only [decide_eq_true_eq, decide_eq_false_iff_not] at *; omega))
            | fail)
        | [a0, a1, a2], hlt, hnx =>
          have hlt : 3 < k := hlt
          repeat' (first
            | refine zW ?_
            | refine zB ?_ ?_ <;> intro h <;> try exact zk h
            | refine zX ?_
            | refine zCut hR ?_
            | (exact ⟨(j + 1, [a0, a1, a2] ++ [b]), ⟨hc.1, hnx⟩, by simp only []; omega, (ti _ 2)⟩)
            | ((exfalso; simp only [decide_eq_true_eq, decide_eq_false_iff_not] at *; omega))
            | fail)
        | a0 :: a1 :: a2 :: a3 :: t, hlt, _ => simp at hlt; omega
      · have e : acc = (x ++ y).take k := by
          rw [h3]; exact take_more (by rw [← h3]; exact hc)
        rw [bxS_L (show acc.length ≤ 4 by rw [e, List.length_take]; omega)]
        subst e
        repeat' (first
          | refine zW ?_
          | refine zB ?_ ?_ <;> intro h <;> try exact zk h
          | refine zX ?_
          | rfl
          | ((exfalso; simp only [decide_eq_true_eq, decide_eq_false_iff_not] at *; omega))
          | fail)
theorem joinRef (k : Nat) (hk1 : 1 ≤ k) (hk : k ≤ 4) (x y : List Nat) (hx : Rt x) (hy : Rt y) : KnownCall Tryz.prog 132 [nI k, lk x, lk y] (.tup [.d (lk ((x ++ y).take k)), .d (.int .i64 0)]) := by
  have c1 := bothRef x y hx hy
  have c2 := plusRef k hk x y hx hy
  refine kF Tryz.func132 [4, 5] fun w => ?_
  repeat' (first
    | refine zW ?_
    | refine zB ?_ ?_ <;> intro h <;> try exact zk h
    | refine zX ?_
    | refine zC (c1) ?_
    | refine zC (c2) ?_
    | rfl
    | ((exfalso; simp only [decide_eq_true_eq, decide_eq_false_iff_not] at *; omega))
    | fail)
theorem cmpL_end2 {i : Nat} {x y : List Nat} (h : x.take i = y.take i) (hi : i = min x.length y.length) : cmpL x y = if x.length < y.length then -1 else if y.length < x.length then 1 else 0 := by
  by_cases hxy : x = y
  · subst hxy; rw [cmpL_self, if_neg (Nat.lt_irrefl _), if_neg (Nat.lt_irrefl _)]
  · rw [cmpL_end h hi hxy]
    by_cases h1 : x.length < y.length
    · rw [if_pos h1, if_pos h1]
    · rw [if_neg h1, if_neg h1, if_pos]
      rcases Nat.lt_or_ge y.length x.length with h2 | h2
      · exact h2
      · exfalso; apply hxy
        have e : x.length = y.length := by omega
        rwa [List.take_of_length_le (by omega), List.take_of_length_le (by omega)] at h
theorem orderRef (x y : List Nat) (hx : Rt x) (hy : Rt y) : KnownCall Tryz.prog 140 [lk x, lk y] (.d (.int .i64 (cmpL x y))) := by
  have hl1 := hx.len
  have hl2 := hy.len
  refine kF Tryz.func140 [2, 3] fun w => ?_
  repeat' (first
    | refine zW ?_
    | refine zB ?_ ?_ <;> intro h <;> try exact zk h
    | refine zX ?_
    | fail)
  refine Run.loop (fun i : Nat => ⟨PT.ofList [(2, .d (.ep (lkC x))), (3, .d (.ep (lkC y))), (5, .d (nI i))], [], []⟩) (fun i => i ≤ min x.length y.length ∧ x.take i = y.take i) (fun i => min x.length y.length - i) 0 ⟨Nat.zero_le _, rfl⟩ (weak_of (by repeat' (first | exact trivial | refine ⟨rfl, ?_⟩))) (fun i hi => ?_)
  rcases Nat.lt_or_ge i (min x.length y.length) with hlt | hge
  · obtain ⟨a, ha⟩ := get_ok (show i < x.length by omega)
    obtain ⟨b, hb⟩ := get_ok (show i < y.length by omega)
    obtain ⟨R1, r1⟩ := drop4 hl1 ha
    obtain ⟨R2, r2⟩ := drop4 hl2 hb
    have hgo : a = b → x.take (i + 1) = y.take (i + 1) := fun h => by rw [List.take_add_one, List.take_add_one, hi.2, ha, hb, h]
    have hne := cmpL_at hi.2 ha hb
    repeat' (first
      | refine zW ?_
      | refine zB ?_ ?_ <;> intro h <;> try exact zk h
      | refine zX ?_
      | refine zCut r1 ?_
      | refine zCut r2 ?_
      | (show _ = _; (rw [hne (by intro e; subst e; simp_all)]; split <;> simp_all <;> omega))
      | (exact ⟨i + 1, ⟨hlt, hgo (by simp at h; omega)⟩, by omega, weak_of (by repeat' (first | exact trivial | refine ⟨rfl, ?_⟩ | refine ⟨(inc_get (k := i) (by kernel_rfl) (by omega)), ?_⟩))⟩)
      | ((exfalso; simp only [decide_eq_true_eq, decide_eq_false_iff_not] at *; omega))
      | fail)
  · have hie : i = min x.length y.length := by have := hi.1; omega
    have he := cmpL_end2 hi.2 hie
    repeat' (first
      | refine zW ?_
      | refine zB ?_ ?_ <;> intro h <;> try exact zk h
      | refine zX ?_
      | (show _ = _; (simp only [decide_eq_true_eq, decide_eq_false_iff_not] at *; rw [he]; first | (rw [if_pos (by omega)] <;> fail) | (rw [if_neg (by omega), if_pos (by omega)] <;> fail) | rw [if_neg (by omega), if_neg (by omega)]))
      | ((exfalso; simp only [decide_eq_true_eq, decide_eq_false_iff_not] at *; omega))
      | fail)
theorem compareRef (x y : List Nat) (hx : Rt x) (hy : Rt y) : KnownCall Tryz.prog 131 [lk x, lk y] (.tup [.d (.int .i64 (cmpL x y)), .d (.int .i64 0)]) := by
  have c1 := bothRef x y hx hy
  have c2 := orderRef x y hx hy
  refine kF Tryz.func131 [2, 3] fun w => ?_
  repeat' (first
    | refine zW ?_
    | refine zB ?_ ?_ <;> intro h <;> try exact zk h
    | refine zX ?_
    | refine zC (c1) ?_
    | refine zC (c2) ?_
    | rfl
    | fail)
theorem compareS14 (x y : List Nat) (hx : Rt x) (hy : Rt y) : KnownCall Tryz.prog 109 [lk x, lk y] (.d (.int .i64 (cmpL x y))) := by
  have c := compareRef x y hx hy
  refine kF Tryz.func109 [2, 3] fun w => ?_
  repeat' (first
    | refine zW ?_
    | refine zB ?_ ?_ <;> intro h <;> try exact zk h
    | refine zX ?_
    | refine zC (c) ?_
    | rfl
    | fail)
def dec (r : Raw) : List Nat := (r.s.map Int.toNat).take r.n.toNat
theorem dec_of {l : List Nat} (h : l.length ≤ 4) : dec (rawOf l) = l := by
  match l, h with
  | [], _ => rfl
  | [a], _ => rfl
  | [a, b], _ => rfl
  | [a, b, c], _ => rfl
  | [a, b, c, d], _ => rfl
def pv (L : List Raw) : Nat → Option Raw
  | 0 => none
  | j + 1 => L[j]?
theorem drop_at {α : Type} {L : List α} {i : Nat} {x : α} (h : L[i]? = some x) : L.drop i = x :: L.drop (i + 1) := by
  obtain ⟨h1, h2⟩ := List.getElem?_eq_some_iff.1 h
  rw [List.drop_eq_getElem_cons h1, h2]
def IterOK (f : DV) (L : List (List Nat)) : Prop := ∃ g a b, f = .fn (.func g) a b ∧ ∀ (yi : Nat) (B : Nat → List Ob), (∀ k, yi < (B k).length) → (∀ k, (B 0).length ≤ (B k).length) → (∀ k, (B k).all (refOb (B k).length) = true) →
  (∀ k x, L[k]? = some x → AYield Tryz.prog yi [.d (lk x)] (B k) (.d (.bool true)) (B (k + 1))) → ACall Tryz.prog g (a.map .d ++ [.yl yi] ++ b.map .d) (B 0) (.tup []) (B L.length)
theorem lt_true {a b : Nat} (h : a < b) : AV.d (.bool (decide ((a : Int) < (b : Int)))) = .d (.bool true) := by
  rw [decide_eq_true (by omega)]
theorem lt_false {a b : Nat} (h : b ≤ a) : AV.d (.bool (decide ((a : Int) < (b : Int)))) = .d (.bool false) := by
  rw [decide_eq_false (by omega)]
theorem valuesK (L : List (List Nat)) : KnownCall Tryz.prog 54 [lks L] (.d (.fn (.func 79) [] [.ep [lks L]])) := by
  refine kF Tryz.func54 [1] fun w => ?_
  repeat' (first
    | refine zW ?_
    | refine zB ?_ ?_ <;> intro h <;> try exact zk h
    | rfl
    | fail)
theorem valuesIt (L : List (List Nat)) (hl : L.length ≤ 1048576) : IterOK (.fn (.func 79) [] [.ep [lks L]]) L := by
  have w : Fz [] := trivial
  refine ⟨_, _, _, rfl, fun yi B hyi hB0 hR hy => ?_⟩
  have w : Fz [] := trivial
  show ACall _ _ [.yl yi, .d (.ep [lks L])] _ _ _
  refine acall_of_run Et_ok (fnB Tryz.func79 []) rfl rfl ?_
  repeat refine zA ?_
  refine Run.loop (fun k : Nat => ⟨PT.ofList [(0, .yl yi), (5, .d (lks L)), (6, .d (nI (L.map lk).length)), (7, .d (.int .i64 k))], B k, []⟩) (fun k => k ≤ L.length) (fun k => L.length - k) 0 (Nat.zero_le _) (weak_of ⟨rfl, rfl, rfl, rfl, trivial⟩) (fun k hk => ?_)
  have hlen : (L.map lk).length = L.length := by simp
  rcases Nat.lt_or_ge k L.length with hlt | hge
  · obtain ⟨x, hx⟩ := get_ok hlt
    repeat refine zS ?_
    refine zV (lt_true (show k < (L.map lk).length by omega)) ?_
    repeat refine zS ?_
    refine zI w (.d (.ep (lkC x))) hx ?_
    iterate 2 refine zX ?_
    refine oV ?_ (hv := evAny_store_last)
    refine RunOps.nil ?_
    refine Run.dropLast (ds := lkC x) [(0, .yl yi), (5, .d (lks L)), (6, .d (nI (L.map lk).length)), (7, .d (.int .i64 k)), (4, .d (.ep (lkC x)))] ?_ (hB0 k) (hR k) (ofList_cases (by intro p hp; simp only [List.mem_cons, List.not_mem_nil, or_false] at hp; rcases hp with rfl | rfl | rfl | rfl | rfl; exact .inl (by kernel_rfl); exact .inl (by kernel_rfl); exact .inl (by kernel_rfl); exact .inl (by kernel_rfl); exact .inr ⟨0, Nat.zero_le _, by kernel_rfl, rfl⟩)) ⟨by simp [refA]; exact hyi k, rfl, rfl, rfl, rfl, trivial⟩
    repeat refine zS ?_
    iterate 2 refine zX ?_
    refine RunOps.yield (by rfl) (by rfl) (hy k x hx) (by rfl) (by rfl) ?_
    repeat' (first
      | refine zW ?_
      | refine zB ?_ ?_ <;> intro h <;> try exact zk h
      | (exact ⟨k + 1, hlt, by omega, weak_of (by repeat' (first | exact trivial | refine ⟨rfl, ?_⟩ | refine ⟨(inc_get (k := k) (by kernel_rfl) (by omega)), ?_⟩))⟩)
      | fail)
  · have hke : k = L.length := by omega
    subst hke
    repeat refine zS ?_
    refine zV (lt_false (show (L.map lk).length ≤ L.length by omega)) ?_
    repeat' (first
      | refine zW ?_
      | refine zB ?_ ?_ <;> intro h <;> try exact zk h
      | fail)
    exact ⟨trivial, rfl, by kernel_rfl⟩
def prs (k : Nat) (a b : List (List Nat)) : List (List Nat) := a.flatMap fun x => b.map fun y => (x ++ y).take k
theorem prs_len (k : Nat) (b : List (List Nat)) : ∀ a, (prs k a b).length = a.length * b.length
  | [] => by simp [prs]
  | x :: a => by
    have : prs k (x :: a) b = b.map (fun y => (x ++ y).take k) ++ prs k a b := by simp [prs]
    rw [this, List.length_append, prs_len k b a, List.length_map, List.length_cons, Nat.succ_mul, Nat.add_comm]
structure SetOK (n : Nat) (L : List (List Nat)) : Prop where
  len : L.length ≤ 4681
  rt : ∀ x ∈ L, Rt x
  lt : ∀ x ∈ L, ∀ t ∈ x, t < n
  asc : L.Pairwise fun x y => cmpL x y < 0
def mrg (s : Bool → Bool → Bool) : Nat → List (List Nat) → List (List Nat) → List (List Nat)
  | 0, _, _ => []
  | _ + 1, [], [] => []
  | k + 1, [], y :: b => (if s false true then [y] else []) ++ mrg s k [] b
  | k + 1, x :: a, [] => (if s true false then [x] else []) ++ mrg s k a []
  | k + 1, x :: a, y :: b => if cmpL x y < 0 then (if s true false then [x] else []) ++ mrg s k a (y :: b) else if 0 < cmpL x y then (if s false true then [y] else []) ++ mrg s k (x :: a) b else (if s true true then [y] else []) ++ mrg s k a b
theorem cmpL_neg : ∀ x y, cmpL y x = -cmpL x y
  | [], [] => rfl
  | [], _ :: _ => rfl
  | _ :: _, [] => rfl
  | a :: x, b :: y => by
    simp only [cmpL]
    rcases Nat.lt_trichotomy a b with h | h | h
    · rw [if_neg (by omega), if_pos h, if_pos h]; rfl
    · subst h; simp only [Nat.lt_irrefl, if_false]; exact cmpL_neg x y
    · rw [if_pos h, if_neg (by omega), if_pos h]
theorem cmpL_eq : ∀ {x y}, cmpL x y = 0 → x = y
  | [], [], _ => rfl
  | [], _ :: _, h => by simp [cmpL] at h
  | _ :: _, [], h => by simp [cmpL] at h
  | a :: x, b :: y, h => by
    simp only [cmpL] at h
    split at h
    · simp at h
    · split at h
      · simp at h
      · rw [cmpL_eq h, show a = b by omega]
theorem cmpL_trans : ∀ {x y z}, cmpL x y < 0 → cmpL y z < 0 → cmpL x z < 0
  | [], [], _, h, _ => by simp [cmpL] at h
  | _ :: _, [], _, h, _ => by simp [cmpL] at h
  | [], _ :: _, [], _, h => by simp [cmpL] at h
  | _ :: _, _ :: _, [], _, h => by simp [cmpL] at h
  | [], _ :: _, _ :: _, _, _ => by simp [cmpL]
  | a :: x, b :: y, c :: z, h, k => by
    simp only [cmpL] at h k ⊢
    by_cases h1 : a < b
    · by_cases k1 : b < c
      · rw [if_pos (by omega)]; decide
      · by_cases k2 : c < b
        · rw [if_neg k1, if_pos k2] at k; simp at k
        · rw [if_pos (by omega)]; decide
    · by_cases h2 : b < a
      · rw [if_neg h1, if_pos h2] at h; simp at h
      · rw [if_neg h1, if_neg h2] at h
        by_cases k1 : b < c
        · rw [if_pos (by omega)]; decide
        · by_cases k2 : c < b
          · rw [if_neg k1, if_pos k2] at k; simp at k
          · rw [if_neg k1, if_neg k2] at k
            rw [if_neg (by omega), if_neg (by omega)]
            exact cmpL_trans h k
end Go.Av
end
namespace Go.Proofs
open Go.Shelf
def Tryz.sortLk_ren : Go.Shelf.Ren := ⟨fun | 6 => 51 | 15 => 77 | 14 => 76 | 28 => 106 | 29 => 107 | 20 => 98 | 21 => 99 | 22 => 100 | 23 => 101 | 24 => 102 | 25 => 103 | 26 => 104 | 27 => 105 | 46 => 124 | 47 => 125 | 48 => 126 | 49 => 127 | 50 => 128 | 57 => 136 | n => n, fun | 22 => 35 | 24 => 44 | 25 => 80 | 3 => 3 | 39 => 105 | 0 => 0 | 53 => 132 | 55 => 134 | 4 => 4 | 46 => 125 | 45 => 124 | 50 => 129 | 5 => 5 | 9 => 9 | 66 => 147 | 70 => 151 | 76 => 156 | 77 => 157 | n => n, fun | n => n⟩
theorem Tryz.sortLk : Go.Proofs.SlLaysF0.n6 Tryz.prog Tryz.sortLk_ren := {
  mixed := by kernel_rfl
  f6 := ⟨Tryz.f51.name, by decide, Tryz.func51.trans (congrArg some (by kernel_rfl))⟩
  f14 := ⟨Tryz.f76.name, by decide, Tryz.func76.trans (congrArg some (by kernel_rfl))⟩
  f15 := Tryz.func77.trans (congrArg some (by kernel_rfl))
  f20 := ⟨Tryz.f98.name, by decide, Tryz.func98.trans (congrArg some (by kernel_rfl))⟩
  f21 := ⟨Tryz.f99.name, by decide, Tryz.func99.trans (congrArg some (by kernel_rfl))⟩
  f22 := ⟨Tryz.f100.name, by decide, Tryz.func100.trans (congrArg some (by kernel_rfl))⟩
  f23 := ⟨Tryz.f101.name, by decide, Tryz.func101.trans (congrArg some (by kernel_rfl))⟩
  f24 := ⟨Tryz.f102.name, by decide, Tryz.func102.trans (congrArg some (by kernel_rfl))⟩
  f25 := ⟨Tryz.f103.name, by decide, Tryz.func103.trans (congrArg some (by kernel_rfl))⟩
  f26 := ⟨Tryz.f104.name, by decide, Tryz.func104.trans (congrArg some (by kernel_rfl))⟩
  f27 := ⟨Tryz.f105.name, by decide, Tryz.func105.trans (congrArg some (by kernel_rfl))⟩
  f28 := Tryz.func106.trans (congrArg some (by kernel_rfl))
  f29 := Tryz.func107.trans (congrArg some (by kernel_rfl))
  f46 := ⟨Tryz.f124.name, by decide, Tryz.func124.trans (congrArg some (by kernel_rfl))⟩
  f47 := Tryz.func125.trans (congrArg some (by kernel_rfl))
  f48 := Tryz.func126.trans (congrArg some (by kernel_rfl))
  f49 := ⟨Tryz.f127.name, by decide, Tryz.func127.trans (congrArg some (by kernel_rfl))⟩
  f50 := ⟨Tryz.f128.name, by decide, Tryz.func128.trans (congrArg some (by kernel_rfl))⟩
  f57 := ⟨Tryz.f136.name, by decide, Tryz.func136.trans (congrArg some (by kernel_rfl))⟩
  t0 := Tryz.underlying0
  a0 := Tryz.isAgg0
  z0 := Tryz.sizeOf0
  v0 := Tryz.zeroValue0
  t3 := Tryz.underlying3
  a3 := Tryz.isAgg3
  z3 := Tryz.sizeOf3
  v3 := Tryz.zeroValue3
  t4 := Tryz.underlying4
  a4 := Tryz.isAgg4
  z4 := Tryz.sizeOf4
  v4 := Tryz.zeroValue4
  t5 := Tryz.underlying5
  a5 := Tryz.isAgg5
  z5 := Tryz.sizeOf5
  v5 := Tryz.zeroValue5
  t9 := Tryz.underlying9
  a9 := Tryz.isAgg9
  z9 := Tryz.sizeOf9
  v9 := Tryz.zeroValue9
  t22 := Tryz.underlying35
  a22 := Tryz.isAgg35
  z22 := Tryz.sizeOf35
  v22 := Tryz.zeroValue35
  t25 := Tryz.underlying80
  a25 := Tryz.isAgg80
  z25 := Tryz.sizeOf80
  v25 := Tryz.zeroValue80
  t39 := Tryz.underlying105
  a39 := Tryz.isAgg105
  z39 := Tryz.sizeOf105
  v39 := Tryz.zeroValue105
  t45 := Tryz.underlying124
  a45 := Tryz.isAgg124
  z45 := Tryz.sizeOf124
  v45 := Tryz.zeroValue124
  t46 := Tryz.underlying125
  a46 := Tryz.isAgg125
  z46 := Tryz.sizeOf125
  v46 := Tryz.zeroValue125
  t50 := Tryz.underlying129
  a50 := Tryz.isAgg129
  z50 := Tryz.sizeOf129
  v50 := Tryz.zeroValue129
  t53 := Tryz.underlying132
  a53 := Tryz.isAgg132
  z53 := Tryz.sizeOf132
  v53 := Tryz.zeroValue132
  t55 := Tryz.underlying134
  a55 := Tryz.isAgg134
  z55 := Tryz.sizeOf134
  v55 := Tryz.zeroValue134
  t66 := Tryz.underlying147
  a66 := Tryz.isAgg147
  z66 := Tryz.sizeOf147
  v66 := Tryz.zeroValue147
  t70 := Tryz.underlying151
  a70 := Tryz.isAgg151
  z70 := Tryz.sizeOf151
  v70 := Tryz.zeroValue151
  t76 := Tryz.underlying156
  a76 := Tryz.isAgg156
  z76 := Tryz.sizeOf156
  v76 := Tryz.zeroValue156
  t77 := Tryz.underlying157
  a77 := Tryz.isAgg157
  z77 := Tryz.sizeOf157
  v77 := Tryz.zeroValue157 }
end Go.Proofs
noncomputable section
namespace Go.Av
open Go Go.Proofs
set_option maxRecDepth 10000
abbrev LkT := {l : List Nat // Rt l}
instance : Inhabited LkT := ⟨⟨[], ⟨by simp, by simp⟩⟩⟩
abbrev vI (n : Nat) : Value := .int .i64 (n : Nat)
def encL (x : LkT) : List Value := [vI x.1.length, vI (x.1.getD 0 0), vI (x.1.getD 1 0), vI (x.1.getD 2 0), vI (x.1.getD 3 0)]
def cfL (x y : LkT) : Int := cmpL x.1 y.1
theorem cfL_swo : Go.Sort.SWO (ltOf cfL) where
  irrefl x := by simp [ltOf, cfL, cmpL_self]
  trans x y z h k := by
    simp only [ltOf, decide_eq_true_eq] at h k ⊢
    exact cmpL_trans h k
  ntrans x y z h k := by
    have h : ¬ cmpL x.1 y.1 < 0 := of_decide_eq_false h
    have k : ¬ cmpL y.1 z.1 < 0 := of_decide_eq_false k
    refine decide_eq_false fun hc : cmpL x.1 z.1 < 0 => ?_
    by_cases h0 : cmpL x.1 y.1 = 0
    · rw [cmpL_eq h0] at hc; exact k hc
    · have h1 : cmpL y.1 x.1 < 0 := by rw [cmpL_neg]; omega
      exact k (cmpL_trans h1 hc)
theorem cfL_total (x y : LkT) (h : ltOf cfL x y = false) (k : ltOf cfL y x = false) : x = y := by
  have h : ¬ cmpL x.1 y.1 < 0 := of_decide_eq_false h
  have k : ¬ cmpL y.1 x.1 < 0 := of_decide_eq_false k
  have := cmpL_neg x.1 y.1
  exact Subtype.ext (cmpL_eq (by omega))
theorem heap0 (w : World) : Heap (fun _ => none) [] [] w := ⟨fun _ _ h => (by cases h), rfl, fun i bi ob h => (by simp at h), fun i j bi bj oi oj b h => (by simp at h)⟩
theorem world_grown {D' : DMap} {β' : List Bi} {o' : List Ob} {w w' : World} (h : Step (fun _ => none) [] [] w D' β' o' w') : ∃ q os', w' = Go.Sort.grow (w.drewN q) os' := by
  refine ⟨w'.drawn - w.drawn, w'.heap.extract w.heap.size w'.heap.size, ?_⟩
  have hh : w'.heap = w.heap ++ w'.heap.extract w.heap.size w'.heap.size := by
    refine Array.ext_getElem? fun k => ?_
    rcases Nat.lt_or_ge k w.heap.size with hk | hk
    · rw [h.keep k hk not_own_nil, Array.getElem?_append_left hk]
    · rw [Array.getElem?_append_right hk, Array.getElem?_extract]
      have hs := h.size
      rcases Nat.lt_or_ge k w'.heap.size with h2 | h2
      · rw [if_pos (by omega), show w.heap.size + (k - w.heap.size) = k by omega]
      · rw [Array.getElem?_eq_none h2, if_neg (by omega)]
  have h1 := h.os; have h2 := h.tape; have h3 := h.output.1; have h4 := h.output.2
  cases w with
  | mk a b c d e =>
    cases w' with
    | mk a' b' c' d' e' =>
      simp only [Go.Sort.grow, World.drewN] at *
      subst h1 h2 h3
      congr 1
      omega
def CmpFn (cf : FuncId) : Prop := ∀ x y, Rt x → Rt y → KnownCall Tryz.prog cf [lk x, lk y] (.d (.int .i64 (cmpL x y)))
theorem cmpLaysK {cf : FuncId} (hcf : CmpFn cf) (blk off size : Nat) (w : World) : CmpLays Tryz.prog cf #[] encL 5 cfL blk off size w := by
  intro m os dk _ x y
  generalize sortWorldK encL 5 w blk off m dk os = W
  have hK := (hcf x.1 y.1 x.2 y.2 []).2 (fun _ => none) [] W (#[.agg (encL x).toArray, .agg (encL y).toArray] ++ #[]) (heap0 W) ⟨rfl, fun j c v hc hv => ?_⟩
  · refine callsIn_wide.1 (hK.mono fun e w' he => ?_)
    rcases he with ⟨v, D', β', rfl, hs, hr⟩ | ⟨z, v, D', β', hz, _⟩
    · cases hr with
      | d hr => cases hr; exact ⟨rfl, world_grown hs⟩
    · cases hz
  · have key : ∀ z : LkT, RepA (fun _ => none) [] (.d (lk z.1)) (.agg (encL z).toArray) := fun z => by
      refine .d (.agg rfl (fun j v hv => ?_) fun j c v hc hv => ?_)
      · match j, hv with
        | 0, hv | 1, hv | 2, hv | 3, hv | 4, hv => simp [encL] at hv; subst hv; rfl
        | j + 5, hv => simp [encL] at hv
      · match j, hc, hv with
        | 0, hc, hv | 1, hc, hv | 2, hc, hv | 3, hc, hv | 4, hc, hv => simp [encL, lkC] at hc hv; subst hc hv; exact .int
        | j + 5, hc, hv => simp [lkC] at hc
    match j, hc, hv with
    | 0, hc, hv => simp at hc hv; subst hc hv; exact key x
    | 1, hc, hv => simp at hc hv; subst hc hv; exact key y
    | j + 2, hc, hv => simp at hc
abbrev vecL (L : List (List Nat)) : Ob := .vec 44 true 5 L.length ((flatD (L.map lk)).map .d)
theorem flat_len (L : List (List Nat)) : (flatD (L.map lk)).length = L.length * 5 := by
  induction L with
  | nil => rfl
  | cons a L ih =>
    have : (flatD ((a :: L).map lk)).length = (cellsD (lk a)).length + (flatD (L.map lk)).length := by simp [flatD]
    rw [this, ih]; simp only [cellsD, List.length_cons, List.length_nil]; omega
theorem flat_at : ∀ (L : List (List Nat)) (j : Nat) (x : List Nat), L[j / 5]? = some x → (flatD (L.map lk))[j]? = (lkC x)[j % 5]?
  | [], j, x, h => by simp at h
  | a :: L, j, x, h => by
    have e : flatD ((a :: L).map lk) = lkC a ++ flatD (L.map lk) := by simp [flatD, cellsD]
    rw [e]
    rcases Nat.lt_or_ge j 5 with hj | hj
    · rw [show j / 5 = 0 by omega] at h
      simp only [List.getElem?_cons_zero, Option.some.injEq] at h
      subst h
      rw [List.getElem?_append_left (by simpa using hj), Nat.mod_eq_of_lt hj]
    · rw [show j / 5 = (j - 5) / 5 + 1 by omega] at h
      simp only [List.getElem?_cons_succ] at h
      rw [List.getElem?_append_right (by simpa using hj), show (lkC a).length = 5 from rfl, flat_at L (j - 5) x h, show (j - 5) % 5 = j % 5 by omega]
theorem encL_get (x : LkT) (c : Nat) (hc : c < 5) : ∃ n, (lkC x.1)[c]? = some (nI n) ∧ (encL x)[c]! = vI n := by
  match c, hc with
  | 0, _ | 1, _ | 2, _ | 3, _ | 4, _ => exact ⟨_, rfl, rfl⟩
theorem step_sorted {D : DMap} {β : List Bi} {objs : List Ob} {w : World} (h : Heap D β objs w) {i b : Nat} {bi : Bi} {ob ob' : Ob} {o' : Obj} (hb : β[i]? = some bi) (ho : objs[i]? = some ob)
    (hown : ownOf bi ob = some b) (hown' : ∀ b', ownOf bi ob' = some b' → b' = b) (hD : ∀ ad, ad.block = b → D ad = none) (n : Nat) (os : Array Obj) (hnew : HoldsOb D β (putB (Go.Sort.ahead w n) b o') bi ob') :
    Step D β objs w D β (objs.set i ob') (Go.Sort.grow (putB (Go.Sort.ahead w n) b o') os) := by
  have s1 : Step D β objs w D β objs (Go.Sort.ahead w n) :=
    { Step.refl (h.same (w' := Go.Sort.ahead w n) rfl) with size := Nat.le_refl _, keep := fun _ _ _ => rfl, os := rfl, tape := rfl, output := ⟨rfl, Nat.le_add_right _ _⟩ }
  have s2 := Step.put s1.heap hb ho hown hown' hD hnew
  have s3 : Step D β (objs.set i ob') (putB (Go.Sort.ahead w n) b o') D β (objs.set i ob') (Go.Sort.grow (putB (Go.Sort.ahead w n) b o') os) :=
    Step.ext s2.heap (fun k hk => Go.Sort.heap_grow_old _ _ hk) (by simp) rfl rfl ⟨rfl, Nat.le_refl _⟩ (fun _ _ h => h) (fun ad v h1 h2 => by rw [h2] at h1; cases h1)
  exact (s1.trans s2).trans s3
theorem rt_emp : Rt [] := ⟨by simp, by simp⟩
theorem sortA {cf : FuncId} (hcf : CmpFn cf) (L : List (List Nat)) (hR : ∀ x ∈ L, Rt x) (hl : L.length ≤ 100000) : ∃ L' : List (List Nat), L'.Perm L ∧ L'.Pairwise (fun x y => ¬ cmpL y x < 0) ∧
    ∀ (objs : List Ob) (i : Nat), objs[i]? = some (vecL L) → ACall Tryz.prog 51 [.vs i 5 0 L.length, .d (.fn (.func cf) [] [])] objs (.tup []) (objs.set i (vecL L')) := by
  obtain ⟨d, hd⟩ : ∃ d : List LkT, d.map (·.1) = L := ⟨L.attachWith Rt hR, by simp⟩
  have hds : d.length = L.length := by rw [← hd]; simp
  refine ⟨(d.mergeSort fun x y => !ltOf cfL y x).map (·.1), ?_, ?_, fun objs i hi => ⟨enters_of Tryz.func51 (by kernel_rfl) rfl, fun D β w vs hp hr => ?_⟩⟩
  · rw [← hd]; exact (List.mergeSort_perm d _).map _
  · have := List.pairwise_mergeSort (le := fun x y => !ltOf cfL y x) (fun a b c h1 h2 => by
      simp only [Bool.not_eq_true'] at h1 h2 ⊢
      exact cfL_swo.ntrans _ _ _ h2 h1) (fun a b => by
      cases h1 : ltOf cfL b a with
      | false => rfl
      | true =>
        cases h2 : ltOf cfL a b with
        | false => rfl
        | true => have := cfL_swo.trans _ _ _ h1 h2; rw [cfL_swo.irrefl] at this; cases this) d
    rw [List.pairwise_map]
    refine this.imp fun {a b} h => ?_
    simp only [Bool.not_eq_true'] at h
    exact of_decide_eq_false h
  · generalize hM : (d.mergeSort fun x y => !ltOf cfL y x) = M
    have hMl : M.length = L.length := by rw [← hM, List.length_mergeSort]; exact hds
    obtain ⟨v0, v1, rfl, h0, h1⟩ : ∃ v0 v1, vs = #[v0, v1] ∧ RepA D β (.vs i 5 0 L.length) v0 ∧ RepA D β (.d (.fn (.func cf) [] [])) v1 := by
      obtain ⟨l⟩ := vs
      obtain ⟨h1, h2⟩ := hr
      match l, h1 with
      | [a, b], _ => exact ⟨a, b, rfl, h2 0 _ a rfl rfl, h2 1 _ b rfl rfl⟩
    obtain rfl : v1 = .func (.func cf) #[] #[] := by
      cases h1 with
      | d h1 =>
        cases h1 with
        | @fn _ _ _ a b h1 h2 _ _ =>
          obtain rfl : a = #[] := Array.size_eq_zero_iff.1 h1
          obtain rfl : b = #[] := Array.size_eq_zero_iff.1 h2
          rfl
    cases h0 with
    | @vs _ _ _ _ cap c bi a ad hb hh hc hm hn hx =>
      obtain ⟨e1, e2⟩ := hx (.inl rfl)
      rcases Nat.eq_zero_or_pos L.length with hz | hz
      · have hL : L = [] := List.length_eq_zero_iff.1 hz
        have hM0 : M = [] := List.length_eq_zero_iff.1 (by omega)
        have hset : objs.set i (vecL (M.map (·.1))) = objs := by
          rw [hM0]
          refine List.ext_getElem? fun k => ?_
          by_cases hk : i = k
          · subst hk
            rw [List.getElem?_set_self (List.getElem?_eq_some_iff.1 hi).1, hi, hL]; rfl
          · rw [List.getElem?_set_ne hk]
        rw [hset, hz]
        refine (callsIn_wide (n := 0)).2 ((AnyF.slices_SortFunc_none { Tryz.sortLk with } ad c _ w).mono fun e w' he => ?_)
        obtain ⟨rfl, rfl⟩ := he
        exact .inl ⟨_, D, β, rfl, Step.refl hp, .tup rfl (fun j c v hc => by simp at hc)⟩
      · obtain ⟨a', cap', g1, g2, g3, g4, g5, g6⟩ := hp.hold i bi _ hb hi
        rw [hh] at g1; cases g1
        cases a with
        | none => have := g5 rfl; omega
        | some a0 =>
          obtain ⟨rfl, us, T, ⟨k1, k2⟩, k3, k4, k5, k6⟩ := g6 a0 rfl
          simp only [Option.map_some, Nat.zero_mul] at e1
          subst e1
          have hblk : bi.blk < w.heap.size := (Array.getElem?_eq_some_iff.1 k1).1
          have hsz : d.toArray.size = L.length := by simpa using hds
          have hH : Go.Sort.HoldsK encL 5 w bi.blk 0 d.toArray := by
            intro j hj
            rw [Go.Sort.size_flatK, hsz] at hj
            have hjd : j / 5 < d.length := by omega
            have hx : L[j / 5]? = some (d[j / 5]).1 := by rw [← hd]; simp [hjd]
            obtain ⟨n, n1, n2⟩ := encL_get d[j / 5] (j % 5) (Nat.mod_lt _ (by decide))
            have hju : j < us.size := by have := Nat.mul_le_mul_right 5 g2; omega
            have hv := k4 j (.d (nI n)) us[j] (by rw [List.getElem?_map, flat_at L j _ hx, n1]; rfl) (by simp [hju])
            rw [Go.Sort.get_flatK _ _ _ _ (by rw [hsz]; exact hj)]
            have e3 : d.toArray[j / 5]! = d[j / 5] := by simp [hjd]
            rw [e3, n2]
            refine ⟨?_, ?_⟩
            · simp only [World.cell?, k1, Nat.zero_add]
              rw [show us[j]? = some us[j] by simp [hju]]
              generalize us[j] = u at hv ⊢
              cases hv with
              | d hv => cases hv; rfl
            · simp only [World.frozen?, k1]; simp
          have eg : ∀ args w, (callFunc cf args).run Tryz.prog w = .ok (.enter cf args) w := (hcf [] [] rt_emp rt_emp []).1
          have hcon := AnyQ.slices_SortFunc_total Tryz.sortLk 5 Tryz.isAgg44 Tryz.sizeOf44 encL (fun _ => rfl) (fun x v hv => by simp [encL] at hv; rcases hv with rfl | rfl | rfl | rfl | rfl <;> rfl) cfL cfL_swo cf #[] bi.blk 0 c d.toArray w eg (cmpLaysK hcf bi.blk 0 _ w) hH hblk (by omega) cfL_total
          rw [hsz] at hcon
          refine (callsIn_wide (n := 0)).2 (hcon.mono fun e w' he => ?_)
          obtain ⟨rfl, n, os, rfl⟩ := he
          refine .inl ⟨_, D, β, rfl, ?_, .tup rfl (fun j c v hc => by simp at hc)⟩
          have hMt : (d.toArray.toList.mergeSort fun x y => !ltOf cfL y x) = M := by rw [← hM]
          rw [hMt]
          show Step D β objs w D β _ (Go.Sort.grow (Go.Sort.putRowK encL 5 (Go.Sort.ahead w n) bi.blk 0 M.toArray) os)
          have hMs : M.toArray.size = L.length := by simpa using hMl
          have hput : Go.Sort.putRowK encL 5 (Go.Sort.ahead w n) bi.blk 0 M.toArray = putB (Go.Sort.ahead w n) bi.blk (.cells (Go.Sort.putCells id 0 (Go.Sort.flatK encL 5 M.toArray) us) T (0, 0)) := by
            unfold Go.Sort.putRowK Go.Sort.putRow Go.Sort.mapBlock putB
            congr 1
            refine Array.ext_getElem? fun k => ?_
            rw [Array.getElem?_modify, Array.getElem?_setIfInBounds]
            have kw : (Go.Sort.ahead w n).heap = w.heap := rfl
            rw [kw]
            by_cases hk : bi.blk = k
            · subst hk
              rw [if_pos rfl, if_pos rfl, if_pos hblk, k1]; rfl
            · rw [if_neg hk, if_neg hk]
          rw [hput]
          have own : ∀ Q, ownOf bi (vecL Q) = some bi.blk := fun Q => by simp only [ownOf, hh, Option.bind_some, Option.map_some]
          have hflat : ∀ j, j < L.length * 5 → ∃ m, (flatD ((M.map (·.1)).map lk))[j]? = some (nI m) ∧ (Go.Sort.flatK encL 5 M.toArray)[j]! = vI m := fun j hj => by
            have hjd : j / 5 < M.length := by omega
            obtain ⟨m, n1, n2⟩ := encL_get M[j / 5] (j % 5) (Nat.mod_lt _ (by decide))
            refine ⟨m, ?_, ?_⟩
            · rw [flat_at (M.map (·.1)) j M[j / 5].1 (by simp [hjd]), n1]
            · rw [Go.Sort.get_flatK _ _ _ _ (by rw [hMs]; exact hj)]
              have e3 : M.toArray[j / 5]! = M[j / 5] := by simp [hjd]
              rw [e3, n2]
          refine step_sorted hp hb hi (own L) (fun b' hb' => by rw [own] at hb'; cases hb'; rfl) (fun ad had => k6 ad had) n os ?_
          refine ⟨_, cap, hh, by simpa [hMl] using g2, g3, by rw [List.length_map, flat_len], g5, fun ad e => ?_⟩
          cases e
          have hus : (Go.Sort.putCells id 0 (Go.Sort.flatK encL 5 M.toArray) us).size = us.size := by simp [Go.Sort.putCells]
          have hget : ∀ j, (Go.Sort.putCells id 0 (Go.Sort.flatK encL 5 M.toArray) us)[j]? = us[j]?.map fun x => if j < L.length * 5 then (Go.Sort.flatK encL 5 M.toArray)[j]! else x := fun j => by
            simp only [Go.Sort.putCells, Array.getElem?_mapIdx, Go.Sort.size_flatK, hMs, Nat.zero_le, true_and, Nat.zero_add, Nat.sub_zero, id]
          refine ⟨rfl, _, T, ⟨putB_eq hblk, k2⟩, by rw [hus]; exact k3, fun j c v hc hv => ?_, fun j v hv => ?_, k6⟩
          · rw [List.getElem?_map, Option.map_eq_some_iff] at hc
            obtain ⟨c', hc', rfl⟩ := hc
            have hj : j < L.length * 5 := by
              have := (List.getElem?_eq_some_iff.1 hc').1
              rw [flat_len, List.length_map, hMl] at this; exact this
            obtain ⟨m, m1, m2⟩ := hflat j hj
            rw [m1] at hc'; cases hc'
            rw [hget, Option.map_eq_some_iff] at hv
            obtain ⟨u, _, hv⟩ := hv
            rw [if_pos hj, m2] at hv
            subst hv
            exact .d .int
          · rw [hget, Option.map_eq_some_iff] at hv
            obtain ⟨u, hu, hv⟩ := hv
            by_cases hj : j < L.length * 5
            · obtain ⟨m, m1, m2⟩ := hflat j hj
              rw [if_pos hj, m2] at hv
              subst hv; rfl
            · rw [if_neg hj] at hv
              subst hv; exact k5 j u hu
theorem sortNil {cf : DV} : KnownCall Tryz.prog 51 [.nilsl, cf] (.tup []) := by
  intro o
  refine ⟨enters_of Tryz.func51 (by kernel_rfl) rfl, fun D β w vs hp hr => ?_⟩
  obtain ⟨v0, v1, rfl, h0⟩ : ∃ v0 v1, vs = #[v0, v1] ∧ RepA D β (.d .nilsl) v0 := by
    obtain ⟨l⟩ := vs
    obtain ⟨h1, h2⟩ := hr
    match l, h1 with
    | [a, b], _ => exact ⟨a, b, rfl, h2 0 _ a rfl rfl⟩
  cases h0 with
  | d h0 =>
    cases h0
    refine (callsIn_wide (n := 0)).2 ((AnyF.slices_SortFunc_none { Tryz.sortLk with } none 0 v1 w).mono fun e w' he => ?_)
    obtain ⟨rfl, rfl⟩ := he
    exact .inl ⟨_, D, β, rfl, Step.refl hp, .tup rfl (fun j c v hc => by simp at hc)⟩
theorem chunk5 : ∀ (L : List (List Nat)), chunk true 5 L.length (flatD (L.map lk)) = L.map lk
  | [] => rfl
  | x :: L => by
    have e : flatD ((x :: L).map lk) = lkC x ++ flatD (L.map lk) := by simp [flatD, cellsD]
    rw [e]
    show elemA true 5 (lkC x ++ flatD (L.map lk)) :: chunk true 5 L.length ((lkC x ++ flatD (L.map lk)).drop 5) = _
    rw [show (lkC x ++ flatD (L.map lk)).drop 5 = flatD (L.map lk) from rfl, chunk5 L]
    rfl
theorem allM_d (objs : List Ob) (k : Nat) : ∀ l : List DV, allM (dvOf objs k) (l.map AV.d) = some l
  | [] => rfl
  | x :: l => by simp only [List.map_cons, allM, allM_d objs k l, dvOf]
theorem close_vec {objs : List Ob} {i : Nat} {L : List (List Nat)} (h : objs[i]? = some (vecL L)) : closeA objs 8 (.vs i 5 0 L.length) = some (.d (lks L)) := by
  have e : List.take (L.length * 5) (List.drop (0 * 5) ((flatD (L.map lk)).map AV.d)) = (flatD (L.map lk)).map AV.d := by
    rw [Nat.zero_mul, List.drop_zero]
    exact List.take_of_length_le (by rw [List.length_map, flat_len]; exact Nat.le_refl _)
  have h1 : (Nat.beq 5 5 && Nat.ble (0 + L.length) L.length && Nat.ble 1 5 && (true || Nat.beq 5 1)) = true := by
    rw [Nat.zero_add, Nat.ble_eq_true_of_le (Nat.le_refl L.length)]; rfl
  have h2 : dvOf objs 8 (.vs i 5 0 L.length) = some (lks L) := by
    simp only [dvOf, h]
    rw [if_pos h1, e, allM_d, Option.map_some, chunk5]
  simp only [closeA, h2, Option.map_some]
section
variable {E : PT Ty} {H : Hd} {frz : List Nat} {rd : Operand → AV} {objs : List Ob} {o : Oper} {t kt et : TypeId} {y : Ty} {yt : Ty} {m k st v : Operand} {i j : Nat} {kk d z : DV} {kvs : List (DV × DV)} {r : Option (Nat × DV)}
theorem evK_lookup (hop : o.op = .lookup t m k false) (h1 : E.get? t = some yt) (h2 : yt.desc = .map kt et) (h3 : E.get? et = some y) (hkt : keyT E kt kk = true) (hm : rd m = .mp i) (hi : objs[i]? = some (.map kvs)) (hk : rd k = .d kk)
    (hf : findKV (eqKey E kt) kk kvs = some r) (hz : zeroD y = some z) : evAny E H frz rd objs o = some (.d (match r with | some p => p.2 | none => z), none, true) := by
  obtain ⟨dst, op, ty, pos, after, guard⟩ := o
  obtain ⟨desc, size, bytes, zero⟩ := yt
  simp only at hop h2
  subst hop h2
  simp only [evAny, quiet, evOp, lookupR, h1, hk, h3, hkt, kvsOf, hm, hi, hf]
  cases r with
  | none => simp only [hz, pureR, Option.map_some]
  | some p => obtain ⟨j, v⟩ := p; simp only [pureR, Option.map_some]
end
abbrev CM := List (List Nat × Nat)
theorem eqKeyL (x y : List Nat) (hx : x.length ≤ 4) : eqKey Et 44 (lk x) (lk y) = some (decide (x = y)) := by
  have e1 : eqAgg Et 44 (lkC x) (lkC y) = some (((x.length : Int) == (y.length : Int)) && ((((x.getD 0 0 : Nat) : Int) == ((y.getD 0 0 : Nat) : Int)) && ((((x.getD 1 0 : Nat) : Int) == ((y.getD 1 0 : Nat) : Int)) && ((((x.getD 2 0 : Nat) : Int) == ((y.getD 2 0 : Nat) : Int)) && ((((x.getD 3 0 : Nat) : Int) == ((y.getD 3 0 : Nat) : Int)) && true))) && true)) := rfl
  have e2 : eqCells (lkC x) (lkC y) = some (((x.length : Int) == (y.length : Int)) && ((((x.getD 0 0 : Nat) : Int) == ((y.getD 0 0 : Nat) : Int)) && ((((x.getD 1 0 : Nat) : Int) == ((y.getD 1 0 : Nat) : Int)) && ((((x.getD 2 0 : Nat) : Int) == ((y.getD 2 0 : Nat) : Int)) && ((((x.getD 3 0 : Nat) : Int) == ((y.getD 3 0 : Nat) : Int)) && true))))) := rfl
  show (match eqAgg Et 44 (lkC x) (lkC y), eqCells (lkC x) (lkC y) with
    | some true, some true => some true
    | some false, some false => some false
    | _, _ => none) = _
  rw [e1, e2]
  clear e1 e2
  by_cases h : x = y
  · subst h; simp
  · have hb : ∀ b : Bool, (b = true → x = y) → b = false := fun b hb => by
      cases b with
      | false => rfl
      | true => exact absurd (hb rfl) h
    generalize hB1 : (((x.length : Int) == (y.length : Int)) && ((((x.getD 0 0 : Nat) : Int) == ((y.getD 0 0 : Nat) : Int)) && ((((x.getD 1 0 : Nat) : Int) == ((y.getD 1 0 : Nat) : Int)) && ((((x.getD 2 0 : Nat) : Int) == ((y.getD 2 0 : Nat) : Int)) && ((((x.getD 3 0 : Nat) : Int) == ((y.getD 3 0 : Nat) : Int)) && true))) && true)) = B1
    generalize hB2 : (((x.length : Int) == (y.length : Int)) && ((((x.getD 0 0 : Nat) : Int) == ((y.getD 0 0 : Nat) : Int)) && ((((x.getD 1 0 : Nat) : Int) == ((y.getD 1 0 : Nat) : Int)) && ((((x.getD 2 0 : Nat) : Int) == ((y.getD 2 0 : Nat) : Int)) && ((((x.getD 3 0 : Nat) : Int) == ((y.getD 3 0 : Nat) : Int)) && true))))) = B2
    obtain rfl : B1 = false := hb _ fun he => by
      rw [he] at hB1
      simp only [Bool.and_eq_true, beq_iff_eq] at hB1
      exact lk_inj hx (by omega) (by omega) (by omega) (by omega) (by omega)
    obtain rfl : B2 = false := hb _ fun he => by
      rw [he] at hB2
      simp only [Bool.and_eq_true, beq_iff_eq] at hB2
      exact lk_inj hx (by omega) (by omega) (by omega) (by omega) (by omega)
    simp [h]
theorem keyTL (x : List Nat) : keyT Et 44 (lk x) = true := rfl
def incM : CM → List Nat → CM
  | [], x => [(x, 1)]
  | p :: M, x => if p.1 = x then (p.1, p.2 + 1) :: M else p :: incM M x
def cntM (L : List (List Nat)) : CM := L.foldl incM []
def dst (L : List (List Nat)) : List (List Nat) := (cntM L).map (·.1)
def outX : List (List Nat) → List Ob
  | [] => []
  | x :: r => List.replicate r.length .gone ++ [vecL (x :: r)]
theorem outX_len : ∀ D, (outX D).length = D.length
  | [] => rfl
  | x :: r => by simp [outX]
theorem ref_vec (D : List (List Nat)) (n : Nat) : refOb n (vecL D) = true := by
  simp only [refOb, List.all_map, List.all_eq_true]
  intro x _; rfl
theorem outX_ref (n : Nat) : ∀ D, (outX D).all (refOb n) = true
  | [] => rfl
  | x :: r => by
    simp only [outX, List.all_append, List.all_cons, List.all_nil, ref_vec, Bool.and_true, List.all_eq_true]
    intro o ho
    rw [(List.mem_replicate.1 ho).2]; rfl
section
variable {frz : List Nat} {rd : Operand → AV} {objs : List Ob} {o : Oper}
theorem evAny_appV {args : Array Operand} {tys : Array TypeId} {a b : Operand} {x : List Nat} {i : Nat} {D : List (List Nat)} (hop : o.op = .call ⟨.builtin .append, args, tys⟩) (ha : args.toList = [a, b]) (ht : tys.toList = [35, 35]) (hv : hintV o.dst frz = true)
    (hb : rd b = .d (.sl 5 [lk x])) (h7 : rd a = .vs i 5 0 D.length) (h8 : objs[i]? = some (vecL D)) (hlen : D.length ≤ 16777215) :
    evAny Et H0 frz rd objs o = some (.vs objs.length 5 0 (D.length + 1), some (objs.set i .gone ++ [vecL (D ++ [x])]), true) := by
  obtain ⟨dst, op, ty, pos, after, guard⟩ := o
  simp only at hop hv
  subst hop
  have hs : appSrc0 Et 44 35 (.d (.sl 5 [lk x])) objs = some (5, [lk x]) := rfl
  have e1 : Et.get? 35 = some ty35 := rfl
  have e2 : Et.get? 44 = some ty44 := rfl
  have hf : flatD ((D ++ [x]).map lk) = flatD (D.map lk) ++ flatD [lk x] := by simp [flatD]
  have ht2 : List.take (D.length * 5) ((flatD (D.map lk)).map AV.d) = (flatD (D.map lk)).map AV.d := List.take_of_length_le (by rw [List.length_map, flat_len]; exact Nat.le_refl _)
  have hm : Nat.ble ((D.length + 1) * ty44.bytes) 1099511627776 = true := Nat.ble_eq_true_of_le (Nat.le_trans (Nat.mul_le_mul (show D.length + 1 ≤ 16777216 by omega) (Nat.le_refl _)) (by decide))
  have hn : Nat.ble D.length D.length = true := Nat.ble_eq_true_of_le (Nat.le_refl _)
  simp only [evAny, ha, ht, hv, hb, h7, appendR, e1]
  show Option.map _ (match some ty44, appSrc0 Et 44 35 (.d (.sl 5 [lk x])) objs with
    | some z, some (szx, ys) => _
    | _, _ => none) = _
  rw [hs]
  simp only [h8]
  rw [if_pos (by rfl), if_pos (by rfl)]
  have e3 : (List.take (D.length * 5) ((flatD (D.map lk)).map AV.d) ++ (flatD [lk x]).map AV.d) = (flatD ((D ++ [x]).map lk)).map AV.d := by rw [ht2, hf, List.map_append]
  have e4 : (D ++ [x]).length = D.length + 1 := by simp
  have e5 : vecL (D ++ [x]) = .vec 44 true 5 (D.length + 1) (List.take (D.length * 5) ((flatD (D.map lk)).map AV.d) ++ (flatD [lk x]).map AV.d) := by rw [e3, vecL, e4]
  rw [e5]
  simp only [Option.map_some, List.length_cons, List.length_nil, Nat.zero_add, hn, hm, Bool.and_self]
end
theorem mrg_fuel (s : Bool → Bool → Bool) : ∀ (k : Nat) (a b : List (List Nat)), a.length + b.length ≤ k → mrg s (k + 1) a b = mrg s k a b
  | 0, [], [], _ => rfl
  | 0, _ :: _, _, h => by simp at h
  | 0, [], _ :: _, h => by simp at h
  | k + 1, [], [], _ => rfl
  | k + 1, [], y :: b, h => by
    rw [mrg, mrg, mrg_fuel s k [] b (by simp at h ⊢; omega)]
  | k + 1, x :: a, [], h => by
    rw [mrg, mrg, mrg_fuel s k a [] (by simp at h ⊢; omega)]
  | k + 1, x :: a, y :: b, h => by
    simp only [List.length_cons] at h
    rw [mrg, mrg, mrg_fuel s k a (y :: b) (by simp only [List.length_cons]; omega), mrg_fuel s k (x :: a) b (by simp only [List.length_cons]; omega), mrg_fuel s k a b (by omega)]
abbrev Asc (L : List (List Nat)) : Prop := L.Pairwise fun x y => cmpL x y < 0
theorem cmp_irr {x : List Nat} : ¬ cmpL x x < 0 := by rw [cmpL_self]; decide
theorem cmp_tri (x y : List Nat) : cmpL x y < 0 ∨ x = y ∨ cmpL y x < 0 := by
  by_cases h : cmpL x y = 0
  · exact .inr (.inl (cmpL_eq h))
  · have := cmpL_neg x y; omega
theorem cmp_as {x y : List Nat} (h : cmpL x y < 0) (k : cmpL y x < 0) : False := by
  have := cmpL_neg x y; omega
def ins (x : List Nat) : List (List Nat) → List (List Nat)
  | [] => [x]
  | y :: L => if cmpL x y < 0 then x :: y :: L else if cmpL y x < 0 then y :: ins x L else y :: L
theorem mem_ins {x z : List Nat} : ∀ {L : List (List Nat)}, z ∈ ins x L ↔ z = x ∨ z ∈ L
  | [] => by simp [ins]
  | y :: L => by
    unfold ins
    split
    · simp
    · rename_i h1
      split
      · simp only [List.mem_cons, mem_ins (L := L)]
        constructor
        · rintro (h | h | h) <;> simp [h]
        · rintro (h | h | h) <;> simp [h]
      · rename_i h2
        have : x = y := (cmp_tri x y).elim (fun h => absurd h h1) fun h => h.elim id fun h => absurd h h2
        subst this
        simp
theorem asc_ins {x : List Nat} : ∀ {L : List (List Nat)}, Asc L → Asc (ins x L)
  | [], _ => by simp [ins]
  | y :: L, h => by
    have hc := List.pairwise_cons.1 h
    unfold ins
    split
    · rename_i h1
      refine List.pairwise_cons.2 ⟨fun z hz => ?_, h⟩
      rcases List.mem_cons.1 hz with rfl | hz
      · exact h1
      · exact cmpL_trans h1 (hc.1 z hz)
    · split
      · rename_i h2
        refine List.pairwise_cons.2 ⟨fun z hz => ?_, asc_ins hc.2⟩
        rcases mem_ins.1 hz with rfl | hz
        · exact h2
        · exact hc.1 z hz
      · exact h
def ascOf (E : List (List Nat)) : List (List Nat) := E.foldr ins []
theorem mem_asc {z : List Nat} : ∀ {E : List (List Nat)}, z ∈ ascOf E ↔ z ∈ E
  | [] => by simp [ascOf]
  | x :: E => by
    show z ∈ ins x (ascOf E) ↔ _
    rw [mem_ins, mem_asc, List.mem_cons]
theorem asc_asc : ∀ E : List (List Nat), Asc (ascOf E)
  | [] => List.Pairwise.nil
  | x :: E => asc_ins (asc_asc E)
theorem ins_len (x : List Nat) : ∀ L : List (List Nat), (ins x L).length ≤ L.length + 1
  | [] => by simp [ins]
  | y :: L => by
    unfold ins
    split
    · simp
    · split
      · simp only [List.length_cons]; have := ins_len x L; omega
      · simp
theorem asc_len : ∀ E : List (List Nat), (ascOf E).length ≤ E.length
  | [] => by simp [ascOf]
  | x :: E => by
    have := ins_len x (ascOf E)
    have := asc_len E
    show (ins x (ascOf E)).length ≤ _
    simp only [List.length_cons]; omega
theorem asc_ext : ∀ {A B : List (List Nat)}, Asc A → Asc B → (∀ z, z ∈ A ↔ z ∈ B) → A = B
  | [], [], _, _, _ => rfl
  | [], y :: B, _, _, h => by have := (h y).2 (by simp); simp at this
  | x :: A, [], _, _, h => by have := (h x).1 (by simp); simp at this
  | x :: A, y :: B, ha, hb, h => by
    have ca := List.pairwise_cons.1 ha
    have cb := List.pairwise_cons.1 hb
    have hxy : x = y := by
      rcases List.mem_cons.1 ((h x).1 (by simp)) with h1 | h1
      · exact h1
      · rcases List.mem_cons.1 ((h y).2 (by simp)) with h2 | h2
        · exact h2.symm
        · exact (cmp_as (ca.1 y h2) (cb.1 x h1)).elim
    subst hxy
    congr 1
    refine asc_ext ca.2 cb.2 fun z => ?_
    constructor
    · intro hz
      rcases List.mem_cons.1 ((h z).1 (by simp [hz])) with h1 | h1
      · subst h1; exact (cmp_irr (ca.1 _ hz)).elim
      · exact h1
    · intro hz
      rcases List.mem_cons.1 ((h z).2 (by simp [hz])) with h1 | h1
      · subst h1; exact (cmp_irr (cb.1 _ hz)).elim
      · exact h1
theorem asc_of_sorted {L : List (List Nat)} (h1 : L.Pairwise fun x y => ¬ cmpL y x < 0) (h2 : L.Nodup) : Asc L := by
  refine (h1.and h2).imp fun {a b} h => ?_
  rcases cmp_tri a b with h3 | h3 | h3
  · exact h3
  · exact absurd h3 h.2
  · exact absurd h3 h.1
theorem mrg_sub (s : Bool → Bool → Bool) : ∀ (k : Nat) (a b : List (List Nat)) (z : List Nat), z ∈ mrg s k a b → z ∈ a ∨ z ∈ b
  | 0, _, _, z, h => by simp [mrg] at h
  | k + 1, [], [], z, h => by simp [mrg] at h
  | k + 1, [], y :: b, z, h => by
    simp only [mrg, List.mem_append] at h
    rcases h with h | h
    · split at h <;> simp at h
      simp [h]
    · rcases mrg_sub s k [] b z h with h | h
      · simp at h
      · simp [h]
  | k + 1, x :: a, [], z, h => by
    simp only [mrg, List.mem_append] at h
    rcases h with h | h
    · split at h <;> simp at h
      simp [h]
    · rcases mrg_sub s k a [] z h with h | h
      · simp [h]
      · simp at h
  | k + 1, x :: a, y :: b, z, h => by
    simp only [mrg] at h
    split at h
    · rw [List.mem_append] at h
      rcases h with h | h
      · split at h <;> simp at h
        simp [h]
      · rcases mrg_sub s k a (y :: b) z h with h | h
        · simp [h]
        · exact .inr h
    · split at h
      · rw [List.mem_append] at h
        rcases h with h | h
        · split at h <;> simp at h
          simp [h]
        · rcases mrg_sub s k (x :: a) b z h with h | h
          · exact .inl h
          · simp [h]
      · rw [List.mem_append] at h
        rcases h with h | h
        · split at h <;> simp at h
          simp [h]
        · rcases mrg_sub s k a b z h with h | h <;> simp [h]
theorem mrg_spec (s : Bool → Bool → Bool) : ∀ (k : Nat) (a b : List (List Nat)), a.length + b.length ≤ k → Asc a → Asc b →
    (∀ z, z ∈ mrg s k a b ↔ (z ∈ a ∨ z ∈ b) ∧ s (decide (z ∈ a)) (decide (z ∈ b)) = true) ∧ Asc (mrg s k a b)
  | 0, [], [], _, _, _ => by simp [mrg]
  | 0, _ :: _, _, h, _, _ => by simp at h
  | 0, [], _ :: _, h, _, _ => by simp at h
  | k + 1, [], [], _, _, _ => by simp [mrg]
  | k + 1, [], y :: b, h, ha, hb => by
    have cb := List.pairwise_cons.1 hb
    obtain ⟨h1, h2⟩ := mrg_spec s k [] b (by simp at h ⊢; omega) ha cb.2
    have hy : y ∉ b := fun hm => cmp_irr (cb.1 y hm)
    refine ⟨fun z => ?_, ?_⟩
    · simp only [mrg, List.mem_append, h1]
      by_cases hz : z = y
      · subst hz
        by_cases hs : s false true = true <;> simp [hs, hy]
      · have : (z ∈ if s false true = true then [y] else []) ↔ False := by split <;> simp [hz]
        rw [this]; simp [hz]
    · simp only [mrg]
      refine List.pairwise_append.2 ⟨by split <;> simp, h2, fun u hu v hv => ?_⟩
      have : u = y := by split at hu <;> simp at hu; exact hu
      subst this
      rcases mrg_sub s k [] b v hv with h | h
      · simp at h
      · exact cb.1 v h
  | k + 1, x :: a, [], h, ha, hb => by
    have ca := List.pairwise_cons.1 ha
    obtain ⟨h1, h2⟩ := mrg_spec s k a [] (by simp at h ⊢; omega) ca.2 hb
    have hx : x ∉ a := fun hm => cmp_irr (ca.1 x hm)
    refine ⟨fun z => ?_, ?_⟩
    · simp only [mrg, List.mem_append, h1]
      by_cases hz : z = x
      · subst hz
        by_cases hs : s true false = true <;> simp [hs, hx]
      · have : (z ∈ if s true false = true then [x] else []) ↔ False := by split <;> simp [hz]
        rw [this]; simp [hz]
    · simp only [mrg]
      refine List.pairwise_append.2 ⟨by split <;> simp, h2, fun u hu v hv => ?_⟩
      have : u = x := by split at hu <;> simp at hu; exact hu
      subst this
      rcases mrg_sub s k a [] v hv with h | h
      · exact ca.1 v h
      · simp at h
  | k + 1, x :: a, y :: b, h, ha, hb => by
    have ca := List.pairwise_cons.1 ha
    have cb := List.pairwise_cons.1 hb
    have hx : x ∉ a := fun hm => cmp_irr (ca.1 x hm)
    have hy : y ∉ b := fun hm => cmp_irr (cb.1 y hm)
    simp only [List.length_cons] at h
    rcases cmp_tri x y with hlt | rfl | hgt
    · obtain ⟨h1, h2⟩ := mrg_spec s k a (y :: b) (by simp only [List.length_cons]; omega) ca.2 hb
      have hxb : x ∉ y :: b := fun hm => by
        rcases List.mem_cons.1 hm with e | hm
        · subst e; exact cmp_irr hlt
        · exact cmp_as hlt (cb.1 x hm)
      refine ⟨fun z => ?_, ?_⟩
      · rw [mrg, if_pos hlt, List.mem_append, h1]
        by_cases hz : z = x
        · subst hz
          by_cases hs : s true false = true <;> simp [hs, hx, hxb]
        · have : (z ∈ if s true false = true then [x] else []) ↔ False := by split <;> simp [hz]
          rw [this]; simp [hz]
      · rw [mrg, if_pos hlt]
        refine List.pairwise_append.2 ⟨by split <;> simp, h2, fun u hu v hv => ?_⟩
        have : u = x := by split at hu <;> simp at hu; exact hu
        subst this
        rcases mrg_sub s k a (y :: b) v hv with h | h
        · exact ca.1 v h
        · rcases List.mem_cons.1 h with rfl | h
          · exact hlt
          · exact cmpL_trans hlt (cb.1 v h)
    · obtain ⟨h1, h2⟩ := mrg_spec s k a b (by omega) ca.2 cb.2
      have e0 : ¬ cmpL x x < 0 := cmp_irr
      have e1 : ¬ 0 < cmpL x x := by rw [cmpL_self]; decide
      refine ⟨fun z => ?_, ?_⟩
      · rw [mrg, if_neg e0, if_neg e1, List.mem_append, h1]
        by_cases hz : z = x
        · subst hz
          by_cases hs : s true true = true <;> simp [hs, hx, hy]
        · have : (z ∈ if s true true = true then [x] else []) ↔ False := by split <;> simp [hz]
          rw [this]; simp [hz]
      · rw [mrg, if_neg e0, if_neg e1]
        refine List.pairwise_append.2 ⟨by split <;> simp, h2, fun u hu v hv => ?_⟩
        have : u = x := by split at hu <;> simp at hu; exact hu
        subst this
        rcases mrg_sub s k a b v hv with h | h
        · exact ca.1 v h
        · exact cb.1 v h
    · obtain ⟨h1, h2⟩ := mrg_spec s k (x :: a) b (by simp only [List.length_cons]; omega) ha cb.2
      have e0 : ¬ cmpL x y < 0 := fun h => cmp_as h hgt
      have e1 : 0 < cmpL x y := by have := cmpL_neg y x; omega
      have hya : y ∉ x :: a := fun hm => by
        rcases List.mem_cons.1 hm with e | hm
        · subst e; exact cmp_irr hgt
        · exact cmp_as hgt (ca.1 y hm)
      refine ⟨fun z => ?_, ?_⟩
      · rw [mrg, if_neg e0, if_pos e1, List.mem_append, h1]
        by_cases hz : z = y
        · subst hz
          by_cases hs : s false true = true <;> simp [hs, hy, hya]
        · have : (z ∈ if s false true = true then [y] else []) ↔ False := by split <;> simp [hz]
          rw [this]; simp [hz]
      · rw [mrg, if_neg e0, if_pos e1]
        refine List.pairwise_append.2 ⟨by split <;> simp, h2, fun u hu v hv => ?_⟩
        have : u = y := by split at hu <;> simp at hu; exact hu
        subst this
        rcases mrg_sub s k (x :: a) b v hv with h | h
        · rcases List.mem_cons.1 h with rfl | h
          · exact hgt
          · exact cmpL_trans hgt (ca.1 v h)
        · exact cb.1 v h
theorem mrg_or {a b : List (List Nat)} (ha : Asc a) (hb : Asc b) : mrg (fun _ _ => true) (a.length + b.length) a b = ascOf (a ++ b) := by
  obtain ⟨h1, h2⟩ := mrg_spec (fun _ _ => true) _ a b (Nat.le_refl _) ha hb
  exact asc_ext h2 (asc_asc _) fun z => by rw [h1, mem_asc, List.mem_append]; simp
theorem asc_self {L : List (List Nat)} (h : Asc L) : ascOf L = L := asc_ext (asc_asc _) h fun z => mem_asc
theorem mem_prs {k : Nat} {a b : List (List Nat)} {z : List Nat} : z ∈ prs k a b ↔ ∃ x ∈ a, ∃ y ∈ b, z = (x ++ y).take k := by
  simp only [prs, List.mem_flatMap, List.mem_map]
  constructor
  · rintro ⟨x, hx, y, hy, rfl⟩; exact ⟨x, hx, y, hy, rfl⟩
  · rintro ⟨x, hx, y, hy, rfl⟩; exact ⟨x, hx, y, hy, rfl⟩
theorem rt_take {k : Nat} (hk : k ≤ 4) {x y : List Nat} (hx : ∀ t ∈ x, t < 8) (hy : ∀ t ∈ y, t < 8) : Rt ((x ++ y).take k) :=
  ⟨by rw [List.length_take]; omega, fun t ht => (List.mem_append.1 (List.mem_of_mem_take ht)).elim (hx t) (hy t)⟩
theorem prs_rt {k : Nat} (hk : k ≤ 4) {a b : List (List Nat)} (ha : ∀ x ∈ a, Rt x) (hb : ∀ x ∈ b, Rt x) : ∀ z ∈ prs k a b, Rt z := fun z hz => by
  obtain ⟨x, hx, y, hy, rfl⟩ := mem_prs.1 hz
  exact rt_take hk (ha x hx).lt (hb y hy).lt
theorem rt_nil : ∀ x ∈ [([] : List Nat)], Rt x := fun x hx => by simp at hx; subst hx; exact ⟨by simp, by simp⟩
def cutS (k : Nat) (a : List (List Nat)) : List (List Nat) := ascOf (prs k a [[]])
def sumS (k : Nat) (a b : List (List Nat)) : List (List Nat) := ascOf (prs k (cutS k a) (cutS k b))
theorem cutS_len (k : Nat) (a : List (List Nat)) : (cutS k a).length ≤ a.length := by
  have := asc_len (prs k a [[]]); rw [prs_len] at this; simpa [cutS] using this
theorem cutS_rt {k : Nat} (hk : k ≤ 4) {a : List (List Nat)} (ha : ∀ x ∈ a, Rt x) : ∀ z ∈ cutS k a, Rt z := fun z hz => prs_rt hk ha rt_nil z (mem_asc.1 hz)
def chkG (t : Int) : Option Raw → List Raw → Int
  | _, [] => 0
  | none, r :: L => if chkR r t = 0 then chkG t (some r) L else chkR r t
  | some q, r :: L => if chkR r t = 0 then (if 0 ≤ cmpL (dec q) (dec r) then 9 else chkG t (some r) L) else chkR r t
def chkS (t : Int) (L : List Raw) : Int := if t < 1 ∨ 8 < t then 2 else if 4681 < L.length then 6 else chkG t none L
theorem chkG_nil (t : Int) (p : Option Raw) : chkG t p [] = 0 := by cases p <;> rfl
theorem chkG_bad {t : Int} {p : Option Raw} {r : Raw} {L : List Raw} (h : chkR r t ≠ 0) : chkG t p (r :: L) = chkR r t := by cases p <;> simp [chkG, h]
theorem range8 (t : Int) : KnownCall Tryz.prog 86 [iI t] (.d (iI (if t < 1 ∨ 8 < t then 2 else 0))) := by
  by_cases h1 : t < 1 ∨ 8 < t
  · rw [if_pos h1]
    refine kF Tryz.func86 [] fun w => ?_
    repeat' (first
      | refine zW ?_
      | refine zB ?_ ?_ <;> intro h <;> try exact zk h
      | rfl
      | ((exfalso; simp only [decide_eq_true_eq, decide_eq_false_iff_not] at *; omega))
      | fail)
  · rw [if_neg h1]
    refine kF Tryz.func86 [] fun w => ?_
    repeat' (first
      | refine zW ?_
      | refine zB ?_ ?_ <;> intro h <;> try exact zk h
      | rfl
      | ((exfalso; simp only [decide_eq_true_eq, decide_eq_false_iff_not] at *; omega))
      | fail)
theorem checkRef (t : Int) (L : List Raw) (hl : L.length ≤ 1048576) : KnownCall Tryz.prog 87 [iI t, rws L] (.d (iI (chkS t L))) := by
  have c0 := range8 t
  by_cases h1 : t < 1 ∨ 8 < t
  · rw [show chkS t L = 2 by unfold chkS; rw [if_pos h1]]
    rw [if_pos h1] at c0
    refine kF Tryz.func87 [] fun w => ?_
    repeat' (first
      | refine zW ?_
      | refine zB ?_ ?_ <;> intro h <;> try exact zk h
      | refine zC (c0) ?_
      | rfl
      | fail)
  have hu : chkS t L = if 4681 < L.length then 6 else chkG t none L := by unfold chkS; rw [if_neg h1]
  rw [if_neg h1] at c0
  by_cases h2 : 4681 < L.length
  · rw [show chkS t L = 6 by rw [hu, if_pos h2]]
    refine kF Tryz.func87 [] fun w => ?_
    repeat' (first
      | refine zW ?_
      | refine zB ?_ ?_ <;> intro h <;> try exact zk h
      | refine zC (c0) ?_
      | rfl
      | ((exfalso; simp only [List.length_map, decide_eq_true_eq, decide_eq_false_iff_not] at *; omega))
      | fail)
  rw [show chkS t L = chkG t none L by rw [hu, if_neg h2]]
  generalize hR : chkG t none L = R
  refine kF Tryz.func87 [] fun w => ?_
  repeat' (first
    | refine zW ?_
    | refine zB ?_ ?_ <;> intro h <;> try exact zk h
    | refine zC (c0) ?_
    | ((exfalso; simp only [List.length_map, decide_eq_true_eq, decide_eq_false_iff_not] at *; omega))
    | fail)
  refine Run.loopT (fun i : Nat => ⟨PT.ofList [(0, .d (iI t)), (1, .d (rws L)), (6, .d (nI i))], [], []⟩) (fun i => i ≤ L.length ∧ chkG t (pv L i) (L.drop i) = R ∧ ∀ q, pv L i = some q → chkR q t = 0) (fun i => L.length - i) 0 ⟨Nat.zero_le _, hR, by simp [pv]⟩ (ti _ 0) (fun i hi => ?_)
  obtain ⟨hi1, hi2, hi3⟩ := hi
  rcases Nat.lt_or_ge i L.length with hlt | hge
  · obtain ⟨r, hr⟩ := get_ok hlt
    have c1 := chkRef r t
    rw [drop_at hr] at hi2
    by_cases h0 : chkR r t = 0
    · rw [h0] at c1
      have hpn : pv L (i + 1) = some r := hr
      rcases i with _ | i
      · have hp1 : pv L 1 = some r := hr
        have hg : chkG t (pv L 1) (L.drop 1) = R := by rw [hp1, ← hi2]; simp [pv, chkG, h0]
        repeat' (first
          | refine zW ?_
          | refine zB ?_ ?_ <;> intro h <;> try exact zk h
          | refine zC (c1) ?_
          | refine zI w (.d (.ep (rwC r))) hr ?_
          | (exact ⟨1, ⟨hlt, hg, fun q e => by rw [hp1] at e; cases e; exact h0⟩, by omega, (ti _ 0)⟩)
          | ((exfalso; simp only [List.length_map, decide_eq_true_eq, decide_eq_false_iff_not] at *; omega))
          | fail)
      · obtain ⟨q, hq⟩ := get_ok (show i < L.length by omega)
        have hq0 := hi3 q hq
        have hpq : pv L (i + 1) = some q := hq
        rw [hpq] at hi2
        obtain ⟨_, _, x, hx, e1, _⟩ := chkR_raw hq0
        obtain ⟨_, _, y, hy, e2, _⟩ := chkR_raw h0
        have c2 := compareS14 x y hx hy
        have hdx : dec q = x := by rw [e1, dec_of hx.len]
        have hdy : dec r = y := by rw [e2, dec_of hy.len]
        simp only [chkG, h0, if_true, hdx, hdy] at hi2
        have hsub : AV.d (.int .i64 (IntKind.i64.wrap (((i + 1 : Nat) : Int) - 1))) = .d (nI i) := by
          congr 2; rw [show ((i + 1 : Nat) : Int) - 1 = (i : Nat) by omega]; exact wrap_nat (by omega)
        have hp2 : pv L (i + 2) = some r := hr
        have hgo : ¬ 0 ≤ cmpL x y → chkG t (pv L (i + 2)) (L.drop (i + 2)) = R := fun h => by rw [if_neg h] at hi2; rw [hp2]; exact hi2
        have hbd : 0 ≤ cmpL x y → 9 = R := fun h => by rw [if_pos h] at hi2; exact hi2
        subst e1 e2
        repeat' (first
          | refine zV hsub ?_
          | refine zW ?_
          | refine zB ?_ ?_ <;> intro h <;> try exact zk h
          | refine zC (c1) ?_
          | refine zC (c2) ?_
          | refine zI w (.d (.ep (lkC y))) hr ?_
          | refine zI w (.d (.ep (lkC x))) hq ?_
          | (show _ = _; rw [hbd (by simp only [decide_eq_true_eq] at *; assumption)])
          | (exact ⟨i + 2, ⟨hlt, hgo (by simp only [decide_eq_false_iff_not] at *; assumption), fun q e => by rw [hp2] at e; cases e; exact h0⟩, by omega, (ti _ 0)⟩)
          | ((exfalso; simp only [List.length_map, decide_eq_true_eq, decide_eq_false_iff_not] at *; omega))
          | fail)
    · rw [chkG_bad h0] at hi2
      rw [hi2] at c1
      have hR0 : R ≠ 0 := by rw [← hi2]; exact h0
      repeat' (first
        | refine zW ?_
        | refine zB ?_ ?_ <;> intro h <;> try exact zk h
        | refine zC (c1) ?_
        | refine zI w (.d (.ep (rwC r))) hr ?_
        | rfl
        | ((exfalso; first | exact hR0 (by simpa using h) | (simp only [List.length_map, decide_eq_true_eq, decide_eq_false_iff_not] at *; omega)))
        | fail)
  · have hie : i = L.length := by omega
    subst hie
    rw [List.drop_length, chkG_nil] at hi2
    subst hi2
    repeat' (first
      | refine zW ?_
      | refine zB ?_ ?_ <;> intro h <;> try exact zk h
      | rfl
      | ((exfalso; simp only [List.length_map, decide_eq_true_eq, decide_eq_false_iff_not] at *; omega))
      | fail)
def bothS (t : Int) (a b : List Raw) : Int := if chkS t a = 0 then chkS t b else chkS t a
def rngS (e k : Int) : Int := if e = 0 ∧ (k < 1 ∨ 4 < k) then 2 else e
theorem bothRef14 (t : Int) (a b : List Raw) (ha : a.length ≤ 1048576) (hb : b.length ≤ 1048576) : KnownCall Tryz.prog 111 [iI t, rws a, rws b] (.d (iI (bothS t a b))) := by
  have c1 := checkRef t a ha
  have c2 := checkRef t b hb
  by_cases h0 : chkS t a = 0
  · rw [show bothS t a b = chkS t b by unfold bothS; rw [if_pos h0]]
    rw [h0] at c1
    refine kF Tryz.func111 [] fun w => ?_
    repeat' (first
      | refine zW ?_
      | refine zB ?_ ?_ <;> intro h <;> try exact zk h
      | refine zC (c1) ?_
      | refine zC (c2) ?_
      | rfl
      | fail)
  · rw [show bothS t a b = chkS t a by unfold bothS; rw [if_neg h0]]
    generalize chkS t a = e at *
    refine kF Tryz.func111 [] fun w => ?_
    repeat' (first
      | refine zW ?_
      | refine zB ?_ ?_ <;> intro h <;> try exact zk h
      | refine zC (c1) ?_
      | rfl
      | ((exfalso; exact h0 (by simpa using h)))
      | fail)
theorem rangedRef (e k : Int) : KnownCall Tryz.prog 110 [iI e, iI k] (.d (iI (rngS e k))) := by
  by_cases h0 : e = 0
  · subst h0
    by_cases h1 : k < 1 ∨ 4 < k
    · rw [show rngS 0 k = 2 by unfold rngS; rw [if_pos ⟨rfl, h1⟩]]
      refine kF Tryz.func110 [] fun w => ?_
      repeat' (first
        | refine zW ?_
        | refine zB ?_ ?_ <;> intro h <;> try exact zk h
        | rfl
        | ((exfalso; simp only [decide_eq_true_eq, decide_eq_false_iff_not] at *; omega))
        | fail)
    · rw [show rngS 0 k = 0 by unfold rngS; rw [if_neg (fun h => h1 h.2)]]
      refine kF Tryz.func110 [] fun w => ?_
      repeat' (first
        | refine zW ?_
        | refine zB ?_ ?_ <;> intro h <;> try exact zk h
        | rfl
        | ((exfalso; simp only [decide_eq_true_eq, decide_eq_false_iff_not] at *; omega))
        | fail)
  · rw [show rngS e k = e by unfold rngS; rw [if_neg (fun h => h0 h.1)]]
    refine kF Tryz.func110 [] fun w => ?_
    repeat' (first
      | refine zW ?_
      | refine zB ?_ ?_ <;> intro h <;> try exact zk h
      | rfl
      | ((exfalso; exact h0 (by simpa using h)))
      | fail)
abbrev mrgU (a b : List (List Nat)) : List (List Nat) := mrg (fun _ _ => true) (a.length + b.length) a b
set_option maxHeartbeats 1000000 in
theorem mergeRef (a b : List (List Nat)) (ha : ∀ x ∈ a, Rt x) (hb : ∀ x ∈ b, Rt x) (hl : a.length + b.length ≤ 100000) : KnownCall Tryz.prog 88 [lks a, lks b] (.d (lks (mrgU a b))) := by
  generalize hR : mrgU a b = R
  refine kF Tryz.func88 [34, 44] fun w => ?_
  repeat' (first
    | refine zW ?_
    | refine zB ?_ ?_ <;> intro h <;> try exact zk h
    | refine zX ?_
    | fail)
  refine Run.mkRoom 5 5 [(0, .d (lks a)), (1, .d (lks b)), (5, .sr 0 5 [])] rfl (ofList_cases (by intro p hp; simp at hp; rcases hp with rfl | rfl | rfl; exact .inr (by kernel_rfl); exact .inr (by kernel_rfl); exact .inl ⟨rfl, rfl⟩)) ?_
  refine Run.loopT (fun y : List (List Nat) × List (List Nat) × List DV => ⟨PT.ofList [(0, .d (lks y.1)), (1, .d (lks y.2.1)), (5, .sr 0 5 y.2.2)], [.room y.2.2.length 5], []⟩)
    (fun y => (∀ x ∈ y.1, Rt x) ∧ (∀ x ∈ y.2.1, Rt x) ∧ y.1.length + y.2.1.length + y.2.2.length ≤ 100000 ∧ y.2.2 ++ (mrgU y.1 y.2.1).map lk = R.map lk) (fun y => y.1.length + y.2.1.length) (a, b, []) ⟨ha, hb, by simpa using hl, by rw [hR]; rfl⟩ (ti _ 1) (fun y hy => ?_)
  obtain ⟨a, b, acc⟩ := y
  obtain ⟨ha, hb, hal, hacc⟩ := hy
  simp only [mrgU] at ha hb hal hacc ⊢
  match a, b, ha, hb, hal, hacc with
  | [], [], ha, hb, hal, hacc =>
    have he : acc = R.map lk := by simpa [mrg] using hacc
    subst he
    repeat' (first
      | refine zW ?_
      | refine zB ?_ ?_ <;> intro h <;> try exact zk h
      | refine zX ?_
      | rfl
      | fail)
  | [], y :: b, ha, hb, hal, hacc =>
    have hy0 : (y :: b)[0]? = some y := rfl
    have hb' : ∀ x ∈ b, Rt x := fun x hx => hb x (by simp [hx])
    simp only [mrg, List.length_nil, List.length_cons, Nat.zero_add] at hacc hal
    have g1 : (acc ++ [lk y]) ++ (mrgU [] b).map lk = R.map lk := by simpa [mrgU] using hacc
    repeat' (first
      | refine zW ?_
      | refine zB ?_ ?_ <;> intro h <;> try exact zk h
      | refine zX ?_
      | refine zI w (.d (.ep (lkC y))) hy0 ?_
      | refine zCut rfl ?_
      | refine zAp ?_
      | rfl
      | (exact ⟨([], b, acc ++ [lk y]), ⟨ha, hb', by simp only [List.length_append, List.length_cons, List.length_nil]; omega, g1⟩, by simp, (ti _ 1 (Eq.trans (b := [.room (acc.length + 1) 5]) rfl (by simp)))⟩)
      | fail)
  | x :: a, [], ha, hb, hal, hacc =>
    have hx0 : (x :: a)[0]? = some x := rfl
    have ha' : ∀ x ∈ a, Rt x := fun y hy => ha y (by simp [hy])
    simp only [mrg, List.length_nil, List.length_cons, Nat.add_zero] at hacc hal
    have g1 : (acc ++ [lk x]) ++ (mrgU a []).map lk = R.map lk := by simpa [mrgU] using hacc
    repeat' (first
      | refine zW ?_
      | refine zB ?_ ?_ <;> intro h <;> try exact zk h
      | refine zX ?_
      | refine zI w (.d (.ep (lkC x))) hx0 ?_
      | refine zCut rfl ?_
      | refine zAp ?_
      | rfl
      | (exact ⟨(a, [], acc ++ [lk x]), ⟨ha', hb, by simp only [List.length_append, List.length_cons, List.length_nil]; omega, g1⟩, by simp, (ti _ 1 (Eq.trans (b := [.room (acc.length + 1) 5]) rfl (by simp)))⟩)
      | fail)
  | x :: a, y :: b, ha, hb, hal, hacc =>
    have hx0 : (x :: a)[0]? = some x := rfl
    have hy0 : (y :: b)[0]? = some y := rfl
    have ha' : ∀ x ∈ a, Rt x := fun y hy => ha y (by simp [hy])
    have hb' : ∀ x ∈ b, Rt x := fun x hx => hb x (by simp [hx])
    have hc := compareS14 x y (ha x (by simp)) (hb y (by simp))
    have el : (x :: a).length + (y :: b).length = (a.length + b.length + 1) + 1 := by simp only [List.length_cons]; omega
    rw [el] at hacc
    simp only [List.length_cons] at hal
    rcases Int.lt_trichotomy (cmpL x y) 0 with hlt | heq | hgt
    · simp only [mrg, if_pos hlt] at hacc
      have e2 : a.length + (y :: b).length = a.length + b.length + 1 := by simp only [List.length_cons]; omega
      have g1 : (acc ++ [lk x]) ++ (mrgU a (y :: b)).map lk = R.map lk := by unfold mrgU; rw [e2]; simpa using hacc
      generalize cmpL x y = cv at hc hlt
      repeat' (first
        | refine zW ?_
        | refine zB ?_ ?_ <;> intro h <;> try exact zk h
        | refine zX ?_
        | refine zC (hc) ?_
        | refine zI w (.d (.ep (lkC x))) hx0 ?_
        | refine zI w (.d (.ep (lkC y))) hy0 ?_
        | refine zCut rfl ?_
        | refine zAp ?_
        | rfl
        | (exact ⟨(a, y :: b, acc ++ [lk x]), ⟨ha', hb, by simp only [List.length_append, List.length_cons, List.length_nil]; omega, g1⟩, by simp, (ti _ 1 (Eq.trans (b := [.room (acc.length + 1) 5]) rfl (by simp)))⟩)
        | ((exfalso; simp only [decide_eq_true_eq, decide_eq_false_iff_not] at *; omega))
        | fail)
    · obtain rfl := cmpL_eq heq
      simp only [mrg, heq, Int.lt_irrefl, if_false] at hacc
      have g1 : (acc ++ [lk x]) ++ (mrgU a b).map lk = R.map lk := by unfold mrgU; rw [← mrg_fuel _ _ a b (Nat.le_refl _)]; simpa using hacc
      rw [heq] at hc
      repeat' (first
        | refine zW ?_
        | refine zB ?_ ?_ <;> intro h <;> try exact zk h
        | refine zX ?_
        | refine zC (hc) ?_
        | refine zI w (.d (.ep (lkC x))) hx0 ?_
        | refine zI w (.d (.ep (lkC x))) hy0 ?_
        | refine zCut rfl ?_
        | refine zAp ?_
        | rfl
        | (exact ⟨(a, b, acc ++ [lk x]), ⟨ha', hb', by simp only [List.length_append, List.length_cons, List.length_nil]; omega, g1⟩, by simp only [List.length_cons]; omega, (ti _ 1 (Eq.trans (b := [.room (acc.length + 1) 5]) rfl (by simp)))⟩)
        | fail)
    · simp only [mrg, if_neg (Int.not_lt.2 (Int.le_of_lt hgt)), if_pos hgt] at hacc
      have e2 : (x :: a).length + b.length = a.length + b.length + 1 := by simp only [List.length_cons]; omega
      have g1 : (acc ++ [lk y]) ++ (mrgU (x :: a) b).map lk = R.map lk := by unfold mrgU; rw [e2]; simpa using hacc
      generalize cmpL x y = cv at hc hgt
      repeat' (first
        | refine zW ?_
        | refine zB ?_ ?_ <;> intro h <;> try exact zk h
        | refine zX ?_
        | refine zC (hc) ?_
        | refine zI w (.d (.ep (lkC x))) hx0 ?_
        | refine zI w (.d (.ep (lkC y))) hy0 ?_
        | refine zCut rfl ?_
        | refine zAp ?_
        | rfl
        | (exact ⟨(x :: a, b, acc ++ [lk y]), ⟨ha, hb', by simp only [List.length_append, List.length_cons, List.length_nil]; omega, g1⟩, by simp only [List.length_cons]; omega, (ti _ 1 (Eq.trans (b := [.room (acc.length + 1) 5]) rfl (by simp)))⟩)
        | ((exfalso; simp only [decide_eq_true_eq, decide_eq_false_iff_not] at *; omega))
        | fail)
theorem asc_app2 {A B : List (List Nat)} : ascOf (ascOf A ++ ascOf B) = ascOf (A ++ B) := asc_ext (asc_asc _) (asc_asc _) fun z => by simp only [mem_asc, List.mem_append]
theorem mergeAsc (A B : List (List Nat)) (hA : ∀ x ∈ A, Rt x) (hB : ∀ x ∈ B, Rt x) (hl : A.length + B.length ≤ 100000) : KnownCall Tryz.prog 88 [lks (ascOf A), lks (ascOf B)] (.d (lks (ascOf (A ++ B)))) := by
  have h1 := asc_len A
  have h2 := asc_len B
  have := mergeRef (ascOf A) (ascOf B) (fun x hx => hA x (mem_asc.1 hx)) (fun x hx => hB x (mem_asc.1 hx)) (by omega)
  rwa [mrgU, mrg_or (asc_asc _) (asc_asc _), asc_app2] at this
theorem half (n : Nat) (h : n ≤ 1048576) : AV.d (.int .i64 (IntKind.i64.wrap (Int.tdiv (n : Int) 2))) = .d (nI (n / 2)) := by
  congr 2
  rw [show Int.tdiv (n : Int) 2 = ((n / 2 : Nat) : Int) by rw [Int.tdiv_eq_ediv_of_nonneg (by omega)]; omega]
  exact wrap_nat (by omega)
theorem sortedOne (l : List (List Nat)) (h : l.length < 2) : KnownCall Tryz.prog 114 [lks l] (.d (lks l)) := by
  have w : Fz [] := trivial
  refine knownE2 Et_ok (fnB Tryz.func114 []) ?_
  repeat' (first
    | refine zW ?_
    | refine zB ?_ ?_ <;> intro h <;> try exact zk h
    | refine zAp ?_
    | (refine Run.ret ?_; refine r2 ?_; first | done | (exact .refl))
    | ((exfalso; simp only [List.length_map, decide_eq_true_eq, decide_eq_false_iff_not] at *; omega))
    | fail)
theorem sortedRef : ∀ (n : Nat) (l : List (List Nat)), l.length ≤ n → n ≤ 100000 → (∀ x ∈ l, Rt x) → KnownCall Tryz.prog 114 [lks l] (.d (lks (ascOf l)))
  | 0, l, h, _, _ => by
    have e : l = [] := List.length_eq_zero_iff.1 (by omega)
    subst e; exact sortedOne [] (by simp)
  | n + 1, l, h, hn, hR => by
    by_cases h2 : l.length < 2
    · have e : ascOf l = l := by
        match l, h2 with
        | [], _ => rfl
        | [x], _ => rfl
      rw [e]; exact sortedOne l h2
    have c1 := sortedRef n (l.take (l.length / 2)) (by rw [List.length_take]; omega) (by omega) fun x hx => hR x (List.mem_of_mem_take hx)
    have c2 := sortedRef n (l.drop (l.length / 2)) (by rw [List.length_drop]; omega) (by omega) fun x hx => hR x (List.mem_of_mem_drop hx)
    have c3 := mergeAsc (l.take (l.length / 2)) (l.drop (l.length / 2)) (fun x hx => hR x (List.mem_of_mem_take hx)) (fun x hx => hR x (List.mem_of_mem_drop hx)) (by rw [List.length_take, List.length_drop]; omega)
    rw [List.take_append_drop] at c3
    have hv : AV.d (.int .i64 (IntKind.i64.wrap (Int.tdiv ((l.map lk).length : Nat) 2))) = .d (nI (l.length / 2)) := by rw [List.length_map]; exact half l.length (by omega)
    have k1 : AV.d (.sl 5 (cutL none (some ((l.length / 2 : Nat) : Int)) (l.map lk))) = .d (lks (l.take (l.length / 2))) := by simp only [cutL, Int.toNat_natCast]; rw [← List.map_take]
    have k2 : AV.d (.sl 5 (cutL (some ((l.length / 2 : Nat) : Int)) none (l.map lk))) = .d (lks (l.drop (l.length / 2))) := by simp only [cutL, Int.toNat_natCast]; rw [← List.map_drop]
    generalize ascOf (l.take (l.length / 2)) = A1 at *
    generalize ascOf (l.drop (l.length / 2)) = A2 at *
    generalize ascOf l = A3 at *
    have hm : l.length / 2 ≤ (l.map lk).length := by rw [List.length_map]; omega
    have hml : (l.map lk).length = l.length := List.length_map _
    generalize hmd : l.length / 2 = m at *
    refine kF Tryz.func114 [] fun w => ?_
    repeat' (first
      | refine zV hv ?_
      | refine zW ?_
      | refine zB ?_ ?_ <;> intro h <;> try exact zk h
      | refine zC (c1) ?_
      | refine zC (c2) ?_
      | refine zC (c3) ?_
      | refine zCut k1 ?_
      | refine zCut k2 ?_
      | rfl
      | ((exfalso; simp only [List.length_map, decide_eq_true_eq, decide_eq_false_iff_not] at *; omega))
      | fail)
theorem joinS (k : Nat) (hk1 : 1 ≤ k) (hk : k ≤ 4) (x y : List Nat) (hx : Rt x) (hy : Rt y) : KnownCall Tryz.prog 113 [nI k, lk x, lk y] (.d (lk ((x ++ y).take k))) := by
  have c := joinRef k hk1 hk x y hx hy
  refine kF Tryz.func113 [4, 5] fun w => ?_
  repeat' (first
    | refine zW ?_
    | refine zB ?_ ?_ <;> intro h <;> try exact zk h
    | refine zX ?_
    | refine zC (c) ?_
    | rfl
    | fail)
theorem prs_one (k : Nat) (a : List (List Nat)) : prs k a [[]] = a.map fun x => (x ++ []).take k := by
  induction a with
  | nil => rfl
  | cons x a ih => simp only [prs, List.flatMap_cons, List.map_cons, List.map_nil, List.singleton_append] at ih ⊢; rw [ih]
theorem rws_of (L : List (List Nat)) : rws (L.map rawOf) = lks L := by
  unfold rws lks; rw [List.map_map]; rfl
theorem cutIn (k : Nat) (hk1 : 1 ≤ k) (hk : k ≤ 4) (a : List (List Nat)) (hR : ∀ x ∈ a, Rt x) (hl : a.length ≤ 100000) : KnownCall Tryz.prog 112 [nI k, lks a] (.d (lks (cutS k a))) := by
  have hR1 := prs_rt hk hR rt_nil
  have hl1 : (prs k a [[]]).length = a.length := by rw [prs_len]; simp
  have c2 := sortedRef _ (prs k a [[]]) (Nat.le_refl _) (by omega) hR1
  change KnownCall _ _ _ (.d (lks (cutS k a))) at c2
  rw [prs_one] at c2
  generalize cutS k a = ca at *
  refine kF Tryz.func112 [21] fun w => ?_
  repeat' (first
    | refine zW ?_
    | refine zB ?_ ?_ <;> intro h <;> try exact zk h
    | fail)
  refine Run.mkRoom 5 5 [(0, .d (nI k)), (1, .d (lks a)), (5, .sr 0 5 []), (6, .d (.int .i64 0))] rfl (ofList_cases (by intro p hp; simp only [List.mem_cons, List.not_mem_nil, or_false] at hp; rcases hp with rfl | rfl | rfl | rfl; exact .inr (by kernel_rfl); exact .inr (by kernel_rfl); exact .inl ⟨rfl, rfl⟩; exact .inr (by kernel_rfl))) ?_
  refine Run.loopT (fun y : Nat × List DV => ⟨PT.ofList [(0, .d (nI k)), (1, .d (lks a)), (5, .sr 0 5 y.2), (6, .d (nI y.1))], [.room y.2.length 5], []⟩) (fun y => y.1 ≤ a.length ∧ y.2 = (a.take y.1).map fun x => lk ((x ++ []).take k)) (fun y => a.length - y.1) (0, []) ⟨Nat.zero_le _, rfl⟩ (ti _ 1) (fun y hy => ?_)
  obtain ⟨i, acc⟩ := y
  obtain ⟨h1, h2⟩ := hy
  simp only at h1 h2 ⊢
  have hal : acc.length ≤ i := by rw [h2]; simp; omega
  rcases Nat.lt_or_ge i a.length with hlt | hge
  · obtain ⟨x, hx⟩ := get_ok hlt
    have hnx : acc ++ [lk ((x ++ []).take k)] = (a.take (i + 1)).map fun x => lk ((x ++ []).take k) := by rw [List.take_add_one, hx, h2]; simp
    have c1 := joinS k hk1 hk x [] (hR x (List.mem_of_getElem? hx)) ⟨by simp, by simp⟩
    generalize (x ++ []).take k = z at *
    repeat' (first
      | refine zW ?_
      | refine zB ?_ ?_ <;> intro h <;> try exact zk h
      | refine zC (c1) ?_
      | refine zI w (.d (.ep (lkC x))) hx ?_
      | refine zAp ?_
      | rfl
      | (exact ⟨(i + 1, acc ++ [lk z]), ⟨hlt, hnx⟩, by simp only []; omega, (ti _ 1 (Eq.trans (b := [.room (acc.length + 1) 5]) rfl (by simp)))⟩)
      | ((exfalso; simp only [List.length_map, decide_eq_true_eq, decide_eq_false_iff_not] at *; omega))
      | fail)
  · have hie : i = a.length := by omega
    have he : acc = (a.map fun x => (x ++ []).take k).map lk := by rw [h2, hie, List.take_length, List.map_map]; rfl
    subst he
    repeat' (first
      | refine zW ?_
      | refine zB ?_ ?_ <;> intro h <;> try exact zk h
      | refine zM (c2) ?_
      | rfl
      | ((exfalso; simp only [List.length_map, decide_eq_true_eq, decide_eq_false_iff_not] at *; omega))
      | fail)
theorem prs_next {k i : Nat} {a b : List (List Nat)} {x : List Nat} (h : a[i]? = some x) : prs k (a.take (i + 1)) b = prs k (a.take i) b ++ b.map fun y => (x ++ y).take k := by
  rw [List.take_add_one, h]; simp [prs]
theorem asc_full {k : Nat} {x : List Nat} (hx : x.length = k) {P b : List (List Nat)} (hb : b ≠ []) : ascOf (P ++ [x]) = ascOf (P ++ b.map fun y => (x ++ y).take k) := by
  refine asc_ext (asc_asc _) (asc_asc _) fun z => ?_
  have e : ∀ y : List Nat, (x ++ y).take k = x := fun y => by rw [← hx, List.take_left']; rfl
  simp only [mem_asc, List.mem_append, List.mem_singleton, List.mem_map, e]
  constructor
  · rintro (h | h)
    · exact .inl h
    · obtain ⟨y, l, rfl⟩ := List.exists_cons_of_ne_nil hb
      exact .inr ⟨y, by simp, h.symm⟩
  · rintro (h | ⟨_, _, h⟩)
    · exact .inl h
    · exact .inr h.symm
set_option maxHeartbeats 1000000 in
theorem sumRef0 (t : Int) (k : Nat) (hk1 : 1 ≤ k) (hk : k ≤ 4) (n : Nat) (a b : List (List Nat)) (hA : SetOK n a) (hB : SetOK n b) (hab : a.length * b.length ≤ 90000) (h0 : bothS t (a.map rawOf) (b.map rawOf) = 0) :
    KnownCall Tryz.prog 89 [iI t, nI k, lks a, lks b] (.tup [.d (lks (sumS k a b)), .d (iI 0)]) := by
  have hal := hA.len
  have hbl := hB.len
  have c1 := bothRef14 t (a.map rawOf) (b.map rawOf) (by rw [List.length_map]; omega) (by rw [List.length_map]; omega)
  rw [h0, rws_of, rws_of] at c1
  have c2 := rangedRef 0 k
  rw [show rngS 0 k = 0 by unfold rngS; rw [if_neg (by omega)]] at c2
  have c3 := cutIn k hk1 hk a hA.rt (by omega)
  have c4 := cutIn k hk1 hk b hB.rt (by omega)
  have e1 := cutS_len k a
  have e2 := cutS_len k b
  have hm := Nat.mul_le_mul e1 e2
  have hRa := cutS_rt hk hA.rt
  have hRb := cutS_rt hk hB.rt
  unfold sumS
  generalize cutS k a = ca at *
  generalize cutS k b = cb at *
  refine kF Tryz.func89 [72] fun w => ?_
  repeat' (first
    | refine zW ?_
    | refine zB ?_ ?_ <;> intro h <;> try exact zk h
    | refine zC (c1) ?_
    | refine zC (c2) ?_
    | refine zC (c3) ?_
    | refine zC (c4) ?_
    | fail)
  refine Run.nilRow 11 5 [(1, .d (nI k)), (2, .d (lks ca)), (3, .d (lks cb)), (11, .d (.sl 5 [])), (12, .d (.int .i64 0))] rfl (ofList_cases (by intro p hp; simp only [List.mem_cons, List.not_mem_nil, or_false] at hp; rcases hp with rfl | rfl | rfl | rfl | rfl; exact .inr (by kernel_rfl); exact .inr (by kernel_rfl); exact .inr (by kernel_rfl); exact .inl ⟨rfl, rfl⟩; exact .inr (by kernel_rfl))) ?_
  refine Run.loopT (fun i : Nat => ⟨PT.ofList [(1, .d (nI k)), (2, .d (lks ca)), (3, .d (lks cb)), (11, .d (lks (ascOf (prs k (ca.take i) cb)))), (12, .d (nI i))], [], []⟩) (fun i => i ≤ ca.length) (fun i => ca.length - i) 0 (Nat.zero_le _) (ti _ 0) (fun i hi => ?_)
  rcases Nat.lt_or_ge i ca.length with hlt | hge
  · obtain ⟨x, hx⟩ := get_ok hlt
    have hxR := hRa x (List.mem_of_getElem? hx)
    have hnx := prs_next (k := k) (b := cb) hx
    have hPR : ∀ z ∈ prs k (ca.take i) cb, Rt z := prs_rt hk (fun y hy => hRa y (List.mem_of_mem_take hy)) hRb
    have hPl : (prs k (ca.take i) cb).length + cb.length ≤ 90000 := by
      rw [prs_len, List.length_take, Nat.min_eq_left (by omega)]
      have : (i + 1) * cb.length ≤ ca.length * cb.length := Nat.mul_le_mul_right _ hlt
      rw [Nat.add_mul, Nat.one_mul] at this; omega
    by_cases hg : x.length = k ∧ 0 < cb.length
    · have c5 := mergeAsc (prs k (ca.take i) cb) [x] hPR (by simp [hxR]) (by simp only [List.length_singleton]; omega)
      rw [asc_full hg.1 (List.length_pos_iff.1 hg.2), ← hnx] at c5
      have k1 : AV.d (.sl 5 (cutL (some (i : Int)) (some ((i + 1 : Nat) : Int)) (ca.map lk))) = .d (lks (ascOf [x])) := by
        simp only [cutL, Int.toNat_natCast]
        rw [show ascOf [x] = [x] from rfl, ← List.map_take, ← List.map_drop, List.take_add_one, hx, List.drop_append_of_le_length (by rw [List.length_take]; omega), List.drop_of_length_le (by rw [List.length_take]; omega)]; rfl
      have hmx : (ca.map lk).length = ca.length := List.length_map _
      have hadd : AV.d (.int .i64 (IntKind.i64.wrap ((i : Int) + 1))) = .d (nI (i + 1)) := by
        congr 2; rw [show (i : Int) + 1 = ((i + 1 : Nat) : Int) by omega]; exact wrap_nat (by omega)
      generalize ascOf (prs k (ca.take i) cb) = P at *
      generalize hQ : ascOf (prs k (ca.take (i + 1)) cb) = Q at *
      repeat' (first
        | refine zV hadd ?_
        | refine zW ?_
        | refine zB ?_ ?_ <;> intro h <;> try exact zk h
        | refine zC (c5) ?_
        | refine zI w (.d (.ep (lkC x))) hx ?_
        | refine zCut k1 ?_
        | (exact ⟨i + 1, hlt, by omega, (by rw [hQ]; exact (ti _ 0))⟩)
        | ((exfalso; simp only [List.length_map, decide_eq_true_eq, decide_eq_false_iff_not, beq_iff_eq, beq_eq_false_iff_ne, ne_eq] at *; omega))
        | fail)
    · have hMl : (cb.map fun y => (x ++ y).take k).length = cb.length := List.length_map _
      have hMR : ∀ z ∈ cb.map fun y => (x ++ y).take k, Rt z := fun z hz => by
        obtain ⟨y, hy, rfl⟩ := List.mem_map.1 hz; exact rt_take hk hxR.lt (hRb y hy).lt
      have c5 := sortedRef _ (cb.map fun y => (x ++ y).take k) (Nat.le_refl _) (by omega) hMR
      have c6 := mergeAsc (prs k (ca.take i) cb) (cb.map fun y => (x ++ y).take k) hPR hMR (by omega)
      rw [← hnx] at c6
      generalize ascOf (prs k (ca.take i) cb) = P at *
      generalize hQ : ascOf (prs k (ca.take (i + 1)) cb) = Q at *
      repeat' (first
        | refine zW ?_
        | refine zB ?_ ?_ <;> intro h <;> try exact zk h
        | refine zI w (.d (.ep (lkC x))) hx ?_
        | ((exfalso; simp only [List.length_map, decide_eq_true_eq, decide_eq_false_iff_not, beq_iff_eq, beq_eq_false_iff_ne, ne_eq] at *; omega))
        | fail)
      all_goals
        refine Run.mkRoom 13 5 [(1, .d (nI k)), (2, .d (lks ca)), (3, .d (lks cb)), (11, .d (lks P)), (12, .d (nI i)), (13, .sr 0 5 []), (14, .d (.int .i64 0))] rfl (ofList_cases (by intro p hp; simp only [List.mem_cons, List.not_mem_nil, or_false] at hp; rcases hp with rfl | rfl | rfl | rfl | rfl | rfl | rfl; exact .inr (by kernel_rfl); exact .inr (by kernel_rfl); exact .inr (by kernel_rfl); exact .inr (by kernel_rfl); exact .inr (by kernel_rfl); exact .inl ⟨rfl, rfl⟩; exact .inr (by kernel_rfl))) ?_
        refine Run.loopT (fun y : Nat × List DV => ⟨PT.ofList [(1, .d (nI k)), (2, .d (lks ca)), (3, .d (lks cb)), (11, .d (lks P)), (12, .d (nI i)), (13, .sr 0 5 y.2), (14, .d (nI y.1))], [.room y.2.length 5], []⟩) (fun y => y.1 ≤ cb.length ∧ y.2 = (cb.take y.1).map fun y => lk ((x ++ y).take k)) (fun y => cb.length - y.1) (0, []) ⟨Nat.zero_le _, rfl⟩ (ti _ 1) (fun y hy => ?_)
        obtain ⟨j, acc⟩ := y
        obtain ⟨h1, h2⟩ := hy
        simp only at h1 h2 ⊢
        have hal : acc.length ≤ j := by rw [h2]; simp; omega
        rcases Nat.lt_or_ge j cb.length with hlt2 | hge2
        · obtain ⟨y, hy⟩ := get_ok hlt2
          have hnx2 : acc ++ [lk ((x ++ y).take k)] = (cb.take (j + 1)).map fun y => lk ((x ++ y).take k) := by rw [List.take_add_one, hy, h2]; simp
          have c7 := joinS k hk1 hk x y hxR (hRb y (List.mem_of_getElem? hy))
          generalize (x ++ y).take k = z at *
          repeat' (first
            | refine zW ?_
            | refine zB ?_ ?_ <;> intro h <;> try exact zk h
            | refine zC (c7) ?_
            | refine zI w (.d (.ep (lkC x))) hx ?_
            | refine zI w (.d (.ep (lkC y))) hy ?_
            | refine zAp ?_
            | rfl
            | (exact ⟨(j + 1, acc ++ [lk z]), ⟨hlt2, hnx2⟩, by simp only []; omega, (ti _ 1 (Eq.trans (b := [.room (acc.length + 1) 5]) rfl (by simp)))⟩)
            | ((exfalso; simp only [List.length_map, decide_eq_true_eq, decide_eq_false_iff_not] at *; omega))
            | fail)
        · have hje : j = cb.length := by omega
          have he : acc = (cb.map fun y => (x ++ y).take k).map lk := by rw [h2, hje, List.take_length, List.map_map]; rfl
          subst he
          repeat' (first
            | refine zW ?_
            | refine zB ?_ ?_ <;> intro h <;> try exact zk h
            | refine zM (c5) ?_
            | refine zC (c6) ?_
            | (exact ⟨i + 1, hlt, by omega, (by rw [hQ]; exact (ti _ 0))⟩)
            | ((exfalso; simp only [List.length_map, decide_eq_true_eq, decide_eq_false_iff_not] at *; omega))
            | fail)
  · have hie : i = ca.length := by omega
    subst hie
    rw [List.take_length]
    repeat' (first
      | refine zW ?_
      | refine zB ?_ ?_ <;> intro h <;> try exact zk h
      | rfl
      | ((exfalso; simp only [List.length_map, decide_eq_true_eq, decide_eq_false_iff_not] at *; omega))
      | fail)
section
variable {E : PT Ty} {H : Hd} {frz : List Nat} {rd : Operand → AV} {objs : List Ob} {o : Oper} {t kt et : TypeId} {yt : Ty} {m k v : Operand} {i j : Nat} {kk d d' : DV} {kvs : List (DV × DV)}
theorem evK_updNew (hop : o.op = .mapUpdate t m k v) (h1 : E.get? t = some yt) (h2 : yt.desc = .map kt et) (hkt : keyT E kt kk = true) (hm : rd m = .mp i) (hi : objs[i]? = some (.map kvs)) (hk : rd k = .d kk) (hv : rd v = .d d)
    (hf : findKV (eqKey E kt) kk kvs = some none) : evAny E H frz rd objs o = some (.d .any, some (objs.set i (.map (kvs ++ [(kk, d)]))), true) := by
  obtain ⟨dst, op, ty, pos, after, guard⟩ := o
  obtain ⟨desc, size, bytes, zero⟩ := yt
  simp only at hop h2
  subst hop h2
  simp only [evAny, quiet, evOp, mapUpdateR, h1, hk, hv, hkt, hm, hi, hf, pureR, Option.map_some]
theorem evK_updOld (hop : o.op = .mapUpdate t m k v) (h1 : E.get? t = some yt) (h2 : yt.desc = .map kt et) (hkt : keyT E kt kk = true) (hm : rd m = .mp i) (hi : objs[i]? = some (.map kvs)) (hk : rd k = .d kk) (hv : rd v = .d d)
    (hf : findKV (eqKey E kt) kk kvs = some (some (j, d'))) : evAny E H frz rd objs o = some (.d .any, some (objs.set i (.map (kvs.modify j fun p => (p.1, d)))), true) := by
  obtain ⟨dst, op, ty, pos, after, guard⟩ := o
  obtain ⟨desc, size, bytes, zero⟩ := yt
  simp only at hop h2
  subst hop h2
  simp only [evAny, quiet, evOp, mapUpdateR, h1, hk, hv, hkt, hm, hi, hf, pureR, Option.map_some]
end
abbrev kvT (L : List (List Nat)) : List (DV × DV) := L.map fun x => (lk x, DV.bool true)
theorem findT_none {x : List Nat} (hx : x.length ≤ 4) : ∀ {L : List (List Nat)}, x ∉ L → findKV (eqKey Et 44) (lk x) (kvT L) = some none
  | [], _ => rfl
  | y :: L, h => by
    simp only [List.mem_cons, not_or] at h
    have := findT_none hx h.2
    simp only [kvT] at this
    simp only [kvT, List.map_cons, findKV, eqKeyL x y hx, decide_eq_false h.1, this]
    rfl
theorem findT_at {x : List Nat} (hx : x.length ≤ 4) : ∀ {L : List (List Nat)}, x ∈ L → ∃ j, findKV (eqKey Et 44) (lk x) (kvT L) = some (some (j, .bool true)) ∧ (kvT L).modify j (fun p => (p.1, DV.bool true)) = kvT L
  | [], h => by cases h
  | y :: L, h => by
    by_cases e : x = y
    · subst e
      exact ⟨0, by simp only [kvT, List.map_cons, findKV, eqKeyL x x hx, decide_eq_true], rfl⟩
    · obtain ⟨j, h1, h2⟩ := findT_at hx ((List.mem_cons.1 h).resolve_left e)
      refine ⟨j + 1, ?_, ?_⟩
      · simp only [kvT] at h1
        simp only [kvT, List.map_cons, findKV, eqKeyL x y hx, decide_eq_false e, h1]
        rfl
      · simp only [kvT, List.map_cons, List.modify_succ_cons] at h2 ⊢
        rw [h2]
def insT1 (L : List (List Nat)) (x : List Nat) : List (List Nat) := if x ∈ L then L else L ++ [x]
theorem mem_insT1 {L : List (List Nat)} {x z : List Nat} : z ∈ insT1 L x ↔ z ∈ L ∨ z = x := by
  unfold insT1
  split
  · constructor
    · exact .inl
    · rintro (h | rfl)
      · exact h
      · assumption
  · simp
theorem nodup_insT1 {L : List (List Nat)} {x : List Nat} (h : L.Nodup) : (insT1 L x).Nodup := by
  unfold insT1
  split
  · exact h
  · rename_i hn
    rw [List.nodup_append]
    exact ⟨h, by simp, fun a ha b hb e => by simp at hb; subst hb; exact hn (e ▸ ha)⟩
section
variable {H : Hd} {frz : List Nat} {rd : Operand → AV} {objs : List Ob} {o : Oper} {t : TypeId} {m k v : Operand} {i : Nat} {L : List (List Nat)} {x : List Nat}
theorem evAny_insT (hop : o.op = .mapUpdate t m k v) (h1 : Et.get? t = some ⟨.map 44 4, 1, 8, [.nilmap]⟩) (hm : rd m = .mp i) (hi : objs[i]? = some (.map (kvT L))) (hk : rd k = .d (lk x)) (hv : rd v = .d (.bool true)) (hx : x.length ≤ 4) :
    evAny Et H frz rd objs o = some (.d .any, some (objs.set i (.map (kvT (insT1 L x)))), true) := by
  by_cases h : x ∈ L
  · obtain ⟨j, h2, h3⟩ := findT_at hx h
    have e := evK_updOld (H := H) (frz := frz) hop h1 rfl (keyTL x) hm hi hk hv h2
    rw [h3] at e
    rw [e, insT1, if_pos h]
  · have e := evK_updNew (H := H) (frz := frz) hop h1 rfl (keyTL x) hm hi hk hv (findT_none hx h)
    rw [e, insT1, if_neg h]
    simp [kvT]
theorem evAny_hasT (hop : o.op = .lookup t m k false) (h1 : Et.get? t = some ⟨.map 44 4, 1, 8, [.nilmap]⟩) (hm : rd m = .mp i) (hi : objs[i]? = some (.map (kvT L))) (hk : rd k = .d (lk x)) (hx : x.length ≤ 4) :
    evAny Et H frz rd objs o = some (.d (.bool (decide (x ∈ L))), none, true) := by
  by_cases h : x ∈ L
  · obtain ⟨j, h2, _⟩ := findT_at hx h
    rw [evK_lookup (H := H) (frz := frz) hop h1 rfl rfl (keyTL x) hm hi hk h2 rfl, decide_eq_true h]
  · rw [evK_lookup (H := H) (frz := frz) hop h1 rfl rfl (keyTL x) hm hi hk (findT_none hx h) rfl, decide_eq_false h]
end
theorem asc_nodup {L : List (List Nat)} (h : Asc L) : L.Nodup := h.imp fun {a b} hab e => by subst e; exact cmp_irr hab
theorem perm_asc {L E : List (List Nat)} (hn : L.Nodup) (hm : ∀ z, z ∈ L ↔ z ∈ E) : (kvT L).Perm (kvT (ascOf E)) :=
  List.Perm.map _ ((List.perm_ext_iff_of_nodup hn (asc_nodup (asc_asc E))).2 fun z => (hm z).trans mem_asc.symm)
theorem perm_kvT {l : List (DV × DV)} {L : List (List Nat)} (h : l.Perm (kvT L)) : ∃ L', l = kvT L' ∧ L'.Perm L := by
  obtain ⟨L', h1, h2⟩ : ∃ L', L'.Perm L ∧ l = kvT L' := by
    generalize hK : kvT L = K at h
    induction h generalizing L with
    | nil => exact ⟨[], by cases L with | nil => exact .nil | cons => simp [kvT] at hK, rfl⟩
    | cons a _ ih =>
      cases L with
      | nil => simp [kvT] at hK
      | cons x L =>
        simp only [kvT, List.map_cons, List.cons.injEq] at hK
        obtain ⟨rfl, rfl⟩ := hK
        obtain ⟨L', h1, rfl⟩ := ih rfl
        exact ⟨x :: L', .cons x h1, rfl⟩
    | swap a b r =>
      match L, hK with
      | x :: y :: L, hK =>
        simp only [kvT, List.map_cons, List.cons.injEq] at hK
        obtain ⟨rfl, rfl, rfl⟩ := hK
        exact ⟨y :: x :: L, .swap _ _ _, rfl⟩
      | [x], hK => simp [kvT] at hK
      | [], hK => simp [kvT] at hK
    | trans _ _ ih1 ih2 =>
      obtain ⟨L1, h1, rfl⟩ := ih2 hK
      obtain ⟨L2, h2, rfl⟩ := ih1 rfl
      exact ⟨L2, h2.trans h1, rfl⟩
  exact ⟨L', h2, h1⟩
section
variable {E : PT Ty} {H : Hd} {frz : List Nat} {rd : Operand → AV} {objs : List Ob} {o : Oper} {args : Array Operand} {tys : Array TypeId} {a : Operand} {t kt et : TypeId} {yt : Ty} {kvs : List (DV × DV)} {i : Nat}
theorem evAny_lenM (hop : o.op = .call ⟨.builtin .len, args, tys⟩) (ha : args.toList = [a]) (ht : tys.toList = [t]) (h1 : E.get? t = some yt) (h2 : yt.desc = .map kt et) (hm : rd a = .mp i) (hi : objs[i]? = some (.map kvs)) :
    evAny E H frz rd objs o = some (.d (.int .i64 kvs.length), none, true) := by
  obtain ⟨dst, op, ty, pos, after, guard⟩ := o
  simp only at hop
  subst hop
  simp only [evAny, quiet, evOp, ha, ht, List.map_cons, List.map_nil, lenR, h1, h2, hm, hi, pureR, Option.map_some]
end
def RunI (P : Program) (nt m : Nat) (ro' : Option Nat) (K : Ex → S → Prop) {α : Type} (St : α → S) (I : α → Prop) : List Code → S → Prop
  | [], s => ∀ r, (∀ a, I a → Run P nt m ro' r (St a) K) → Run P nt m ro' r s K
  | c :: cs, s => Run P nt m ro' c s (fun e s1 => match e with | .normal => RunI P nt m ro' K St I cs s1 | e => K e s1)
def seqsI : List Code → Code → Code
  | [], r => r
  | c :: cs, r => .seq c (seqsI cs r)
theorem RunI.run {P : Program} {nt m : Nat} {ro' : Option Nat} {K : Ex → S → Prop} {α : Type} {r : Code} (St : α → S) (I : α → Prop) : ∀ (cs : List Code) {s : S}, RunI P nt m ro' K St I cs s → (∀ a, I a → Run P nt m ro' r (St a) K) → Run P nt m ro' (seqsI cs r) s K
  | [], _, h1, h => h1 _ h
  | c :: cs, _, h, h2 => Run.seq (Run.mono h fun e s1 h3 => by
    cases e with
    | normal => exact RunI.run St I cs h3 h2
    | _ => exact h3)
theorem get1 {M X : List Ob} {a b : Ob} : (M ++ a :: b :: X)[M.length + 1]? = some b := by
  rw [List.getElem?_append_right (by omega), show M.length + 1 - M.length = 1 by omega]; rfl
theorem get0 {M X : List Ob} {a : Ob} : (M ++ a :: X)[M.length]? = some a := by
  rw [List.getElem?_append_right (by omega), Nat.sub_self]; rfl
theorem get2 {M X : List Ob} {a b c : Ob} : (M ++ a :: b :: c :: X)[M.length + 2]? = some c := by
  rw [List.getElem?_append_right (by omega), show M.length + 2 - M.length = 2 by omega]; rfl
theorem getO {M X : List Ob} {i : Nat} {a : Ob} (h : M[i]? = some a) : (M ++ X)[i]? = some a := by
  rw [List.getElem?_append_left (List.getElem?_eq_some_iff.1 h).1]; exact h
theorem setL0 {M X : List Ob} {a c : Ob} : (M ++ a :: X).set M.length c = M ++ c :: X := by
  rw [List.set_append_right _ _ (by omega), Nat.sub_self]; rfl
theorem setL1 {M X : List Ob} {a b c : Ob} : (M ++ a :: b :: X).set (M.length + 1) c = M ++ a :: c :: X := by
  rw [List.set_append_right _ _ (by omega), show M.length + 1 - M.length = 1 by omega]; rfl
theorem setL2 {M X : List Ob} {a b c d : Ob} : (M ++ a :: b :: c :: X).set (M.length + 2) d = M ++ a :: b :: d :: X := by
  rw [List.set_append_right _ _ (by omega), show M.length + 2 - M.length = 2 by omega]; rfl
theorem take2 {M Y : List Ob} {a b : Ob} : (M ++ a :: b :: Y).take (M.length + 2) = M ++ [a, b] := by
  rw [List.take_append, List.take_of_length_le (by omega), show M.length + 2 - M.length = 2 by omega]; rfl
theorem take3 {M Y : List Ob} {a b c : Ob} : (M ++ a :: b :: c :: Y).take (M.length + 3) = M ++ [a, b, c] := by
  rw [List.take_append, List.take_of_length_le (by omega), show M.length + 3 - M.length = 3 by omega]; rfl
theorem setO {M X : List Ob} {i : Nat} {c : Ob} (h : i < M.length) : (M ++ X).set i c = M.set i c ++ X := List.set_append_left _ _ h
theorem seen_le : ∀ (n : Nat) (l : List Nat), l.Nodup → (∀ x ∈ l, x < n) → l.length ≤ n
  | 0, l, _, h => by
    cases l with
    | nil => simp
    | cons a l => have := h a (by simp); omega
  | n + 1, l, hn, h => by
    have h1 := seen_le n (l.erase n) (hn.erase n) fun x hx => by
      have h2 := h x (List.mem_of_mem_erase hx)
      have h3 : x ≠ n := fun e => by subst e; exact (hn.not_mem_erase hx)
      omega
    rw [List.length_erase] at h1
    split at h1 <;> omega
theorem wk_cell {O X : List Ob} {cs ds : List AV} (h : WkCs cs ds) : WkObs (O ++ .box cs :: X) (O ++ .box ds :: X) := by
  induction O with
  | nil => exact ⟨.box h, wk_all X⟩
  | cons a O ih => exact ⟨.refl, ih⟩
where wk_all : ∀ X : List Ob, WkObs X X
  | [] => trivial
  | _ :: X => ⟨.refl, wk_all X⟩
theorem wk_ends {O X : List Ob} {a b p : Ob} : WkObs (O ++ a :: b :: p :: X) (O ++ [.gone, .gone, p]) := by
  induction O with
  | nil => exact ⟨.gone, .gone, .refl, by cases X <;> trivial⟩
  | cons a O ih => exact ⟨.refl, ih⟩
theorem set_back {O : List Ob} {i : Nat} {x y : Ob} (h : O[i]? = some x) : (O.set i y).set i x = O := by
  obtain ⟨h1, h2⟩ := List.getElem?_eq_some_iff.1 h
  rw [List.set_set, ← h2]
  exact List.set_getElem_self h1
theorem Run.freezeD {P : Program} {nt m : Nat} {ro' : Option Nat} {K : Ex → S → Prop} {c : Code} {tm tm' : PT AV} {objs objs' : List Ob} {dl : List Dl} (i : Nat) {ds : List DV} (h : Run P nt m ro' c ⟨tm', objs', dl⟩ K) (hi : objs[i]? = some (.box (ds.map .d))) (he : objs.set i .gone = objs')
    (ht : ∀ t v, tm'.get? t = some v → tm.get? t = some v ∨ ∃ off, off ≤ ds.length ∧ tm.get? t = some (.bp i off) ∧ v = .d (.ep (ds.drop off))) : Run P nt m ro' c ⟨tm, objs, dl⟩ K := by
  subst he
  intro D0 β0 o0 w0 hb0 ro Q a w hro hK hs
  obtain ⟨D, β, h1, h2, h3⟩ := hs
  have hil := (List.getElem?_eq_some_iff.1 hi).1
  obtain ⟨bi, hb⟩ : ∃ bi, β[i]? = some bi := ⟨β[i]'(by have := h1.heap.len; simp only at this; rw [this]; exact hil), by simp⟩
  obtain ⟨st, hr⟩ := box_freeze h1.heap hb hi
  refine h D0 β0 o0 w0 hb0 ro Q a w hro hK ⟨_, β, h1.trans st, ⟨h2.1, fun t => ?_⟩, h3.mono st.dsub st.bext⟩
  cases hv : tm'.get? t with
  | none => exact .d .any
  | some v =>
    rcases ht t v hv with e | ⟨off, h4, h5, rfl⟩
    · have := h2.2 t
      simp only at this
      rw [e] at this
      exact st.repA this
    · have := h2.2 t
      simp only at this
      rw [h5] at this
      simp only [Option.getD_some] at this ⊢
      generalize a.tmps.getD t undef = u at this ⊢
      cases this with
      | bp hb' => rw [hb] at hb'; cases hb'; exact .d (hr off h4)
theorem Run.dropLastD {P : Program} {nt m : Nat} {ro' : Option Nat} {K : Ex → S → Prop} {c : Code} {tm : PT AV} {O : List Ob} {dl : List Dl} {ds : List DV} (l : List (Nat × AV)) (h : Run P nt m ro' c ⟨PT.ofList l, O, dl⟩ K) (hm : m ≤ O.length) (hO : O.all (refOb O.length) = true) (hd : dl.all (refDl O.length) = true)
    (ht : ∀ t v, (PT.ofList l).get? t = some v → tm.get? t = some v ∨ ∃ off, off ≤ ds.length ∧ tm.get? t = some (.bp O.length off) ∧ v = .d (.ep (ds.drop off))) (hr : allQ (refA 8 O.length) l) : Run P nt m ro' c ⟨tm, O ++ [.box (ds.map .d)], dl⟩ K := by
  refine Run.freezeD O.length (tm' := PT.ofList l) (objs' := O ++ [.gone]) (ds := ds) ?_ (by simp) (by rw [List.set_append_right _ _ (Nat.le_refl _)]; simp) ht
  refine Run.trunc O.length (by simpa using hm) ?_ ?_
  · simp only [refS, ptAll_ofList hr, List.take_left, hO, hd, Bool.and_self]
  · simpa [S.trunc] using h
section
variable {E : PT Ty} {H : Hd} {frz : List Nat} {rd : Operand → AV} {objs : List Ob} {o : Oper} {t : TypeId} {x xv : Operand} {y : Ty} {i off sz n : Nat} {T : TypeId} {ag : Bool} {cs : List AV} {c : AV}
theorem evAny_loadV (hop : o.op = .load t x) (h1 : E.get? t = some y) (ha : isAggT y.desc = false) (hx : rd x = .bp i off) (hi : objs[i]? = some (.vec T ag sz n cs)) (hc : cs[off]? = some c) : evAny E H frz rd objs o = some (c, none, true) := by
  obtain ⟨dst, op, ty, pos, after, guard⟩ := o
  simp only at hop
  subst hop
  cases cs with
  | nil => simp at hc
  | cons a l => simp only [evAny, quiet, evOp, loadR, h1, hx, hi, obCells, ha, hc, pureR, if_true, Option.map_some]
theorem evAny_storeV (hop : o.op = .store t x xv) (h1 : E.get? t = some y) (hs : y.size = 1) (hx : rd x = .bp i off) (hv : rd xv = c) (hk : knownA c = true) (hl : c.cells = [c]) (hi : objs[i]? = some (.vec T ag sz n cs)) (hc : off < cs.length) :
    evAny E H frz rd objs o = some (.d .any, some (objs.set i (.vec T ag sz n (cs.take off ++ [c] ++ cs.drop (off + 1)))), true) := by
  obtain ⟨dst, op, ty, pos, after, guard⟩ := o
  simp only at hop
  subst hop
  cases cs with
  | nil => simp at hc
  | cons a l =>
    have hb : Nat.ble (off + 1) (a :: l).length = true := Nat.ble_eq_true_of_le hc
    simp only [evAny, quiet, evOp, storeR, h1, hx, hv, hi, obCells, hk, hl, hs, hb, List.length_cons, List.length_nil, pureR, Bool.and_self, if_true, Option.map_some, obPut]
    simp [hb]
    simp only [List.length_cons] at hc
    omega
end
theorem getB {O X : List Ob} {a c : Ob} : ((O ++ [a]) ++ c :: X)[O.length]? = some a := by rw [List.append_assoc]; exact get0
theorem Run.boxGone {P : Program} {nt m : Nat} {ro' : Option Nat} {K : Ex → S → Prop} {c : Code} {tm tm' : PT AV} {O X : List Ob} {cs : List AV} {ds : List DV} {dl : List Dl} (h : Run P nt m ro' c ⟨tm', (O ++ [.gone]) ++ X, dl⟩ K) (hw : WkCs cs (ds.map .d)) (hr : O.all (refOb O.length) = true) (hX : X.all (refOb (O.length + 1 + X.length)) = true) (hm : m ≤ O.length)
    (ht : ∀ t v, tm'.get? t = some v → tm.get? t = some v ∨ ∃ off, off ≤ ds.length ∧ tm.get? t = some (.bp O.length off) ∧ v = .d (.ep (ds.drop off))) : Run P nt m ro' c ⟨tm, (O ++ [.box cs]) ++ X, dl⟩ K := by
  refine Run.wk (objs' := (O ++ [.box (ds.map .d)]) ++ X) ?_ (by rw [List.append_assoc, List.append_assoc]; exact wk_cell hw) (by simp) (by simp; omega) ?_
  · refine Run.freezeD (objs := (O ++ [.box (ds.map .d)]) ++ X) O.length (tm' := tm') (objs' := (O ++ [.gone]) ++ X) (ds := ds) h ?_ ?_ ht
    · rw [List.append_assoc]; exact get0
    · rw [List.append_assoc, List.append_assoc]; exact setL0
  · rw [List.all_append, List.all_append, refs_mono (by simp) hr]
    simp only [Bool.true_and, Bool.and_eq_true]
    refine ⟨?_, by rw [show ((O ++ [Ob.box (ds.map .d)]) ++ X).length = O.length + 1 + X.length by simp; omega]; exact hX⟩
    simp only [List.all_cons, List.all_nil, Bool.and_true, refOb, List.all_map, List.all_eq_true]
    intro x _
    rfl
abbrev tbC (k : Nat) (g : DV × DV × DV × DV × DV) (st : AV) : List AV := [.d (nI k), .d g.1, .d g.2.1, .d g.2.2.1, .d g.2.2.2.1, .d g.2.2.2.2, st]
def SymS (O : List Ob) (st : AV) (b : Nat) (A : List (List Nat)) (s : Nat) : Prop :=
  (s < 8 ∧ A = [[s]]) ∨ ∃ a ia r n cs, s = 16 + a ∧ a < n ∧ n ≤ 1000 ∧ st = .vs r 1 0 n ∧ O[r]? = some (.vec 62 false 1 n cs) ∧ cs[a]? = some (.mp ia) ∧ O[ia]? = some (.pm (kvT A)) ∧ ia ≠ b
structure ThI (O : List Ob) (b : Nat) (B A : List (List Nat)) (a : List Ob × Nat) : Prop where
  len : a.1.length = O.length + 2
  refs : a.1.all (refOb a.1.length) = true
  lt : a.2 < a.1.length
  ne : a.2 ≠ b
  maps : ∃ A' B', A'.Perm A ∧ B'.Perm B ∧ a.1[a.2]? = some (.map (kvT A')) ∧ a.1[b]? = some (.map (kvT B'))
  close : ∃ X1 X2, (a.2 < O.length ∧ (a.1.set b (.pm (kvT B))).set a.2 (.pm (kvT A)) = O ++ [X1, X2]) ∨ (O.length ≤ a.2 ∧ a.1.set b (.pm (kvT B)) = O ++ [X1, X2])
theorem refs_set {n : Nat} {O : List Ob} (h : O.all (refOb n) = true) {i : Nat} {y : Ob} (hy : refOb n y = true) : (O.set i y).all (refOb n) = true := by
  rw [List.all_eq_true] at h ⊢
  intro x hx
  rcases List.mem_or_eq_of_mem_set hx with h1 | rfl
  · exact h x h1
  · exact hy
set_option maxHeartbeats 8000000 in
theorem thenA (O : List Ob) (hO : O.all (refOb O.length) = true) (k : Nat) (hk1 : 1 ≤ k) (hk : k ≤ 4) (g : DV × DV × DV × DV × DV) (st : AV) (b : Nat) (B A : List (List Nat)) (hb : O[b]? = some (.pm (kvT B))) (hB : ∀ x ∈ B, Rt x ∧ x.length ≤ k) (hA : ∀ y ∈ A, Rt y) (hAl : A.length ≤ 100000) (s : Nat) (hs : SymS O st b A s) :
    ACall Tryz.prog 62 [.agg (tbC k g st), .mp b, .d (nI s)] O (.mp (O.length + 2)) (O ++ [.gone, .gone, .pm (kvT (ascOf (prs k B A)))]) := by
  have w : Fz [] := trivial
  have hbl := (List.getElem?_eq_some_iff.1 hb).1
  refine acallG_of_run Et_ok (fnB Tryz.func62 []) rfl rfl (by simp) ?_ (by simp [refA, Nat.blt_eq]) ?_
  · rw [List.all_append, refs_mono (by simp) hO]; rfl
  have w : Fz [] := trivial
  obtain ⟨ga, gb, gc, gd, ge⟩ := g
  refine RunI.run (fun a : List Ob × Nat => ⟨PT.ofList [(1, .mp b), (3, .d (.ep [nI k, ga, gb, gc, gd, ge, .any])), (7, .mp a.2)], a.1, []⟩) (ThI O b B A) [_, _, _] ?_ ?_
  · repeat refine zS ?_
    iterate 2 refine zX ?_
    repeat refine zS ?_
    iterate 2 refine zX ?_
    repeat refine zS ?_
    refine zX ?_
    rcases hs with ⟨hs8, rfl⟩ | ⟨a, ia, r, n, cs, rfl, han, hn, rfl, hr, hca, hia, hne⟩
    · refine zV (show AV.d (.bool (decide (((s : Nat) : Int) < 16))) = .d (.bool true) by rw [decide_eq_true (by omega)]) ?_
      repeat refine zS ?_
      iterate 4 refine zX ?_
      refine oV (v := .d .any) (objs' := (O ++ [.box (tbC k (ga, gb, gc, gd, ge) st)]) ++ [.map (kvT [[s]])]) ?_ (hv := evAny_insT (L := []) (x := [s]) rfl rfl rfl get0 rfl rfl (by simp)) (ho := by exact setL0)
      repeat refine zS ?_
      intro rest hrest
      refine Run.boxGone (O := O) (X := [Ob.map (kvT [[s]])]) (cs := tbC k (ga, gb, gc, gd, ge) st) (tm' := PT.ofList [(1, .mp b), (3, .d (.ep [nI k, ga, gb, gc, gd, ge, .any])), (7, .mp (O ++ [Ob.box (tbC k (ga, gb, gc, gd, ge) st)]).length)]) (ds := [nI k, ga, gb, gc, gd, ge, .any]) ?_ ⟨.inr rfl, .inr rfl, .inr rfl, .inr rfl, .inr rfl, .inr rfl, .inl rfl, trivial⟩ hO rfl (Nat.le_refl _) (ofList_cases (by intro q hq; simp only [List.mem_cons, List.not_mem_nil, or_false] at hq; rcases hq with rfl | rfl | rfl; exact .inl (by kernel_rfl); exact .inr ⟨0, Nat.zero_le _, by kernel_rfl, rfl⟩; exact .inl (by kernel_rfl)))
      refine Run.openPm b (kvs := kvT B) (by rw [List.append_assoc]; exact getO hb) fun lB hlB => ?_
      obtain ⟨B', rfl, hpB⟩ := perm_kvT hlB
      rw [List.append_assoc, setO hbl]
      refine (hrest ((O.set b (Ob.map (kvT B'))) ++ [Ob.gone, Ob.map (kvT [[s]])], (O ++ [Ob.box (tbC k (ga, gb, gc, gd, ge) st)]).length) ⟨?_, ?_, ?_, ?_, ?_, ?_⟩)
      · simp
      · rw [List.all_append, refs_mono (by simp) (refs_set hO rfl)]; rfl
      · simp
      · simp; omega
      · refine ⟨[[s]], B', .refl _, hpB, ?_, ?_⟩
        · simp only [List.length_append, List.length_cons, List.length_nil]
          have := get1 (M := O.set b (.map (kvT B'))) (X := []) (a := Ob.gone) (b := Ob.map (kvT [[s]]))
          rw [List.length_set] at this
          exact this
        · exact getO (by rw [List.getElem?_set_self hbl])
      · refine ⟨Ob.gone, Ob.map (kvT [[s]]), .inr ⟨by simp, ?_⟩⟩
        show ((O.set b (Ob.map (kvT B'))) ++ [Ob.gone, Ob.map (kvT [[s]])]).set b _ = _
        rw [setO (by rw [List.length_set]; exact hbl), set_back hb]
    · refine zV (show AV.d (.bool (decide (((16 + a : Nat) : Int) < 16))) = .d (.bool false) by rw [decide_eq_false (by omega)]) ?_
      repeat refine zS ?_
      refine zX ?_
      refine oV (v := .vs r 1 0 n) ?_ (hv := evAny_loadB rfl rfl rfl rfl getB rfl)
      refine zX ?_
      refine zV (show AV.d (.int .i64 (IntKind.i64.wrap (((16 + a : Nat) : Int) - 16))) = .d (nI a) by congr 2; rw [show ((16 + a : Nat) : Int) - 16 = ((a : Nat) : Int) by omega]; exact wrap_nat (by omega)) ?_
      refine zCut (show AV.bp r (0 + ((a : Nat) : Int).toNat * 1) = .bp r a by simp) ?_
      refine oV (v := .mp ia) ?_ (hv := evAny_loadV rfl rfl rfl rfl (by rw [List.append_assoc]; exact getO hr) hca)
      refine zX ?_
      repeat refine zS ?_
      have hial := (List.getElem?_eq_some_iff.1 hia).1
      intro rest hrest
      refine Run.boxGone (O := O) (X := [Ob.map []]) (cs := tbC k (ga, gb, gc, gd, ge) (.vs r 1 0 n)) (tm' := PT.ofList [(1, .mp b), (3, .d (.ep [nI k, ga, gb, gc, gd, ge, .any])), (7, .mp ia)]) (ds := [nI k, ga, gb, gc, gd, ge, .any]) ?_ ⟨.inr rfl, .inr rfl, .inr rfl, .inr rfl, .inr rfl, .inr rfl, .inl rfl, trivial⟩ hO rfl (Nat.le_refl _) (ofList_cases (by intro q hq; simp only [List.mem_cons, List.not_mem_nil, or_false] at hq; rcases hq with rfl | rfl | rfl; exact .inl (by kernel_rfl); exact .inr ⟨0, Nat.zero_le _, by kernel_rfl, rfl⟩; exact .inl (by kernel_rfl)))
      refine Run.openPm b (kvs := kvT B) (by rw [List.append_assoc]; exact getO hb) fun lB hlB => ?_
      obtain ⟨B', rfl, hpB⟩ := perm_kvT hlB
      rw [List.append_assoc, setO hbl]
      refine Run.openPm ia (kvs := kvT A) (getO (by rw [List.getElem?_set_ne (Ne.symm hne)]; exact hia)) fun lA hlA => ?_
      obtain ⟨A', rfl, hpA⟩ := perm_kvT hlA
      rw [setO (by rw [List.length_set]; exact hial)]
      refine (hrest (((O.set b (.map (kvT B'))).set ia (Ob.map (kvT A'))) ++ [Ob.gone, Ob.map []], ia) ⟨?_, ?_, ?_, ?_, ?_, ?_⟩)
      · simp
      · rw [List.all_append, refs_mono (by simp) (refs_set (refs_set hO rfl) rfl)]; rfl
      · simp; omega
      · exact hne
      · refine ⟨A', B', hpA, hpB, getO (by rw [List.getElem?_set_self (by rw [List.length_set]; exact hial)]), getO (by rw [List.getElem?_set_ne hne, List.getElem?_set_self hbl])⟩
      · refine ⟨Ob.gone, Ob.map [], .inl ⟨hial, ?_⟩⟩
        show ((((O.set b (.map (kvT B'))).set ia (Ob.map (kvT A'))) ++ [Ob.gone, Ob.map []]).set b _).set ia _ = _
        rw [setO (by simp; exact hbl), List.set_comm _ _ hne, set_back hb, setO (by simp; exact hial), set_back hia]
  · rintro ⟨M, ia⟩ h
    obtain ⟨hMl, hMr, hial, hiab, ⟨A', B', hpA, hpB, hMa, hMb⟩, X1, X2, hcl⟩ := h
    simp only at hMl hMr hial hiab hMa hMb hcl
    clear hs
    have hB' : ∀ x ∈ B', Rt x ∧ x.length ≤ k := fun x hx => hB x (hpB.mem_iff.1 hx)
    have hA' : ∀ x ∈ A', Rt x := fun x hx => hA x (hpA.mem_iff.1 hx)
    have hAl' : A'.length ≤ 100000 := by rw [hpA.length_eq]; exact hAl
    have hkB : (kvT B').length = B'.length := by simp
    have hkA : (kvT A').length = A'.length := by simp
    have hbM : b < M.length := by omega
    have tdy : ∀ (tm : PT AV) (Y : List Ob) (out : List (List Nat)) (seen : List Nat), tm.get? 1 = some (.mp b) → tm.get? 3 = some (.d (.ep [nI k, ga, gb, gc, gd, ge, .any])) → tm.get? 7 = some (.mp ia) → tm.get? 8 = some (.mp M.length) → tm.get? 28 = some (.bp (M.length + 1) 0) →
        Tidy O.length ⟨tm, M ++ .map (kvT out) :: .mit b (kvT B').length seen :: Y, []⟩ ⟨PT.ofList [(1, .mp b), (3, .d (.ep [nI k, ga, gb, gc, gd, ge, .any])), (7, .mp ia), (8, .mp M.length), (28, .bp (M.length + 1) 0)], M ++ [.map (kvT out), .mit b (kvT B').length seen], []⟩ := fun tm Y out seen h1 h2 h3 h4 h5 =>
      tidy_of _ (M.length + 2) take2 (Nat.ble_eq_true_of_le (by omega)) ⟨.inl h1, .inl h2, .inl h3, .inl h4, .inl h5, trivial⟩ ⟨by simp [refA, Nat.blt_eq]; omega, rfl, by simp [refA, Nat.blt_eq]; omega, by simp [refA, Nat.blt_eq], by simp [refA, Nat.blt_eq], trivial⟩ (by rw [List.all_append, refs_mono (by omega) hMr]; simp [refOb, Nat.blt_eq]; omega) rfl
    have tdy3 : ∀ (tm : PT AV) (Y : List Ob) (out : List (List Nat)) (seen seen2 : List Nat) (x : List Nat), tm.get? 1 = some (.mp b) → tm.get? 3 = some (.d (.ep [nI k, ga, gb, gc, gd, ge, .any])) → tm.get? 7 = some (.mp ia) → tm.get? 8 = some (.mp M.length) → tm.get? 28 = some (.bp (M.length + 1) 0) → tm.get? 9 = some (.d (.ep (lkC x))) → tm.get? 45 = some (.bp (M.length + 2) 0) →
        Tidy O.length ⟨tm, M ++ .map (kvT out) :: .mit b (kvT B').length seen :: .mit ia (kvT A').length seen2 :: Y, []⟩ ⟨PT.ofList [(1, .mp b), (3, .d (.ep [nI k, ga, gb, gc, gd, ge, .any])), (7, .mp ia), (8, .mp M.length), (28, .bp (M.length + 1) 0), (9, .d (.ep (lkC x))), (45, .bp (M.length + 2) 0)], M ++ [.map (kvT out), .mit b (kvT B').length seen, .mit ia (kvT A').length seen2], []⟩ := fun tm Y out seen seen2 x h1 h2 h3 h4 h5 h6 h7 =>
      tidy_of _ (M.length + 3) take3 (Nat.ble_eq_true_of_le (by omega)) ⟨.inl h1, .inl h2, .inl h3, .inl h4, .inl h5, .inl h6, .inl h7, trivial⟩ ⟨by simp [refA, Nat.blt_eq]; omega, rfl, by simp [refA, Nat.blt_eq]; omega, by simp [refA, Nat.blt_eq], by simp [refA, Nat.blt_eq], rfl, by simp [refA, Nat.blt_eq], trivial⟩ (by rw [List.all_append, refs_mono (by omega) hMr]; simp [refOb, Nat.blt_eq]; omega) rfl
    repeat refine zS ?_
    iterate 2 refine zX ?_
    repeat refine zS ?_
    refine zX ?_
    refine oRange Et_ok ?_ (hi := getO hMb)
    repeat refine zS ?_
    refine Run.loopT (fun y : List (List Nat) × List Nat => ⟨PT.ofList [(1, .mp b), (3, .d (.ep [nI k, ga, gb, gc, gd, ge, .any])), (7, .mp ia), (8, .mp M.length), (28, .bp (M.length + 1) 0)], M ++ [.map (kvT y.1), .mit b (kvT B').length y.2], []⟩)
      (fun y => y.1.Nodup ∧ y.2.Nodup ∧ (∀ q ∈ y.2, q < B'.length) ∧ ∀ z, z ∈ y.1 ↔ ∃ q ∈ y.2, ∃ x, B'[q]? = some x ∧ ∃ v ∈ A', z = (x ++ v).take k) (fun y => B'.length - y.2.length) ([], []) ⟨by simp, by simp, by simp, by simp⟩ ?_ (fun ⟨out, seen⟩ ⟨i1, i2, i3, i4⟩ => ?_)
    · rw [List.append_assoc]
      exact tdy _ [] [] [] rfl rfl rfl rfl (Eq.trans (b := some (.bp (M ++ [Ob.map []]).length 0)) rfl (by simp))
    · simp only at i1 i2 i3 i4
      have hsl := seen_le B'.length seen i2 i3
      repeat refine zS ?_
      refine oNext (i := b) (j := M.length + 1) (kvs := kvT B') (seen := seen) (fun q p hq hns => ?_) (fun hall => ?_) (hj := get1) (hi := getO hMb)
      · obtain ⟨x, hx, rfl⟩ : ∃ x, B'[q]? = some x ∧ p = (lk x, .bool true) := by
          rw [List.getElem?_map] at hq
          cases e : B'[q]? with
          | none => rw [e] at hq; cases hq
          | some x => rw [e] at hq; exact ⟨x, rfl, (Option.some.inj hq).symm⟩
        have hql := (List.getElem?_eq_some_iff.1 hx).1
        have hxB := hB' x (List.mem_of_getElem? hx)
        have hx4 := hxB.1.len
        have j2 : (seen ++ [q]).Nodup := by
          rw [List.nodup_append]
          exact ⟨i2, by simp, fun a ha c hc e => by simp at hc; subst hc; exact hns (e ▸ ha)⟩
        have j3 : ∀ r ∈ seen ++ [q], r < B'.length := fun r hr => by
          rcases List.mem_append.1 hr with h1 | h1
          · exact i3 r h1
          · simp at h1; omega
        have hsl2 := seen_le B'.length (seen ++ [q]) j2 j3
        simp only [List.length_append, List.length_cons, List.length_nil] at hsl2
        have j4 : ∀ out' : List (List Nat), (∀ z, z ∈ out' ↔ z ∈ out ∨ ∃ v ∈ A', z = (x ++ v).take k) → ∀ z, z ∈ out' ↔ ∃ q' ∈ seen ++ [q], ∃ x, B'[q']? = some x ∧ ∃ v ∈ A', z = (x ++ v).take k := fun out' ho z => by
          rw [ho z, i4 z]
          constructor
          · rintro (⟨q', h1, h2⟩ | h1)
            · exact ⟨q', by simp [h1], h2⟩
            · exact ⟨q, by simp, x, hx, h1⟩
          · rintro ⟨q', h1, x', h2, h3⟩
            rcases List.mem_append.1 h1 with h1 | h1
            · exact .inl ⟨q', h1, x', h2, h3⟩
            · simp at h1
              subst h1
              rw [hx] at h2; cases h2
              exact .inr h3
        rw [setL1]
        refine zX ?_
        repeat refine zS ?_
        refine oEntry (i := b) (j := M.length + 1) (q := q) (kvs := kvT B') (seen := seen) ?_ hq (hj := get1) (hi := getO hMb)
        iterate 2 refine zX ?_
        refine oV ?_ (hv := evAny_store_last)
        refine RunOps.nil ?_
        refine Run.dropLastD (m := O.length) (dl := []) (O := M ++ [.map (kvT out), .mit b (kvT B').length (seen ++ [q])]) (ds := lkC x) [(1, .mp b), (3, .d (.ep [nI k, ga, gb, gc, gd, ge, .any])), (7, .mp ia), (8, .mp M.length), (28, .bp (M.length + 1) 0), (9, .d (.ep (lkC x)))] ?_ (by simp; omega) (by rw [List.all_append, refs_mono (by simp) hMr]; simp [refOb, Nat.blt_eq]; omega) (by rfl) (ofList_cases (by intro q hq; simp only [List.mem_cons, List.not_mem_nil, or_false] at hq; rcases hq with rfl | rfl | rfl | rfl | rfl | rfl; exact .inl (by kernel_rfl); exact .inl (by kernel_rfl); exact .inl (by kernel_rfl); exact .inl (by kernel_rfl); exact .inl (by kernel_rfl); exact .inr ⟨0, Nat.zero_le _, by kernel_rfl, rfl⟩)) ⟨by simp [refA, Nat.blt_eq]; omega, rfl, by simp [refA, Nat.blt_eq]; omega, by simp [refA, Nat.blt_eq], by simp [refA, Nat.blt_eq], rfl, trivial⟩
        repeat refine zS ?_
        iterate 5 refine zX ?_
        by_cases hxk : x.length = k
        · refine zV (show AV.d (.bool (((x.length : Nat) : Int) == ((k : Nat) : Int))) = .d (.bool true) by simp [hxk]) ?_
          repeat refine zS ?_
          refine zX ?_
          refine oV (v := .d (nI A'.length)) ?_ (hv := evAny_lenM rfl rfl rfl rfl rfl rfl (getO hMa)) (he := by rw [hkA])
          by_cases hA0 : A'.length = 0
          · refine zV (show AV.d (.bool (decide (((A'.length : Nat) : Int) > 0))) = .d (.bool false) by rw [decide_eq_false (by omega)]) ?_
            repeat refine zS ?_
            have hA00 : A' = [] := List.length_eq_zero_iff.1 hA0
            exact ⟨(out, seen ++ [q]), ⟨i1, j2, j3, j4 out fun z => ⟨.inl, fun h => h.elim id fun ⟨v, hv, _⟩ => by rw [hA00] at hv; cases hv⟩⟩, by simp only [List.length_append, List.length_cons, List.length_nil]; omega, tdy _ [] out _ rfl rfl rfl rfl rfl⟩
          · refine zV (show AV.d (.bool (decide (((A'.length : Nat) : Int) > 0))) = .d (.bool true) by rw [decide_eq_true (by omega)]) ?_
            repeat refine zS ?_
            iterate 2 refine zX ?_
            refine oV (v := .d .any) (objs' := M ++ [.map (kvT (insT1 out x)), .mit b (kvT B').length (seen ++ [q])]) ?_ (hv := evAny_insT (x := x) rfl rfl rfl get0 rfl rfl hx4) (ho := by exact setL0)
            repeat refine zS ?_
            have htk : ∀ v : List Nat, (x ++ v).take k = x := fun v => List.take_left' hxk
            refine ⟨(insT1 out x, seen ++ [q]), ⟨nodup_insT1 i1, j2, j3, j4 _ fun z => ?_⟩, by simp only [List.length_append, List.length_cons, List.length_nil]; omega, tdy _ [] _ _ rfl rfl rfl rfl rfl⟩
            rw [mem_insT1]
            constructor
            · rintro (h | rfl)
              · exact .inl h
              · obtain ⟨v, hv⟩ := List.exists_mem_of_ne_nil A' (fun e => hA0 (by rw [e]; rfl))
                exact .inr ⟨v, hv, (htk v).symm⟩
            · rintro (h | ⟨v, _, h⟩)
              · exact .inl h
              · rw [htk] at h; exact .inr h
        · refine zV (show AV.d (.bool (((x.length : Nat) : Int) == ((k : Nat) : Int))) = .d (.bool false) by simp; omega) ?_
          repeat refine zS ?_
          refine zX ?_
          refine oRange Et_ok ?_ (hi := getO hMa)
          repeat refine zS ?_
          refine Run.loopT (fun y : List (List Nat) × List Nat => ⟨PT.ofList [(1, .mp b), (3, .d (.ep [nI k, ga, gb, gc, gd, ge, .any])), (7, .mp ia), (8, .mp M.length), (28, .bp (M.length + 1) 0), (9, .d (.ep (lkC x))), (45, .bp (M.length + 2) 0)], M ++ [.map (kvT y.1), .mit b (kvT B').length (seen ++ [q]), .mit ia (kvT A').length y.2], []⟩)
            (fun y => y.1.Nodup ∧ y.2.Nodup ∧ (∀ r ∈ y.2, r < A'.length) ∧ ∀ z, z ∈ y.1 ↔ z ∈ out ∨ ∃ r ∈ y.2, ∃ v, A'[r]? = some v ∧ z = (x ++ v).take k) (fun y => A'.length - y.2.length) (out, []) ⟨i1, by simp, by simp, by simp⟩ ?_ (fun ⟨out2, seen2⟩ ⟨k1, k2, k3, k4⟩ => ?_)
          · rw [List.append_assoc]
            exact tdy3 _ [] out (seen ++ [q]) [] x rfl rfl rfl rfl rfl rfl (Eq.trans (b := some (.bp (M ++ [.map (kvT out), .mit b (kvT B').length (seen ++ [q])] : List Ob).length 0)) rfl (by simp))
          · simp only at k1 k2 k3 k4
            repeat refine zS ?_
            refine oNext (i := ia) (j := M.length + 2) (kvs := kvT A') (seen := seen2) (fun q2 p2 hq2 hns2 => ?_) (fun hall2 => ?_) (hj := get2) (hi := getO hMa)
            · obtain ⟨v, hv, rfl⟩ : ∃ v, A'[q2]? = some v ∧ p2 = (lk v, .bool true) := by
                rw [List.getElem?_map] at hq2
                cases e : A'[q2]? with
                | none => rw [e] at hq2; cases hq2
                | some v => rw [e] at hq2; exact ⟨v, rfl, (Option.some.inj hq2).symm⟩
              have hql2 := (List.getElem?_eq_some_iff.1 hv).1
              have hvA := hA' v (List.mem_of_getElem? hv)
              have l2 : (seen2 ++ [q2]).Nodup := by
                rw [List.nodup_append]
                exact ⟨k2, by simp, fun a ha c hc e => by simp at hc; subst hc; exact hns2 (e ▸ ha)⟩
              have l3 : ∀ r ∈ seen2 ++ [q2], r < A'.length := fun r hr => by
                rcases List.mem_append.1 hr with h1 | h1
                · exact k3 r h1
                · simp at h1; omega
              have hsl3 := seen_le A'.length (seen2 ++ [q2]) l2 l3
              simp only [List.length_append, List.length_cons, List.length_nil] at hsl3
              have c := joinK k hk1 hk x v hxB.1 hvA
              have hz4 : ((x ++ v).take k).length ≤ 4 := by rw [List.length_take]; omega
              have l4 : ∀ z, z ∈ insT1 out2 ((x ++ v).take k) ↔ z ∈ out ∨ ∃ r ∈ seen2 ++ [q2], ∃ v, A'[r]? = some v ∧ z = (x ++ v).take k := fun z => by
                rw [mem_insT1, k4 z]
                constructor
                · rintro ((h | ⟨r, h1, h2⟩) | rfl)
                  · exact .inl h
                  · exact .inr ⟨r, by simp [h1], h2⟩
                  · exact .inr ⟨q2, by simp, v, hv, rfl⟩
                · rintro (h | ⟨r, h1, v', h2, h3⟩)
                  · exact .inl (.inl h)
                  · rcases List.mem_append.1 h1 with h1 | h1
                    · exact .inl (.inr ⟨r, h1, v', h2, h3⟩)
                    · simp at h1
                      subst h1
                      rw [hv] at h2; cases h2
                      exact .inr h3
              generalize hzz : (x ++ v).take k = z at c hz4 l4
              rw [setL2]
              refine zX ?_
              repeat refine zS ?_
              refine oEntry (i := ia) (j := M.length + 2) (q := q2) (kvs := kvT A') (seen := seen2) ?_ hq2 (hj := get2) (hi := getO hMa)
              iterate 2 refine zX ?_
              refine oV ?_ (hv := evAny_store_last)
              refine RunOps.nil ?_
              refine Run.dropLastD (m := O.length) (dl := []) (O := M ++ [.map (kvT out2), .mit b (kvT B').length (seen ++ [q]), .mit ia (kvT A').length (seen2 ++ [q2])]) (ds := lkC v) [(1, .mp b), (3, .d (.ep [nI k, ga, gb, gc, gd, ge, .any])), (7, .mp ia), (8, .mp M.length), (28, .bp (M.length + 1) 0), (9, .d (.ep (lkC x))), (45, .bp (M.length + 2) 0), (10, .d (.ep (lkC v)))] ?_ (by simp; omega) (by rw [List.all_append, refs_mono (by simp) hMr]; simp [refOb, Nat.blt_eq]; omega) (by rfl) (ofList_cases (by intro q hq; simp only [List.mem_cons, List.not_mem_nil, or_false] at hq; rcases hq with rfl | rfl | rfl | rfl | rfl | rfl | rfl | rfl; exact .inl (by kernel_rfl); exact .inl (by kernel_rfl); exact .inl (by kernel_rfl); exact .inl (by kernel_rfl); exact .inl (by kernel_rfl); exact .inl (by kernel_rfl); exact .inl (by kernel_rfl); exact .inr ⟨0, Nat.zero_le _, by kernel_rfl, rfl⟩)) ⟨by simp [refA, Nat.blt_eq]; omega, rfl, by simp [refA, Nat.blt_eq]; omega, by simp [refA, Nat.blt_eq], by simp [refA, Nat.blt_eq], rfl, by simp [refA, Nat.blt_eq], rfl, trivial⟩
              repeat refine zS ?_
              iterate 5 refine zX ?_
              refine zC c ?_
              iterate 4 refine zX ?_
              refine oV ?_ (hv := evAny_store_last)
              refine zX ?_
              refine RunOps.nil ?_
              refine Run.dropLastD (m := O.length) (dl := []) (O := M ++ [.map (kvT out2), .mit b (kvT B').length (seen ++ [q]), .mit ia (kvT A').length (seen2 ++ [q2])]) (ds := lkC z) [(1, .mp b), (3, .d (.ep [nI k, ga, gb, gc, gd, ge, .any])), (7, .mp ia), (8, .mp M.length), (28, .bp (M.length + 1) 0), (9, .d (.ep (lkC x))), (45, .bp (M.length + 2) 0), (11, .d (.ep (lkC z)))] ?_ (by simp; omega) (by rw [List.all_append, refs_mono (by simp) hMr]; simp [refOb, Nat.blt_eq]; omega) (by rfl) (ofList_cases (by intro q hq; simp only [List.mem_cons, List.not_mem_nil, or_false] at hq; rcases hq with rfl | rfl | rfl | rfl | rfl | rfl | rfl | rfl; exact .inl (by kernel_rfl); exact .inl (by kernel_rfl); exact .inl (by kernel_rfl); exact .inl (by kernel_rfl); exact .inl (by kernel_rfl); exact .inl (by kernel_rfl); exact .inl (by kernel_rfl); exact .inr ⟨0, Nat.zero_le _, by kernel_rfl, rfl⟩)) ⟨by simp [refA, Nat.blt_eq]; omega, rfl, by simp [refA, Nat.blt_eq]; omega, by simp [refA, Nat.blt_eq], by simp [refA, Nat.blt_eq], rfl, by simp [refA, Nat.blt_eq], rfl, trivial⟩
              repeat refine zS ?_
              iterate 2 refine zX ?_
              refine oV (v := .d .any) (objs' := M ++ [.map (kvT (insT1 out2 z)), .mit b (kvT B').length (seen ++ [q]), .mit ia (kvT A').length (seen2 ++ [q2])]) ?_ (hv := evAny_insT (x := z) rfl rfl rfl get0 rfl rfl hz4) (ho := by exact setL0)
              repeat refine zS ?_
              exact ⟨(insT1 out2 z, seen2 ++ [q2]), ⟨nodup_insT1 k1, l2, l3, l4⟩, by simp only [List.length_append, List.length_cons, List.length_nil]; omega, tdy3 _ [] _ _ _ x rfl rfl rfl rfl rfl rfl rfl⟩
            · refine zX ?_
              repeat refine zS ?_
              refine ⟨(out2, seen ++ [q]), ⟨k1, j2, j3, j4 out2 fun z => (k4 z).trans ⟨?_, ?_⟩⟩, by simp only [List.length_append, List.length_cons, List.length_nil]; omega, tdy _ [.mit ia (kvT A').length seen2] out2 _ rfl rfl rfl rfl rfl⟩
              · rintro (h | ⟨r, _, v, h1, h2⟩)
                · exact .inl h
                · exact .inr ⟨v, List.mem_of_getElem? h1, h2⟩
              · rintro (h | ⟨v, h1, h2⟩)
                · exact .inl h
                · obtain ⟨r, hr⟩ := List.getElem?_of_mem h1
                  exact .inr ⟨r, hall2 r (by rw [hkA]; exact (List.getElem?_eq_some_iff.1 hr).1), v, hr, h2⟩
      · have hper : (kvT out).Perm (kvT (ascOf (prs k B A))) := perm_asc i1 fun z => by
          rw [i4 z, mem_prs]
          constructor
          · rintro ⟨q, _, x, h1, v, h2, h3⟩
            exact ⟨x, hpB.mem_iff.1 (List.mem_of_getElem? h1), v, hpA.mem_iff.1 h2, h3⟩
          · rintro ⟨x, h1, v, h2, h3⟩
            obtain ⟨q, hq⟩ := List.getElem?_of_mem (hpB.mem_iff.2 h1)
            exact ⟨q, hall q (by rw [hkB]; exact (List.getElem?_eq_some_iff.1 hq).1), x, hq, v, hpA.mem_iff.2 h2, h3⟩
        refine zX ?_
        repeat refine zS ?_
        refine RunOps.closePm b (l := kvT B') (kvs := kvT B) (getO hMb) (hpB.map _) ?_
        rw [setO hbM]
        rcases hcl with ⟨hio, hc⟩ | ⟨hio, hc⟩
        · refine RunOps.closePm ia (l := kvT A') (kvs := kvT A) (getO (by rw [List.getElem?_set_ne (Ne.symm hiab)]; exact hMa)) (hpA.map _) ?_
          rw [setO (by rw [List.length_set]; exact hial), hc]
          have e : M.length = (O ++ [X1, X2]).length := by simp; omega
          refine RunOps.closePm M.length (l := kvT out) (kvs := kvT (ascOf (prs k B A))) (by rw [e]; exact get0) hper ?_
          rw [show ((O ++ [X1, X2]) ++ [Ob.map (kvT out), Ob.mit b (kvT B').length seen]).set M.length (Ob.pm (kvT (ascOf (prs k B A)))) = O ++ X1 :: X2 :: Ob.pm (kvT (ascOf (prs k B A))) :: [Ob.mit b (kvT B').length seen] from by rw [e, setL0, List.append_assoc]; rfl]
          iterate 2 refine zX ?_
          repeat refine zS ?_
          refine Run.ret ?_
          exact ⟨trivial, _, _, rfl, rfl, (by rw [← hMl]; exact .refl), wk_ends⟩
        · rw [hc]
          have e : M.length = (O ++ [X1, X2]).length := by simp; omega
          refine RunOps.closePm M.length (l := kvT out) (kvs := kvT (ascOf (prs k B A))) (by rw [e]; exact get0) hper ?_
          rw [show ((O ++ [X1, X2]) ++ [Ob.map (kvT out), Ob.mit b (kvT B').length seen]).set M.length (Ob.pm (kvT (ascOf (prs k B A)))) = O ++ X1 :: X2 :: Ob.pm (kvT (ascOf (prs k B A))) :: [Ob.mit b (kvT B').length seen] from by rw [e, setL0, List.append_assoc]; rfl]
          iterate 2 refine zX ?_
          repeat refine zS ?_
          refine Run.ret ?_
          exact ⟨trivial, _, _, rfl, rfl, (by rw [← hMl]; exact .refl), wk_ends⟩
theorem RunOps.wk {P : Program} {nt m : Nat} {ro' : Option Nat} {K : Ex → S → Prop} {ops : Array Oper} {lo : List Oper} {tm : PT AV} {objs objs' : List Ob} {dl : List Dl} (h : RunOps P nt m ro' ops lo ⟨tm, objs', dl⟩ K) (hw : WkObs objs objs') (hl : objs'.length = objs.length) (hm : m ≤ objs.length) (hr : objs'.all (refOb objs'.length) = true) :
    RunOps P nt m ro' ops lo ⟨tm, objs, dl⟩ K := by
  intro D0 β0 o0 w0 hb0 ro Q a w i hro hlo hK hs
  obtain ⟨D, β, h1, h2, h3⟩ := hs
  have hlen : β.length = objs.length := h1.heap.len
  have e : β.take objs'.length = β := List.take_of_length_le (by omega)
  have st := h1.weak hw (by omega) hr
  rw [e] at st
  exact h D0 β0 o0 w0 hb0 ro Q a w i hro hlo hK ⟨D, β, st, h2, h3⟩
structure TbS (O : List Ob) (st : AV) (b n : Nat) (sets : Nat → List (List Nat)) : Prop where
  n1 : n ≤ 1000
  row : ∃ r cs, st = .vs r 1 0 n ∧ O[r]? = some (.vec 62 false 1 n cs) ∧ ∀ a, a < n → ∃ ia, cs[a]? = some (.mp ia) ∧ O[ia]? = some (.pm (kvT (sets a))) ∧ ia ≠ b
  rt : ∀ a, a < n → (∀ x ∈ sets a, Rt x) ∧ (sets a).length ≤ 100000
def SymN (n s : Nat) : Prop := s < 8 ∨ (16 ≤ s ∧ s < 16 + n)
def syF (sets : Nat → List (List Nat)) (s : Nat) : List (List Nat) := if s < 8 then [[s]] else sets (s - 16)
def fstF (k : Nat) (sets : Nat → List (List Nat)) (B : List (List Nat)) (l : List Nat) : List (List Nat) := l.foldl (fun B s => ascOf (prs k B (syF sets s))) B
theorem fstF_succ {k : Nat} {sets : Nat → List (List Nat)} {B : List (List Nat)} {l : List Nat} {i s : Nat} (h : l[i]? = some s) : fstF k sets B (l.take (i + 1)) = ascOf (prs k (fstF k sets B (l.take i)) (syF sets s)) := by
  unfold fstF
  rw [List.take_add_one, h, List.foldl_append]; rfl
theorem syF_rt {O : List Ob} {st : AV} {b n : Nat} {sets : Nat → List (List Nat)} (h : TbS O st b n sets) {s : Nat} (hs : SymN n s) : (∀ x ∈ syF sets s, Rt x) ∧ (syF sets s).length ≤ 100000 := by
  unfold syF
  by_cases h8 : s < 8
  · rw [if_pos h8]
    exact ⟨fun x hx => by simp at hx; subst hx; exact ⟨by simp, by simpa using h8⟩, by simp⟩
  · rw [if_neg h8]
    rcases hs with h1 | ⟨h1, h2⟩
    · exact absurd h1 h8
    · exact h.rt (s - 16) (by omega)
theorem syF_S {O : List Ob} {st : AV} {b n : Nat} {sets : Nat → List (List Nat)} (h : TbS O st b n sets) {s : Nat} (hs : SymN n s) : SymS O st b (syF sets s) s := by
  unfold syF
  by_cases h8 : s < 8
  · rw [if_pos h8]; exact .inl ⟨h8, rfl⟩
  · rw [if_neg h8]
    rcases hs with h1 | ⟨h1, h2⟩
    · exact absurd h1 h8
    · obtain ⟨r, cs, e1, e2, e3⟩ := h.row
      obtain ⟨ia, f1, f2, f3⟩ := e3 (s - 16) (by omega)
      exact .inr ⟨s - 16, ia, r, n, cs, by omega, by omega, h.n1, e1, e2, f1, f2, f3⟩
def tlF (n : Nat) (F : List (List Nat)) : List Ob := if n = 0 then [] else List.replicate (3 * n - 1) .gone ++ [.pm (kvT F)]
def ixF (b m n : Nat) : Nat := if n = 0 then b else m + (3 * n - 1)
theorem tlF_len (n : Nat) (F : List (List Nat)) : (tlF n F).length = 3 * n := by
  unfold tlF
  split
  · simp_all
  · simp; omega
theorem tlF_refs {n m : Nat} {F : List (List Nat)} : (tlF n F).all (refOb m) = true := by
  unfold tlF
  split
  · rfl
  · rw [List.all_append, List.all_eq_true.2 (fun x hx => by rw [List.eq_of_mem_replicate hx]; rfl)]; rfl
theorem wk_tl {O : List Ob} {n : Nat} {F F' : List (List Nat)} : WkObs ((O ++ tlF n F) ++ [.gone, .gone, .pm (kvT F')]) (O ++ tlF (n + 1) F') := by
  have key : ∀ (X Y Z : List Ob), WkObs X Y → WkObs (O ++ X) (O ++ Y) := fun X Y _ h => by
    induction O with
    | nil => exact h
    | cons a O ih => exact ⟨.refl, ih⟩
  rw [List.append_assoc]
  refine key _ _ [] ?_
  unfold tlF
  rw [if_neg (show n + 1 ≠ 0 by omega)]
  have rep : ∀ (j : Nat) (Y Z : List Ob), WkObs Y Z → WkObs (List.replicate j .gone ++ Y) (List.replicate j .gone ++ Z) := fun j Y Z h => by
    induction j with
    | zero => exact h
    | succ j ih => exact ⟨.refl, ih⟩
  split
  · rename_i h0; subst h0
    exact ⟨.refl, .refl, .refl, trivial⟩
  · rename_i h0
    rw [List.append_assoc, show 3 * (n + 1) - 1 = (3 * n - 1) + 3 by omega, ← List.replicate_append_replicate, List.append_assoc]
    exact rep _ _ _ ⟨.gone, .refl, .refl, .refl, trivial⟩
theorem fst_ok {k n : Nat} (hk : k ≤ 4) {O : List Ob} {st : AV} {b : Nat} {sets : Nat → List (List Nat)} (h : TbS O st b n sets) : ∀ {l : List Nat} {B : List (List Nat)}, (∀ x ∈ B, Rt x ∧ x.length ≤ k) → (∀ s ∈ l, SymN n s) → ∀ x ∈ fstF k sets B l, Rt x ∧ x.length ≤ k
  | [], B, hB, _ => hB
  | s :: l, B, hB, hl => by
    refine fst_ok hk h (l := l) (B := ascOf (prs k B (syF sets s))) (fun x hx => ?_) fun s hs => hl s (by simp [hs])
    have hx' := mem_asc.1 hx
    refine ⟨prs_rt hk (fun x hx => (hB x hx).1) (syF_rt h (hl s (by simp))).1 x hx', ?_⟩
    obtain ⟨u, _, v, _, rfl⟩ := mem_prs.1 hx'
    rw [List.length_take]; omega
theorem TbS.app {O X : List Ob} {st : AV} {b b' n : Nat} {sets : Nat → List (List Nat)} (h : TbS O st b n sets) (hb : b' = b ∨ O.length ≤ b') : TbS (O ++ X) st b' n sets :=
  ⟨h.n1, by
    obtain ⟨r, cs, e1, e2, e3⟩ := h.row
    refine ⟨r, cs, e1, getO e2, fun a ha => ?_⟩
    obtain ⟨ia, f1, f2, f3⟩ := e3 a ha
    refine ⟨ia, f1, getO f2, ?_⟩
    have := (List.getElem?_eq_some_iff.1 f2).1
    rcases hb with rfl | hb
    · exact f3
    · omega, h.rt⟩
theorem TbS.set {O : List Ob} {st : AV} {b n : Nat} {sets : Nat → List (List Nat)} (h : TbS O st b n sets) {x y : List (DV × DV)} (hb : O[b]? = some (.map x)) : TbS (O.set b (.pm y)) st b n sets :=
  ⟨h.n1, by
    obtain ⟨r, cs, e1, e2, e3⟩ := h.row
    refine ⟨r, cs, e1, ?_, fun a ha => ?_⟩
    · by_cases e : b = r
      · subst e; rw [hb] at e2; cases e2
      · rw [List.getElem?_set_ne e]; exact e2
    · obtain ⟨ia, f1, f2, f3⟩ := e3 a ha
      exact ⟨ia, f1, by rw [List.getElem?_set_ne (Ne.symm f3)]; exact f2, f3⟩, h.rt⟩
theorem at_ix {O : List Ob} {b m i : Nat} {F : List (List Nat)} (hm : O.length = m) (h0 : i = 0 → O[b]? = some (.pm (kvT F))) : (O ++ tlF i F)[ixF b m i]? = some (.pm (kvT F)) := by
  unfold tlF ixF
  split
  · rename_i h; simpa using h0 h
  · rw [List.getElem?_append_right (by omega), List.getElem?_append_right (by simp; omega)]
    simp only [List.length_replicate]
    rw [show m + (3 * i - 1) - O.length - (3 * i - 1) = 0 by omega]; rfl
theorem wk_refl : ∀ X : List Ob, WkObs X X
  | [] => trivial
  | _ :: X => ⟨.refl, wk_refl X⟩
set_option maxHeartbeats 4000000 in
theorem foldA (O : List Ob) (hO : O.all (refOb O.length) = true) (k : Nat) (hk1 : 1 ≤ k) (hk : k ≤ 4) (g : DV × DV × DV × DV × DV) (st : AV) (b n : Nat) (sets : Nat → List (List Nat)) (hT : TbS O st b n sets) (B : List (List Nat)) (hb : O[b]? = some (.map (kvT B))) (hB : ∀ x ∈ B, Rt x ∧ x.length ≤ k) (l : List Nat) (hl : ∀ s ∈ l, SymN n s) (hll : l.length ≤ 1000) :
    ACall Tryz.prog 61 [.mp b, .fn (.func 62) [.agg (tbC k g st)] [], .d (.sl 1 (l.map nI))] O (.mp (ixF b O.length l.length)) (O.set b (.pm (kvT B)) ++ tlF l.length (fstF k sets B l)) := by
  have w : Fz [] := trivial
  have hbl := (List.getElem?_eq_some_iff.1 hb).1
  have hml : (l.map nI).length = l.length := by simp
  have hO' : (O.set b (.pm (kvT B))).all (refOb O.length) = true := refs_set hO rfl
  have hT' := hT.set (y := kvT B) hb
  have hbS : (O.set b (.pm (kvT B)))[b]? = some (.pm (kvT B)) := List.getElem?_set_self hbl
  have hOl : (O.set b (.pm (kvT B))).length = O.length := by simp
  refine acallG_of_run Et_ok (fnB Tryz.func61 []) rfl rfl (by simp) ?_ ?_ ?_
  · rw [List.all_append, refs_mono (by simp) hO', tlF_refs]; rfl
  · unfold ixF
    split
    · simp [refA, Nat.blt_eq]; omega
    · simp [refA, Nat.blt_eq, tlF_len]; omega
  have w : Fz [] := trivial
  have hfr : ∀ m, O.length ≤ m → refA 8 m (.fn (.func 62) [.agg (tbC k g st)] []) = true := fun m hm => by
    obtain ⟨r, cs, rfl, hr, _⟩ := hT.row
    have := (List.getElem?_eq_some_iff.1 hr).1
    simp [refA, tbC, Nat.blt_eq]; omega
  refine Run.closePm b (l := kvT B) (kvs := kvT B) hb (.refl _) ?_
  generalize hOO : O.set b (.pm (kvT B)) = O2 at *
  repeat refine zS ?_
  refine zX ?_
  repeat refine zS ?_
  iterate 3 refine zX ?_
  repeat refine zS ?_
  refine Run.loopT (fun i : Nat => ⟨PT.ofList [(0, .mp (ixF b O.length i)), (1, .fn (.func 62) [.agg (tbC k g st)] []), (9, .d (.sl 1 (l.map nI))), (10, .d (nI (l.map nI).length)), (11, .d (nI i))], O2 ++ tlF i (fstF k sets B (l.take i)), []⟩) (fun i => i ≤ l.length) (fun i => l.length - i) 0 (Nat.zero_le _) ?_ (fun i hi => ?_)
  · exact tidy_of _ O.length (by rw [List.take_of_length_le (by omega)]; simp [tlF]) (Nat.ble_eq_true_of_le (Nat.le_refl _)) ⟨.inl rfl, .inl rfl, .inl rfl, .inl rfl, .inl rfl, trivial⟩ ⟨by simp [refA, Nat.blt_eq, ixF]; exact hbl, hfr _ (Nat.le_refl _), rfl, rfl, rfl, trivial⟩ (by simp only [tlF, if_true, List.append_nil]; exact hO') rfl
  · rcases Nat.lt_or_ge i l.length with hil | hig
    · obtain ⟨s, hs⟩ := get_ok hil
      have hsy := hl s (List.mem_of_getElem? hs)
      have hF0 : i = 0 → O2[b]? = some (.pm (kvT (fstF k sets B (l.take i)))) := fun e => by subst e; exact hbS
      have hFk := fst_ok hk hT (l := l.take i) hB fun s hs => hl s (List.mem_of_mem_take hs)
      have hFs := fstF_succ (k := k) (sets := sets) (B := B) hs
      generalize fstF k sets B (l.take i) = F at *
      have hix : ixF b O.length i = b ∨ O2.length ≤ ixF b O.length i := by
        unfold ixF
        split
        · exact .inl rfl
        · right; omega
      have hc := thenA (O2 ++ tlF i F) (by rw [List.all_append, refs_mono (by simp; omega) hO', tlF_refs]; rfl) k hk1 hk g st (ixF b O.length i) F (syF sets s) (at_ix hOl hF0) hFk (syF_rt hT hsy).1 (syF_rt hT hsy).2 s (syF_S (hT'.app hix) hsy)
      obtain ⟨F', hF'⟩ : ∃ F', F' = fstF k sets B (l.take (i + 1)) := ⟨_, rfl⟩
      rw [← hFs, ← hF'] at hc
      repeat refine zS ?_
      refine zV (lt_true (show i < (l.map nI).length by rw [hml]; exact hil)) ?_
      repeat refine zS ?_
      refine zI w (.d (.ep [nI s])) hs ?_
      iterate 2 refine zX ?_
      repeat refine zS ?_
      iterate 3 refine zX ?_
      refine oA hc ?_
      refine RunOps.wk (objs' := O2 ++ tlF (i + 1) F') ?_ wk_tl (by simp [tlF_len]; omega) (by simp; omega) (by rw [List.all_append, refs_mono (by simp) (hOl.symm ▸ hO'), tlF_refs]; rfl)
      refine zX ?_
      repeat refine zS ?_
      iterate 2 refine zX ?_
      refine RunOps.nil ?_
      refine ⟨i + 1, hil, by omega, ?_⟩
      show Tidy _ _ ⟨PT.ofList _, O2 ++ tlF (i + 1) (fstF k sets B (l.take (i + 1))), []⟩
      rw [← hF']
      exact tidy_of _ (O2 ++ tlF (i + 1) F').length (List.take_length) (Nat.ble_eq_true_of_le (by simp; omega)) ⟨.inl (Eq.trans (b := some (.mp ((O2 ++ tlF i F).length + 2))) rfl (by congr 2; simp [ixF, tlF_len]; omega)), .inl rfl, .inl rfl, .inl rfl, .inl (inc_get rfl (by omega)), trivial⟩ ⟨by simp [refA, Nat.blt_eq, ixF, tlF_len]; omega, hfr _ (by simp; omega), rfl, rfl, rfl, trivial⟩ (by rw [List.all_append, refs_mono (by simp) (hOl.symm ▸ hO'), tlF_refs]; rfl) rfl
    · have hie : i = l.length := by omega
      subst hie
      rw [List.take_length]
      repeat refine zS ?_
      refine zV (lt_false (show (l.map nI).length ≤ l.length by rw [hml]; exact Nat.le_refl _)) ?_
      repeat refine zS ?_
      iterate 2 refine zX ?_
      repeat refine zS ?_
      refine Run.ret ?_
      exact ⟨trivial, _, _, rfl, rfl, .refl, wk_refl _⟩
section
variable {P : Program} {E : PT Ty} {frz : List Nat} {nt : Nat} {ops : Array Oper} {dead pk : Nat → Bool} {PN : DV → List Ob → Prop} {i : Nat} {acc : List Eff} {sts : List S} {l : List Oper} {o : Oper} {G : List Eff → List S → S → Prop} {tm tm' : PT AV} {objs objs' : List Ob} {dl : List Dl} {g : FuncId} {args : List AV} {r : AV}
theorem cAll (hA : ACall P g args objs r objs') (k : EvC P E frz nt ops dead pk PN (i + 1) (acc ++ [effOf (rd tm) objs o (some objs')]) (sts ++ [⟨tm, objs, dl⟩]) l ⟨tm', objs', dl⟩ G) (hd : dead i = false := by rfl) (hpk : pk i = false := by rfl) (hg : guardA ops (rd tm) o = some true := by rfl)
    (hc : callOf (rd tm) o.op = some (g, args) := by rfl) (hh : hintO o.dst frz = false := by rfl) (hp : isPan r = false := by rfl) (ht : setD nt tm o.dst r = some tm' := by rfl) : EvC P E frz nt ops dead pk PN i acc sts (o :: l) ⟨tm, objs, dl⟩ G :=
  EvC.any (oneH_ok (objs := objs) (ob := some objs') (fun o' h => by cases h; exact hA) (fun h => by cases h)) hd hpk hg (evAny_one hc hh) hp ht k
end
section
variable {E : PT Ty} {H : Hd} {frz : List Nat} {rd : Operand → AV} {objs : List Ob} {o : Oper} {t : TypeId} {x : Operand} {y : Ty} {i : Nat} {cs : List AV} {m k v : Operand}
theorem evOp_loadAgg (h1 : E.get? t = some y) (ha : isAggT y.desc = true) (hx : rd x = .bp i 0) (hi : objs[i]? = some (.box cs)) (hs : cs.length = y.size) : evOp E rd objs (.load t x) = some (mkAgg cs, objs, true) := by
  have hb : Nat.ble (0 + y.size) cs.length = true := Nat.ble_eq_true_of_le (by omega)
  simp only [evOp, loadR, h1, hx, hi, obCells, ha, hb, List.drop_zero, List.take_of_length_le (Nat.le_of_eq hs), pureR, if_true]
theorem evAny_loadAgg (hop : o.op = .load t x) (h1 : E.get? t = some y) (ha : isAggT y.desc = true) (hx : rd x = .bp i 0) (hi : objs[i]? = some (.box cs)) (hs : cs.length = y.size) : evAny E H frz rd objs o = some (mkAgg cs, none, true) := by
  have := evOp_loadAgg h1 ha hx hi hs
  obtain ⟨dst, op, ty, pos, after, guard⟩ := o
  simp only at hop
  subst hop
  simp only [evAny, quiet, this, Option.map_some]
theorem evAny_ins0 {x : List Nat} (hop : o.op = .insert t m k v) (h1 : Et.get? t = some ⟨.map 44 4, 1, 8, [.nilmap]⟩) (hm : rd m = .mp i) (hi : objs[i]? = some (.map [])) (hk : rd k = .d (lk x)) (hv : rd v = .d (.bool true)) :
    evAny Et H frz rd objs o = some (.d .any, some (objs.set i (.map (kvT [x]))), true) := by
  obtain ⟨dst, op, ty, pos, after, guard⟩ := o
  simp only at hop
  subst hop
  simp only [evAny, quiet, evOp, mapUpdateR, h1, hk, hv, keyTL, hm, hi, findKV, pureR, Option.map_some]
  rfl
end
def effs2 (ops : Array Oper) (anc : List Nat) (es : List Eff) (A : Nat) (ans : Nat → Nat → Bool) : Bool :=
  upTo ops.size fun i => upTo ops.size fun j => match es[i]?, es[j]? with
    | some (.b _), some (.b _) => !Nat.blt i j || bitN (anc.getD j 0) i || Nat.beq j A
    | some (.a (some p)), some (.b q) => ans i j || (bitN (anc.getD i 0) j || bitN (anc.getD j 0) i || (match q with | some q => !Nat.beq p q | none => false))
    | some _, some _ => true
    | _, _ => false
theorem effs2_eq (ops : Array Oper) (anc : List Nat) (es : List Eff) (A : Nat) (ans : Nat → Nat → Bool) : effs2 ops anc es A ans = effsOK ops anc es A ans := by
  unfold effs2 effsOK
  congr 1
  funext i
  congr 1
  funext j
  generalize es[i]? = a
  generalize es[j]? = b
  rcases a with _ | ⟨_ | _⟩ | _ <;> rcases b with _ | _ | _ <;> first | rfl | exact Bool.or_comm _ _
theorem draw2 {E : PT Ty} {ops : Array Oper} {es : List Eff} {ans : Nat → Nat → Bool} (h : (edgesOK ops && dstsOK ops && readsOK ops (ancs ops.toList []) && effs2 ops (ancs ops.toList []) es (freeIx ops (ancs ops.toList []) es) ans && lateOK E ops (ancs ops.toList []) es (freeIx ops (ancs ops.toList []) es)) = true) : drawB E ops es ans = true := by
  rw [effs2_eq] at h
  exact h
theorem wk_one {O X : List Ob} {a : Ob} : WkObs (O ++ a :: X) (O ++ .gone :: X) := by
  induction O with
  | nil => exact ⟨.gone, wk_refl X⟩
  | cons b O ih => exact ⟨.refl, ih⟩
def ixO (m n : Nat) : Nat := ixF (m + 1) (m + 2) n
set_option maxHeartbeats 4000000 in
theorem ofTA (O : List Ob) (hO : O.all (refOb O.length) = true) (k : Nat) (hk1 : 1 ≤ k) (hk : k ≤ 4) (g : DV × DV × DV × DV × DV) (st : AV) (n : Nat) (sets : Nat → List (List Nat)) (hT : TbS O st O.length n sets) (l : List Nat) (hl : ∀ s ∈ l, SymN n s) (hll : l.length ≤ 1000) :
    ACall Tryz.prog 33 [.agg (tbC k g st), .d (.sl 1 (l.map nI))] O (.mp (ixO O.length l.length)) (O ++ [.gone, .pm (kvT [[]])] ++ tlF l.length (fstF k sets [[]] l)) := by
  have w : Fz [] := trivial
  obtain ⟨r, cs, rfl, hr, hcs⟩ := hT.row
  have hrl := (List.getElem?_eq_some_iff.1 hr).1
  have hix : ixO O.length l.length < (O ++ [Ob.gone, .pm (kvT [[]])] ++ tlF l.length (fstF k sets [[]] l)).length := by
    unfold ixO ixF
    split
    · simp
    · simp [tlF_len]; omega
  refine acallG_of_run Et_ok (fnB Tryz.func33 []) rfl rfl (by simp) ?_ (by simp only [refA, Nat.blt_eq]; exact hix) ?_
  · rw [List.all_append, List.all_append, refs_mono (by simp) hO, tlF_refs]; rfl
  have w : Fz [] := trivial
  obtain ⟨ga, gb, gc, gd, ge⟩ := g
  repeat refine zS ?_
  iterate 2 refine zX ?_
  repeat refine zS ?_
  refine Run.drawC (frz := []) Et_ok (by kernel_rfl) [(4, 0), (4, 2)] ?_
  refine cX ?_
  refine cX ?_
  refine cX (v := .d .any) (objs' := (O ++ [.box (tbC k (ga, gb, gc, gd, ge) (.vs r 1 0 n))]) ++ [.map (kvT [[]])]) ?_ (hv := evAny_ins0 (x := []) rfl rfl rfl get0 rfl rfl) (ho := by exact setL0)
  refine cX ?_
  refine cX (v := .agg (tbC k (ga, gb, gc, gd, ge) (.vs r 1 0 n))) ?_ (hv := evAny_loadAgg rfl rfl rfl rfl getB rfl) (he := rfl)
  refine cX ?_
  refine cX ?_
  have hf := foldA ((O ++ [.box (tbC k (ga, gb, gc, gd, ge) (.vs r 1 0 n))]) ++ [.map (kvT [[]])]) (by
      rw [List.all_append, List.all_append, refs_mono (by simp) hO]
      simp [refOb, tbC, refA, Nat.blt_eq]; omega) k hk1 hk (ga, gb, gc, gd, ge) (.vs r 1 0 n) (O ++ [Ob.box (tbC k (ga, gb, gc, gd, ge) (.vs r 1 0 n))]).length n sets
    ((hT.app (X := [.box (tbC k (ga, gb, gc, gd, ge) (.vs r 1 0 n))]) (b' := (O ++ [Ob.box (tbC k (ga, gb, gc, gd, ge) (.vs r 1 0 n))]).length) (.inr (by simp))).app (.inl rfl)) [[]] get0 (fun x hx => by simp at hx; subst hx; exact ⟨⟨by simp, by simp⟩, by simp⟩) l hl hll
  refine cAll hf ?_
  refine cX ?_
  refine EvC.nil ⟨draw2 (by kernel_rfl), ⟨⟨_, _, _, _, _, _, _, rfl, rfl, rfl, rfl, evOp_loadAgg rfl rfl rfl get0 rfl, evOp_loadAgg rfl rfl rfl getB rfl⟩, ⟨_, _, _, _, _, _, _, rfl, rfl, rfl, rfl, evOp_loadAgg rfl rfl rfl getB rfl, evOp_loadAgg rfl rfl rfl getB rfl⟩, trivial⟩, ?_⟩
  repeat refine zS ?_
  refine Run.ret ?_
  refine ⟨trivial, _, _, rfl, rfl, (by unfold ixO; simp only [List.length_append, List.length_cons, List.length_nil]; exact .refl), ?_⟩
  show WkObs ((((O ++ [Ob.box (tbC k (ga, gb, gc, gd, ge) (.vs r 1 0 n))]) ++ [Ob.map (kvT [[]])]).set (O ++ [Ob.box (tbC k (ga, gb, gc, gd, ge) (.vs r 1 0 n))]).length (.pm (kvT [[]]))) ++ tlF l.length (fstF k sets [[]] l)) _
  rw [setL0, List.append_assoc, List.append_assoc, List.append_assoc]
  exact wk_one
def codeT (x : List Nat) : Nat := x.foldr (fun d r => (d + 1) + 9 * r) 0
theorem codeT_lt : ∀ {x : List Nat}, (∀ d ∈ x, d < 8) → codeT x < 9 ^ x.length
  | [], _ => by simp [codeT]
  | d :: x, h => by
    have h1 := codeT_lt (x := x) fun e he => h e (by simp [he])
    have h2 := h d (by simp)
    simp only [codeT, List.foldr_cons, List.length_cons, Nat.pow_succ] at h1 ⊢
    omega
theorem codeT_inj : ∀ {x y : List Nat}, (∀ d ∈ x, d < 8) → (∀ d ∈ y, d < 8) → codeT x = codeT y → x = y
  | [], [], _, _, _ => rfl
  | [], e :: y, _, _, h => by simp only [codeT, List.foldr_nil, List.foldr_cons] at h; omega
  | d :: x, [], _, _, h => by simp only [codeT, List.foldr_nil, List.foldr_cons] at h; omega
  | d :: x, e :: y, hx, hy, h => by
    have h1 := hx d (by simp)
    have h2 := hy e (by simp)
    simp only [codeT, List.foldr_cons] at h
    have h3 := codeT_inj (x := x) (y := y) (fun e he => hx e (by simp [he])) (fun e he => hy e (by simp [he])) (by simp only [codeT]; omega)
    subst h3
    congr 1
    omega
theorem rt_card {L : List (List Nat)} (hn : L.Nodup) (h : ∀ x ∈ L, Rt x) : L.length ≤ 6561 := by
  have h1 := seen_le 6561 (L.map codeT) (by
    rw [List.Nodup, List.pairwise_map]
    exact hn.imp_of_mem fun ha hb hab e => hab (codeT_inj (h _ ha).lt (h _ hb).lt e)) fun c hc => by
      obtain ⟨x, hx, rfl⟩ := List.mem_map.1 hc
      have h2 := codeT_lt (h x hx).lt
      have h3 := (h x hx).len
      exact Nat.lt_of_lt_of_le h2 (Nat.pow_le_pow_right (n := 9) (by omega) h3)
  simpa using h1
abbrev Sets := Nat → List (List Nat)
def updT (S : Sets) (a : Nat) (X : List (List Nat)) (c : Nat) : List (List Nat) := if c = a then X else S c
def stepS (k : Nat) (S : Sets) (p : Nat × List Nat) : Sets := updT S p.1 (ascOf (S p.1 ++ fstF k S [[]] p.2))
def roundS (k : Nat) (ps : List (Nat × List Nat)) (S : Sets) : Sets := ps.foldl (stepS k) S
def itS (k : Nat) (ps : List (Nat × List Nat)) : Nat → Sets
  | 0 => fun _ => []
  | m + 1 => roundS k ps (itS k ps m)
def setsF (k n : Nat) (ps : List (Nat × List Nat)) : Sets := itS k ps (6562 * (n + 1))
structure SOK (k : Nat) (S : Sets) : Prop where
  asc : ∀ a, Asc (S a)
  rt : ∀ a x, x ∈ S a → Rt x ∧ x.length ≤ k
structure PrOK (n : Nat) (ps : List (Nat × List Nat)) : Prop where
  lt : ∀ p ∈ ps, p.1 < n
  sy : ∀ p ∈ ps, ∀ s ∈ p.2, SymN n s
  len : ∀ p ∈ ps, p.2.length ≤ 1000
theorem syF_rt2 {n : Nat} {S : Sets} (h : ∀ a x, x ∈ S a → Rt x) {s : Nat} (hs : SymN n s) : ∀ x ∈ syF S s, Rt x := by
  unfold syF
  intro x hx
  by_cases h8 : s < 8
  · rw [if_pos h8] at hx
    simp at hx; subst hx; exact ⟨by simp, by simpa using h8⟩
  · rw [if_neg h8] at hx
    exact h _ x hx
theorem fst_rt {k n : Nat} (hk : k ≤ 4) {S : Sets} (h : ∀ a x, x ∈ S a → Rt x) : ∀ {l : List Nat} {B : List (List Nat)}, (∀ x ∈ B, Rt x ∧ x.length ≤ k) → (∀ s ∈ l, SymN n s) → ∀ x ∈ fstF k S B l, Rt x ∧ x.length ≤ k
  | [], B, hB, _ => hB
  | s :: l, B, hB, hl => by
    refine fst_rt hk h (l := l) (B := ascOf (prs k B (syF S s))) (fun x hx => ?_) fun s hs => hl s (by simp [hs])
    have hx' := mem_asc.1 hx
    refine ⟨prs_rt hk (fun x hx => (hB x hx).1) (syF_rt2 h (hl s (by simp))) x hx', ?_⟩
    obtain ⟨u, _, v, _, rfl⟩ := mem_prs.1 hx'
    rw [List.length_take]; omega
theorem emp_rt {k : Nat} : ∀ x ∈ ([[]] : List (List Nat)), Rt x ∧ x.length ≤ k := fun x hx => by simp at hx; subst hx; exact ⟨⟨by simp, by simp⟩, by simp⟩
theorem fst_asc {k : Nat} {S : Sets} : ∀ {l : List Nat} {B : List (List Nat)}, Asc B → Asc (fstF k S B l)
  | [], _, h => h
  | _ :: l, _, _ => fst_asc (l := l) (asc_asc _)
theorem emp_asc : Asc ([[]] : List (List Nat)) := by simp [Asc]
theorem step_sok {k n : Nat} (hk : k ≤ 4) {S : Sets} (h : SOK k S) {p : Nat × List Nat} (hp : ∀ s ∈ p.2, SymN n s) : SOK k (stepS k S p) := by
  refine ⟨fun a => ?_, fun a x hx => ?_⟩
  · unfold stepS updT
    split
    · exact asc_asc _
    · exact h.asc a
  · unfold stepS updT at hx
    split at hx
    · rcases List.mem_append.1 (mem_asc.1 hx) with h1 | h1
      · exact h.rt _ x h1
      · exact fst_rt hk (fun a x hx => (h.rt a x hx).1) emp_rt hp x h1
    · exact h.rt a x hx
theorem fold_sok {k n : Nat} (hk : k ≤ 4) : ∀ {ps : List (Nat × List Nat)} {S : Sets}, SOK k S → (∀ p ∈ ps, ∀ s ∈ p.2, SymN n s) → SOK k (roundS k ps S)
  | [], _, h, _ => h
  | p :: ps, _, h, hp => fold_sok hk (ps := ps) (step_sok hk h (hp p (by simp))) fun q hq => hp q (by simp [hq])
theorem it_sok {k n : Nat} (hk : k ≤ 4) {ps : List (Nat × List Nat)} (hp : ∀ p ∈ ps, ∀ s ∈ p.2, SymN n s) : ∀ m, SOK k (itS k ps m)
  | 0 => ⟨fun _ => by simp [itS, Asc], fun _ _ h => by simp [itS] at h⟩
  | m + 1 => fold_sok hk (it_sok hk hp m) hp
def tot (S : Sets) : Nat → Nat
  | 0 => 0
  | n + 1 => tot S n + (S n).length
theorem tot_far {S : Sets} {a : Nat} {X : List (List Nat)} : ∀ {n}, n ≤ a → tot (updT S a X) n = tot S n
  | 0, _ => rfl
  | n + 1, h => by simp only [tot]; rw [tot_far (by omega), updT, if_neg (by omega)]
theorem tot_upd {S : Sets} {a : Nat} {X : List (List Nat)} : ∀ {n}, a < n → tot (updT S a X) n + (S a).length = tot S n + X.length
  | n + 1, h => by
    simp only [tot]
    rcases Nat.lt_or_ge a n with h1 | h1
    · have := tot_upd (S := S) (X := X) h1
      rw [updT, if_neg (by omega)]; omega
    · have : a = n := by omega
      subst this
      rw [tot_far (Nat.le_refl _), updT, if_pos rfl]; omega
theorem tot_le {k : Nat} {S : Sets} (h : SOK k S) : ∀ n, tot S n ≤ n * 6561
  | 0 => by simp [tot]
  | n + 1 => by
    have h1 := tot_le h n
    have h2 := rt_card (asc_nodup (h.asc n)) fun x hx => (h.rt n x hx).1
    simp only [tot]; omega
theorem nodup_le {α : Type} [DecidableEq α] : ∀ {l m : List α}, l.Nodup → (∀ x ∈ l, x ∈ m) → l.length ≤ m.length
  | [], _, _, _ => by simp
  | a :: l, m, hn, h => by
    have hm := h a (by simp)
    have h0 := List.nodup_cons.1 hn
    have h1 := nodup_le (l := l) (m := m.erase a) h0.2 fun x hx => (List.mem_erase_of_ne (fun e : x = a => h0.1 (by rw [← e]; exact hx))).2 (h x (by simp [hx]))
    rw [List.length_erase_of_mem hm] at h1
    have := List.length_pos_of_mem hm
    simp only [List.length_cons]; omega
theorem asc_more {A F : List (List Nat)} (hA : Asc A) {z : List Nat} (hz : z ∈ F) (hn : z ∉ A) : A.length < (ascOf (A ++ F)).length := by
  have h1 : (A ++ [z]).Nodup := by
    rw [List.nodup_append]
    exact ⟨asc_nodup hA, by simp, fun a ha b hb e => by simp at hb; subst hb; exact hn (e ▸ ha)⟩
  have h2 := nodup_le h1 (m := ascOf (A ++ F)) fun x hx => mem_asc.2 (by
    rcases List.mem_append.1 hx with h | h
    · simp [h]
    · simp at h; subst h; simp [hz])
  rw [List.length_append] at h2
  simp at h2
  omega
theorem asc_same {A F : List (List Nat)} (hA : Asc A) (h : ∀ z ∈ F, z ∈ A) : ascOf (A ++ F) = A :=
  asc_ext (asc_asc _) hA fun z => by
    rw [mem_asc, List.mem_append]
    exact ⟨fun h1 => h1.elim id (h z), .inl⟩
theorem upd_same {S : Sets} {a : Nat} : updT S a (S a) = S := by
  funext c
  unfold updT
  split
  · rename_i h; rw [h]
  · rfl
theorem it_stay {k : Nat} {ps : List (Nat × List Nat)} {m : Nat} (h : itS k ps (m + 1) = itS k ps m) : ∀ d, itS k ps (m + d) = itS k ps m
  | 0 => rfl
  | d + 1 => by
    show roundS k ps (itS k ps (m + d)) = _
    rw [it_stay h d]; exact h
theorem sets_of {k n : Nat} {ps : List (Nat × List Nat)} {m : Nat} (h : itS k ps (m + 1) = itS k ps m) (hm : m ≤ 6562 * (n + 1)) : setsF k n ps = itS k ps m := by
  have := it_stay h (6562 * (n + 1) - m)
  rw [show m + (6562 * (n + 1) - m) = 6562 * (n + 1) by omega] at this
  exact this
end Go.Av
end

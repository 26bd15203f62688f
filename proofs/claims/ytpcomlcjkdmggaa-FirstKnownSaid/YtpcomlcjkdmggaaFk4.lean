/-
  Parts of the way to the law, joined. Conditions stand at each.
-/
import Derived.Test.YtpcomlcjkdmggaaFk2
import Derived.Test.YtpcomlcjkdmggaaRows
import Derived.Test.YtpcomlcjkdmggaaFk3
import Derived.Shelf.SlSortCmp.NoneTotal
import Derived.Ground.SlsfProg
import Derived.Test.YtpcomlcjkdmggaaProg
set_option linter.all false
namespace Go.Av
open Go Go.Proofs
def ty2 : Ty := ⟨.int .i64, 1, 8, [(.int .i64 0)]⟩
def ty3 : Ty := ⟨.int .i64, 1, 8, [(.int .i64 0)]⟩
def ty4 : Ty := ⟨.bool, 1, 1, [(.bool false)]⟩
def ty5 : Ty := ⟨.int .u8, 1, 1, [(.int .u8 0)]⟩
def ty9 : Ty := ⟨.string, 1, 16, [(.str [])]⟩
def ty21 : Ty := ⟨.int .i32, 1, 4, [(.int .i32 0)]⟩
def ty22 : Ty := ⟨.slice 3, 1, 24, [.nilsl]⟩
def ty23 : Ty := ⟨.slice 9, 1, 24, [.nilsl]⟩
def ty24 : Ty := ⟨.slice 48, 1, 24, [.nilsl]⟩
def ty26 : Ty := ⟨.struct #[⟨ "K", 3, 0, false, "", "", 0⟩, ⟨ "Tokens", 23, 1, false, "", "", 8⟩, ⟨ "Sep", 9, 2, false, "", "", 32⟩, ⟨ "Names", 23, 3, false, "", "", 48⟩, ⟨ "Start", 3, 4, false, "", "", 72⟩, ⟨ "Prods", 24, 5, false, "", "", 80⟩], 6, 104, [(.int .i64 0), .nilsl, (.str []), .nilsl, (.int .i64 0), .nilsl]⟩
def ty28 : Ty := ⟨.slice 38, 1, 24, [.nilsl]⟩
def ty29 : Ty := ⟨.int .i64, 1, 8, [(.int .i64 0)]⟩
def ty36 : Ty := ⟨.array 4 3, 4, 32, [(.int .i64 0), (.int .i64 0), (.int .i64 0), (.int .i64 0)]⟩
def ty38 : Ty := ⟨.struct #[⟨ "N", 3, 0, false, "", "", 0⟩, ⟨ "S", 36, 1, false, "", "", 8⟩], 5, 40, [(.int .i64 0), (.int .i64 0), (.int .i64 0), (.int .i64 0), (.int .i64 0)]⟩
def ty44 : Ty := ⟨.slice 28, 1, 24, [.nilsl]⟩
def ty48 : Ty := ⟨.struct #[⟨ "Left", 3, 0, false, "", "", 0⟩, ⟨ "Right", 22, 1, false, "", "", 8⟩], 2, 32, [(.int .i64 0), .nilsl]⟩
def ty64 : Ty := ⟨.slice 5, 1, 24, [.nilsl]⟩
def ty65 : Ty := ⟨.int .u64, 1, 8, [(.int .u64 0)]⟩
def ty68 : Ty := ⟨.map 38 4, 1, 8, [.nilmap]⟩
def ty69 : Ty := ⟨.slice 68, 1, 24, [.nilsl]⟩
def ty71 : Ty := ⟨.struct #[⟨ "g", 26, 0, false, "", "stenotype/first", 0⟩, ⟨ "sets", 69, 6, false, "", "stenotype/first", 104⟩], 7, 128, [(.int .i64 0), .nilsl, (.str []), .nilsl, (.int .i64 0), .nilsl, .nilsl]⟩
def ty75 : Ty := ⟨.func #[102] #[] false, 1, 8, [.nilfunc]⟩
def ty76 : Ty := ⟨.func #[102] #[] false, 1, 8, [.nilfunc]⟩
def ty79 : Ty := ⟨.func #[26] #[29] false, 1, 8, [.nilfunc]⟩
def ty82 : Ty := ⟨.func #[38, 38] #[3] false, 1, 8, [.nilfunc]⟩
def ty83 : Ty := ⟨.func #[4, 4] #[4] false, 1, 8, [.nilfunc]⟩
def ty91 : Ty := ⟨.func #[68, 3] #[68] false, 1, 8, [.nilfunc]⟩
def ty96 : Ty := ⟨.slice 79, 1, 24, [.nilsl]⟩
def ty98 : Ty := ⟨.slice 4, 1, 24, [.nilsl]⟩
def ty101 : Ty := ⟨.map 38 3, 1, 8, [.nilmap]⟩
def ty102 : Ty := ⟨.func #[38] #[4] false, 1, 8, [.nilfunc]⟩
def ty109 : Ty := ⟨.func #[149] #[] false, 1, 8, [.nilfunc]⟩
def ty110 : Ty := ⟨.func #[149] #[] false, 1, 8, [.nilfunc]⟩
def ty113 : Ty := ⟨.map 9 4, 1, 8, [.nilmap]⟩
def ty115 : Ty := ⟨.func #[3] #[4] false, 1, 8, [.nilfunc]⟩
def ty117 : Ty := ⟨.func #[48] #[4] false, 1, 8, [.nilfunc]⟩
def ty119 : Ty := ⟨.slice 2, 1, 24, [.nilsl]⟩
def ty124 : Ty := ⟨.int .i64, 1, 8, [(.int .i64 0)]⟩
def ty132 : Ty := ⟨.int .u32, 1, 4, [(.int .u32 0)]⟩
def ty134 : Ty := ⟨.int .u64, 1, 8, [(.int .u64 0)]⟩
def ty142 : Ty := ⟨.func #[48] #[2] false, 1, 8, [.nilfunc]⟩
def ty143 : Ty := ⟨.int .u64, 1, 8, [(.int .u64 0)]⟩
def ty147 : Ty := ⟨.pointer 3, 1, 8, [.nilptr]⟩
def ty149 : Ty := ⟨.func #[3, 48] #[4] false, 1, 8, [.nilfunc]⟩
def ty150 : Ty := ⟨.pointer 143, 1, 8, [.nilptr]⟩
def ty154 : Ty := ⟨.array 4 9, 4, 64, [(.str []), (.str []), (.str []), (.str [])]⟩
noncomputable def Et : PT Ty := (.node (.node (.node (.node (.node .nil none (.node (.node (.node .nil (some ty143) .nil) (some ty79) .nil) none .nil)) none (.node (.node (.node .nil (some ty71) .nil) none .nil) (some ty23) (.node .nil none (.node .nil (some ty119) .nil)))) (some ty3) (.node (.node .nil none (.node (.node (.node .nil (some ty147) .nil) (some ty83) .nil) none (.node .nil (some ty115) .nil))) none (.node (.node (.node .nil (some ty75) .nil) none .nil) none (.node (.node .nil (some ty91) .nil) none .nil)))) none (.node (.node (.node (.node (.node .nil (some ty65) .nil) none .nil) none (.node .nil none (.node .nil (some ty113) .nil))) (some ty9) .nil) (some ty5) (.node (.node (.node (.node .nil (some ty69) .nil) none (.node .nil (some ty101) .nil)) (some ty21) (.node (.node (.node .nil (some ty149) .nil) none .nil) none (.node .nil (some ty117) .nil))) none (.node (.node .nil none (.node .nil (some ty109) .nil)) (some ty29) .nil)))) none (.node (.node (.node (.node (.node (.node .nil (some ty64) .nil) none (.node .nil (some ty96) .nil)) none (.node .nil (some ty48) .nil)) none (.node .nil (some ty24) .nil)) (some ty4) (.node (.node (.node (.node (.node .nil (some ty132) .nil) (some ty68) .nil) (some ty36) .nil) none .nil) none (.node (.node (.node .nil (some ty76) .nil) (some ty44) .nil) (some ty28) (.node .nil none (.node .nil (some ty124) .nil))))) (some ty2) (.node (.node (.node (.node .nil none (.node .nil (some ty98) .nil)) none (.node (.node .nil (some ty82) .nil) none .nil)) none (.node .nil (some ty26) (.node (.node (.node .nil (some ty154) .nil) none .nil) none .nil))) none (.node (.node (.node (.node (.node .nil (some ty134) .nil) none .nil) (some ty38) (.node .nil (some ty102) .nil)) (some ty22) (.node (.node (.node .nil (some ty150) .nil) none .nil) none .nil)) none (.node (.node (.node (.node .nil (some ty142) .nil) none .nil) none (.node .nil (some ty110) .nil)) none .nil)))))
theorem Et_ok : EnvOK Try.prog Et := envOK_of ⟨trivial, ⟨trivial, ⟨⟨by kernel_rfl, by kernel_rfl⟩, ⟨trivial, ⟨trivial, trivial, ⟨trivial, ⟨⟨by kernel_rfl, by kernel_rfl⟩, ⟨⟨by kernel_rfl, by kernel_rfl⟩, trivial, trivial⟩, trivial⟩, trivial⟩⟩, ⟨⟨by kernel_rfl, by kernel_rfl⟩, ⟨trivial, ⟨⟨by kernel_rfl, by kernel_rfl⟩, trivial, trivial⟩, trivial⟩, ⟨trivial, trivial, ⟨⟨by kernel_rfl, by kernel_rfl⟩, trivial, trivial⟩⟩⟩⟩, ⟨trivial, ⟨trivial, trivial, ⟨trivial, ⟨⟨by kernel_rfl, by kernel_rfl⟩, ⟨⟨by kernel_rfl, by kernel_rfl⟩, trivial, trivial⟩, trivial⟩, ⟨⟨by kernel_rfl, by kernel_rfl⟩, trivial, trivial⟩⟩⟩, ⟨trivial, ⟨trivial, ⟨⟨by kernel_rfl, by kernel_rfl⟩, trivial, trivial⟩, trivial⟩, ⟨trivial, ⟨⟨by kernel_rfl, by kernel_rfl⟩, trivial, trivial⟩, trivial⟩⟩⟩⟩, ⟨⟨by kernel_rfl, by kernel_rfl⟩, ⟨⟨by kernel_rfl, by kernel_rfl⟩, ⟨trivial, ⟨trivial, ⟨⟨by kernel_rfl, by kernel_rfl⟩, trivial, trivial⟩, trivial⟩, ⟨trivial, trivial, ⟨⟨by kernel_rfl, by kernel_rfl⟩, trivial, trivial⟩⟩⟩, trivial⟩, ⟨trivial, ⟨⟨by kernel_rfl, by kernel_rfl⟩, ⟨trivial, ⟨⟨by kernel_rfl, by kernel_rfl⟩, trivial, trivial⟩, ⟨⟨by kernel_rfl, by kernel_rfl⟩, trivial, trivial⟩⟩, ⟨trivial, ⟨trivial, ⟨⟨by kernel_rfl, by kernel_rfl⟩, trivial, trivial⟩, trivial⟩, ⟨⟨by kernel_rfl, by kernel_rfl⟩, trivial, trivial⟩⟩⟩, ⟨⟨by kernel_rfl, by kernel_rfl⟩, ⟨trivial, trivial, ⟨⟨by kernel_rfl, by kernel_rfl⟩, trivial, trivial⟩⟩, trivial⟩⟩⟩⟩, ⟨⟨by kernel_rfl, by kernel_rfl⟩, ⟨⟨by kernel_rfl, by kernel_rfl⟩, ⟨trivial, ⟨trivial, ⟨trivial, ⟨⟨by kernel_rfl, by kernel_rfl⟩, trivial, trivial⟩, ⟨⟨by kernel_rfl, by kernel_rfl⟩, trivial, trivial⟩⟩, ⟨⟨by kernel_rfl, by kernel_rfl⟩, trivial, trivial⟩⟩, ⟨⟨by kernel_rfl, by kernel_rfl⟩, trivial, trivial⟩⟩, ⟨trivial, ⟨trivial, ⟨⟨by kernel_rfl, by kernel_rfl⟩, ⟨⟨by kernel_rfl, by kernel_rfl⟩, ⟨⟨by kernel_rfl, by kernel_rfl⟩, trivial, trivial⟩, trivial⟩, trivial⟩, trivial⟩, ⟨⟨by kernel_rfl, by kernel_rfl⟩, ⟨⟨by kernel_rfl, by kernel_rfl⟩, ⟨⟨by kernel_rfl, by kernel_rfl⟩, trivial, trivial⟩, trivial⟩, ⟨trivial, trivial, ⟨⟨by kernel_rfl, by kernel_rfl⟩, trivial, trivial⟩⟩⟩⟩⟩, ⟨trivial, ⟨trivial, ⟨trivial, ⟨trivial, trivial, ⟨⟨by kernel_rfl, by kernel_rfl⟩, trivial, trivial⟩⟩, ⟨trivial, ⟨⟨by kernel_rfl, by kernel_rfl⟩, trivial, trivial⟩, trivial⟩⟩, ⟨⟨by kernel_rfl, by kernel_rfl⟩, trivial, ⟨trivial, ⟨trivial, ⟨⟨by kernel_rfl, by kernel_rfl⟩, trivial, trivial⟩, trivial⟩, trivial⟩⟩⟩, ⟨trivial, ⟨⟨by kernel_rfl, by kernel_rfl⟩, ⟨⟨by kernel_rfl, by kernel_rfl⟩, ⟨trivial, ⟨⟨by kernel_rfl, by kernel_rfl⟩, trivial, trivial⟩, trivial⟩, ⟨⟨by kernel_rfl, by kernel_rfl⟩, trivial, trivial⟩⟩, ⟨trivial, ⟨trivial, ⟨⟨by kernel_rfl, by kernel_rfl⟩, trivial, trivial⟩, trivial⟩, trivial⟩⟩, ⟨trivial, ⟨trivial, ⟨trivial, ⟨⟨by kernel_rfl, by kernel_rfl⟩, trivial, trivial⟩, trivial⟩, ⟨⟨by kernel_rfl, by kernel_rfl⟩, trivial, trivial⟩⟩, trivial⟩⟩⟩⟩⟩
end Go.Av
noncomputable section
namespace Go.Av
open Go Go.Proofs
def Fz (_ : List Nat) : Prop := True
section
variable {frz : List Nat} {nt m : Nat} {ro' : Option Nat} {K : Ex → S → Prop} {ops : Array Oper} {l : List Oper} {o : Oper} {tm tm' tm1 tm0 : PT AV} {objs objs' : List Ob} {dl : List Dl} {b : Bool} {ob : Option (List Ob)} {fl : Bool} {s s0 : S} {i : Nat} {acc : List Eff} {G : S → Prop} {P A B X Y Q : Prop} {g : FuncId} {ds : List DV} {r : AV}
theorem oXw (_ : Fz frz) {v v' : AV} (k : RunOps Try.prog nt m ro' ops l ⟨tm', objs', dl⟩ K) (hg : guardA ops (rd tm) o = some true := by rfl) (hv : evAny Et H0 frz (rd tm) objs o = some (v', ob, fl) := by rfl) (hf : fl = true := by rfl)
    (he : v' = v := by first | (conv => lhs; dsimp only) | rfl) (ho : ob.getD objs = objs' := by first | (conv => lhs; dsimp only [Option.getD]) | rfl) (hp : isPan v = false := by rfl) (ht : setD nt tm o.dst v = some tm' := by rfl) :
    RunOps Try.prog nt m ro' ops (o :: l) ⟨tm, objs, dl⟩ K := RunOps.x Et_ok hg hv hf he ho hp ht k
theorem oXn (_ : Fz frz) {v v' : AV} (k : RunOps Try.prog nt m ro' ops l ⟨tm', objs', dl⟩ K) (_ : boolOp o.op = false := by rfl) (hg : guardA ops (rd tm) o = some true := by rfl) (hv : evAny Et H0 frz (rd tm) objs o = some (v', ob, fl) := by rfl) (hf : fl = true := by rfl)
    (he : v' = v := by first | (conv => lhs; dsimp only) | rfl) (ho : ob.getD objs = objs' := by first | (conv => lhs; dsimp only [Option.getD]) | rfl) (hp : isPan v = false := by rfl) (ht : setD nt tm o.dst v = some tm' := by rfl) :
    RunOps Try.prog nt m ro' ops (o :: l) ⟨tm, objs, dl⟩ K := RunOps.x Et_ok hg hv hf he ho hp ht k
theorem eXn {v v' : AV} (k : EvD Try.prog Et frz nt ops s0 (i + 1) (acc ++ [effOf (rd tm) objs o ob]) l ⟨tm', objs', dl⟩ G) (_ : boolOp o.op = false := by rfl) (hg : guardA ops (rd tm) o = some true := by rfl) (hv : evAny Et H0 frz (rd tm) objs o = some (v', ob, fl) := by rfl) (hf : fl = true := by rfl)
    (he : v' = v := by first | (conv => lhs; dsimp only) | rfl) (ho : ob.getD objs = objs' := by first | (conv => lhs; dsimp only [Option.getD]) | rfl) (hp : isPan v = false := by rfl) (ht : setD nt tm o.dst v = some tm' := by rfl) :
    EvD Try.prog Et frz nt ops s0 i acc (o :: l) ⟨tm, objs, dl⟩ G := EvD.x hg hv hf he ho hp ht k
theorem oBw (_ : Fz frz) (k1 : b = true → RunOps Try.prog nt m ro' ops l ⟨tm1, objs', dl⟩ K) (k0 : b = false → RunOps Try.prog nt m ro' ops l ⟨tm0, objs', dl⟩ K) (hb : boolOp o.op = true := by rfl) (hg : guardA ops (rd tm) o = some true := by rfl)
    (hv : evAny Et H0 frz (rd tm) objs o = some (.d (.bool b), ob, fl) := by rfl) (hf : fl = true := by rfl) (ho : ob.getD objs = objs' := by first | (conv => lhs; dsimp only [Option.getD]) | rfl) (ht1 : setD nt tm o.dst (.d (.bool true)) = some tm1 := by rfl) (ht0 : setD nt tm o.dst (.d (.bool false)) = some tm0 := by rfl) :
    RunOps Try.prog nt m ro' ops (o :: l) ⟨tm, objs, dl⟩ K := RunOps.xb Et_ok hb hg hv hf ho ht1 ht0 k1 k0
theorem dW (_ : Fz frz) {id : Nat} (h : EvD Try.prog Et frz nt ops s 0 [] ops.toList s (fun s' => K .normal s')) : Run Try.prog nt m ro' (.region id ops true) s K := Run.draw Et_ok (by kernel_rfl) h
theorem gD {α : Type} (l : List α) (i : Nat) (d : α) : l.getD i d = l[i]?.getD d := List.getD_eq_getElem?_getD
theorem ti {k : Nat} (l : List (Nat × AV)) (n : Nat) (ho : objs.take n = objs' := by rfl) (hn : Nat.ble k n = true := by rfl) (h : allTidy tm l := by repeat' (first | exact trivial | refine ⟨(Or.inl rfl), ?_⟩ | refine ⟨(Or.inr rfl), ?_⟩ | refine ⟨(Or.inl (inc_get (by kernel_rfl) (by omega))), ?_⟩ | fail))
    (hl : allQ (refA 8 n) l := by repeat' (first | exact trivial | refine ⟨rfl, ?_⟩ | fail)) (hr : objs'.all (refOb n) = true := by rfl) (hd : dl.all (refDl n) = true := by rfl) : Tidy k ⟨tm, objs, dl⟩ ⟨PT.ofList l, objs', dl⟩ := tidy_of l n ho hn h hl hr hd
theorem oV (k : RunOps Try.prog nt m ro' ops l ⟨tm', objs', dl⟩ K) {v v' : AV} (_ : Fz frz := by assumption) (hg : guardA ops (rd tm) o = some true := by rfl) (hv : evAny Et H0 frz (rd tm) objs o = some (v', ob, fl) := by rfl) (hf : fl = true := by rfl)
    (he : v' = v := by first | (conv => lhs; dsimp only) | rfl) (ho : ob.getD objs = objs' := by first | (conv => lhs; dsimp only [Option.getD]) | rfl) (hp : isPan v = false := by rfl) (ht : setD nt tm o.dst v = some tm' := by rfl) :
    RunOps Try.prog nt m ro' ops (o :: l) ⟨tm, objs, dl⟩ K := RunOps.x Et_ok hg hv hf he ho hp ht k
theorem kF {n : Nat} {f : Func} {ds : List DV} {r : AV} (h1 : Try.prog.funcs[n]? = some f) (l : List Nat) (h : Fz l → Run Try.prog (mkFn f l).nt 0 none (mkFn f l).body ⟨initTm 0 (ds.map .d) .nil, [], []⟩ (EndK Et (mkFn f l).results r)) (h2 : f.body.isSome = true := by kernel_rfl)
    (h3 : (f.name == "runtime.NumGoroutine") = false := by kernel_rfl) (h4 : xk l = none := by rfl) (hlen : (ds.map AV.d).length = (mkFn f l).np := by rfl) (hle : Nat.ble (mkFn f l).np (mkFn f l).nt = true := by rfl) : KnownCall Try.prog n ds r := knownE Et_ok (fnAt h1 h2 h3 h4) (h trivial) hlen hle
theorem zX (q : Q) (h : Q → P := by intro q; first | exact oXw (by assumption) q | exact eX q) : P := h q
theorem zW (q : Q) (h : Q → P := by intro q; first | exact Run.region q | exact Run.seq q | exact oXn (by assumption) q | exact oS q | exact RunOps.nil q | exact Run.skip q | exact cT q | exact cF q | exact Run.block q | exact Run.exit q | exact dW (by assumption) q | exact eXn q | exact eS q | exact eN q | (refine Run.ret ?_; first | exact rB q | exact rI q | exact rA q | exact rII q | exact rSI q | exact rT q | exact rS q)) : P := h q
theorem zS (q : Q) (h : Q → P := by intro q; first | exact Run.seq q | exact Run.region q | exact RunOps.nil q | exact Run.skip q | exact cT q | exact cF q | exact Run.block q | exact Run.exit q) : P := h q
theorem zA (q : Q) (h : Q → P := by intro q; first | exact oXw (by assumption) q | exact oS q | exact RunOps.nil q | exact Run.region q | exact Run.seq q | exact Run.skip q | exact Run.block q | exact Run.exit q | exact dW (by assumption) q | exact eX q | exact eS q | exact eN q) : P := h q
theorem zB (x : A → X) (y : B → Y) (h : (A → X) → (B → Y) → P := by intro x y; first | exact oBw (by assumption) x y | exact eB x y) : P := h x y
def Vx (_ : AV) : Prop := True
theorem oVw (_ : Fz frz) {v v' : AV} (he : v' = v) (k : RunOps Try.prog nt m ro' ops l ⟨tm', objs', dl⟩ K) (hg : guardA ops (rd tm) o = some true := by rfl) (hv : evAny Et H0 frz (rd tm) objs o = some (v', ob, fl) := by rfl) (hf : fl = true := by rfl) (ho : ob.getD objs = objs' := by first | (conv => lhs; dsimp only [Option.getD]) | rfl) (hp : isPan v = false := by rfl) (ht : setD nt tm o.dst v = some tm' := by rfl) :
    RunOps Try.prog nt m ro' ops (o :: l) ⟨tm, objs, dl⟩ K := RunOps.x Et_ok hg hv hf he ho hp ht k
theorem eVw {v v' : AV} (he : v' = v) (k : EvD Try.prog Et frz nt ops s0 (i + 1) (acc ++ [effOf (rd tm) objs o ob]) l ⟨tm', objs', dl⟩ G) (hg : guardA ops (rd tm) o = some true := by rfl) (hv : evAny Et H0 frz (rd tm) objs o = some (v', ob, fl) := by rfl) (hf : fl = true := by rfl) (ho : ob.getD objs = objs' := by first | (conv => lhs; dsimp only [Option.getD]) | rfl) (hp : isPan v = false := by rfl) (ht : setD nt tm o.dst v = some tm' := by rfl) :
    EvD Try.prog Et frz nt ops s0 i acc (o :: l) ⟨tm, objs, dl⟩ G := EvD.x hg hv hf he ho hp ht k
theorem oIv (_ : Fz frz) {v v' : AV} (_ : Vx v) (k : RunOps Try.prog nt m ro' ops l ⟨tm', objs', dl⟩ K) (hg : guardA ops (rd tm) o = some true := by rfl) (hv : evAny Et H0 frz (rd tm) objs o = some (v', ob, fl) := by rfl) (he : v' = v) (hf : fl = true := by first | (simp [inB] <;> fail) | (simp [inB]; omega)) (ho : ob.getD objs = objs' := by first | (conv => lhs; dsimp only [Option.getD]) | rfl) (hp : isPan v = false := by rfl) (ht : setD nt tm o.dst v = some tm' := by rfl) :
    RunOps Try.prog nt m ro' ops (o :: l) ⟨tm, objs, dl⟩ K := RunOps.x Et_ok hg hv hf he ho hp ht k
theorem eIv {v v' : AV} (_ : Vx v) (k : EvD Try.prog Et frz nt ops s0 (i + 1) (acc ++ [effOf (rd tm) objs o ob]) l ⟨tm', objs', dl⟩ G) (hg : guardA ops (rd tm) o = some true := by rfl) (hv : evAny Et H0 frz (rd tm) objs o = some (v', ob, fl) := by rfl) (he : v' = v) (hf : fl = true := by first | (simp [inB] <;> fail) | (simp [inB]; omega)) (ho : ob.getD objs = objs' := by first | (conv => lhs; dsimp only [Option.getD]) | rfl) (hp : isPan v = false := by rfl) (ht : setD nt tm o.dst v = some tm' := by rfl) :
    EvD Try.prog Et frz nt ops s0 i acc (o :: l) ⟨tm, objs, dl⟩ G := EvD.x hg hv hf he ho hp ht k
theorem zAp (q : Q) (h : Q → P := by intro q; first | exact oXw (by assumption) q (hv := app1) (hf := rfl) (he := rfl) | exact eX q (hv := app1) (hf := rfl) (he := rfl) | exact oXw (by assumption) q (hv := app0) (hf := rfl) (he := rfl) | exact eX q (hv := app0) (hf := rfl) (he := rfl)) : P := h q
theorem zV {v v' : AV} (he : v' = v) (q : Q) (h : v' = v → Q → P := by intro e q; first | exact oVw (by assumption) e q | exact eVw e q) : P := h he q
theorem zI {F : Prop} (w : Fz frz) (v : AV) (f : F) (q : Q) (h : Fz frz → Vx v → F → Q → P := by intro w x f q; first | exact oIv w x q (he := by first | (simp [gD, cellsD, f] <;> fail) | fail) | exact eIv x q (he := by first | (simp [gD, cellsD, f] <;> fail) | fail)) : P := h w trivial f q
theorem zIP {F : Prop} (w : Fz frz) (v : AV) (f : F) (q : Q) (h : Fz frz → Vx v → F → Q → P := by intro w x f q; first | exact oIv w x q (he := by first | (simp [gD, cellsD, encP, f] <;> fail) | fail) | exact eIv x q (he := by first | (simp [gD, cellsD, encP, f] <;> fail) | fail)) : P := h w trivial f q
theorem zk (a : A) (h : A → P := by intro h; exfalso; simp at h; first | done | omega) : P := h a
theorem zC (c : KnownCall Try.prog g ds r) (q : Q) (h : KnownCall Try.prog g ds r → Q → P := by intro c q; first | exact oC c q | exact eC c q) : P := h c q
theorem zK (c : KnownCall Try.prog g ds (.d (.bool b))) (x : A → X) (y : B → Y) (h : KnownCall Try.prog g ds (.d (.bool b)) → (A → X) → (B → Y) → P := by intro c x y; first | exact oK c x y | exact eK c x y) : P := h c x y
theorem zL (c : KnownCall Try.prog g ds r) (q : Q) (h : KnownCall Try.prog g ds r → Q → P := by intro c q; first | exact oL c q | exact eL c q) : P := h c q
theorem fnB {n : Nat} {f : Func} (h1 : Try.prog.funcs[n]? = some f) (l : List Nat) (h2 : f.body.isSome = true := by kernel_rfl) (h3 : (f.name == "runtime.NumGoroutine") = false := by kernel_rfl) (h4 : xk l = none := by rfl) : FnAt Try.prog n (mkFn f l) := fnAt h1 h2 h3 h4
theorem zE (q : Q) (h : Q → P := by intro q; refine Run.ret ?_; first | exact rB q | exact rI q | exact rA q | exact rII q | exact rSI q | exact rT q | exact rS q) : P := h q
end
set_option maxRecDepth 10000
abbrev strs (l : List (List Nat)) : DV := .sl 1 (l.map .str)
abbrev ints (l : List Int) : DV := .sl 1 (l.map (.int .i64))
theorem get_ok {α : Type} {l : List α} {i : Nat} (h : i < l.length) : ∃ x, l[i]? = some x := ⟨l[i], by simp [h]⟩
abbrev nI (n : Nat) : DV := .int .i64 (n : Nat)
@[simp] theorem cellsD_nI (n : Nat) : cellsD (nI n) = [nI n] := rfl
abbrev nats (l : List Nat) : DV := .sl 1 (l.map nI)
abbrev lkC (l : List Nat) : List DV := [nI l.length, nI (l.getD 0 0), nI (l.getD 1 0), nI (l.getD 2 0), nI (l.getD 3 0)]
abbrev lk (l : List Nat) : DV := .agg (lkC l)
abbrev lks (L : List (List Nat)) : DV := .sl 5 (L.map lk)
structure Rt (l : List Nat) : Prop where
  len : l.length ≤ 4
  lt : ∀ x ∈ l, x < 8
theorem ofK (l : List Nat) (h : l.length ≤ 4) : KnownCall Try.prog 34 [nats l] (.d (lk l)) := by
  match l, h with
  | [], _ =>
    refine kF Try.func34 [] fun w => ?_
    repeat' (first
      | refine zW ?_
      | refine zB ?_ ?_ <;> intro h <;> try exact zk h
      | rfl
      | fail)
  | [a], _ =>
    refine kF Try.func34 [] fun w => ?_
    repeat' (first
      | refine zW ?_
      | refine zB ?_ ?_ <;> intro h <;> try exact zk h
      | rfl
      | fail)
  | [a, b], _ =>
    refine kF Try.func34 [] fun w => ?_
    repeat' (first
      | refine zW ?_
      | refine zB ?_ ?_ <;> intro h <;> try exact zk h
      | rfl
      | fail)
  | [a, b, c], _ =>
    refine kF Try.func34 [] fun w => ?_
    repeat' (first
      | refine zW ?_
      | refine zB ?_ ?_ <;> intro h <;> try exact zk h
      | rfl
      | fail)
  | [a, b, c, d], _ =>
    refine kF Try.func34 [] fun w => ?_
    repeat' (first
      | refine zW ?_
      | refine zB ?_ ?_ <;> intro h <;> try exact zk h
      | rfl
      | fail)
theorem ofK5 (a b c d e : Nat) (r : List Nat) : KnownCall Try.prog 34 [nats (a :: b :: c :: d :: e :: r)] (.d (lk [a, b, c, d])) := by
  refine kF Try.func34 [] fun w => ?_
  repeat' (first
    | refine zW ?_
    | refine zB ?_ ?_ <;> intro h <;> try exact zk h
    | rfl
    | fail)
theorem of4 (l : List Nat) : KnownCall Try.prog 34 [nats l] (.d (lk (l.take 4))) := by
  match l with
  | [] => exact ofK [] (by simp)
  | [a] => exact ofK [a] (by simp)
  | [a, b] => exact ofK [a, b] (by simp)
  | [a, b, c] => exact ofK [a, b, c] (by simp)
  | [a, b, c, d] => exact ofK [a, b, c, d] (by simp)
  | a :: b :: c :: d :: e :: r => exact ofK5 a b c d e r
section
variable {frz : List Nat} {nt m : Nat} {ro' : Option Nat} {K : Ex → S → Prop} {ops : Array Oper} {l : List Oper} {o : Oper} {tm tm' : PT AV} {objs objs' : List Ob} {dl : List Dl} {ob : Option (List Ob)} {fl : Bool} {s0 : S} {i : Nat} {acc : List Eff} {G : S → Prop} {P Q : Prop}
theorem flag4 {i : Nat} (h : i < 4) : (inB (i : Int) 4 && Nat.ble ((i : Int).toNat * 1) 4) = true := by
  simp [inB, Nat.ble_eq]; omega
theorem oCw (_ : Fz frz) {v v' : AV} (he : v' = v) (k : RunOps Try.prog nt m ro' ops l ⟨tm', objs', dl⟩ K) (hg : guardA ops (rd tm) o = some true := by rfl) (hv : evAny Et H0 frz (rd tm) objs o = some (v', ob, fl) := by rfl) (hf : fl = true := by first | (simp [cutC, inB, maxC] <;> fail) | (simp [cutC, inB, maxC]; omega) | exact flag4 (by omega) | fail) (ho : ob.getD objs = objs' := by first | (conv => lhs; dsimp only [Option.getD]) | rfl) (hp : isPan v = false := by rfl) (ht : setD nt tm o.dst v = some tm' := by rfl) :
    RunOps Try.prog nt m ro' ops (o :: l) ⟨tm, objs, dl⟩ K := RunOps.x Et_ok hg hv hf he ho hp ht k
theorem eCw {v v' : AV} (he : v' = v) (k : EvD Try.prog Et frz nt ops s0 (i + 1) (acc ++ [effOf (rd tm) objs o ob]) l ⟨tm', objs', dl⟩ G) (hg : guardA ops (rd tm) o = some true := by rfl) (hv : evAny Et H0 frz (rd tm) objs o = some (v', ob, fl) := by rfl) (hf : fl = true := by first | (simp [cutC, inB, maxC] <;> fail) | (simp [cutC, inB, maxC]; omega) | exact flag4 (by omega) | fail) (ho : ob.getD objs = objs' := by first | (conv => lhs; dsimp only [Option.getD]) | rfl) (hp : isPan v = false := by rfl) (ht : setD nt tm o.dst v = some tm' := by rfl) :
    EvD Try.prog Et frz nt ops s0 i acc (o :: l) ⟨tm, objs, dl⟩ G := EvD.x hg hv hf he ho hp ht k
theorem zCut {v v' : AV} (he : v' = v) (q : Q) (h : v' = v → Q → P := by intro e q; first | exact oCw (by assumption) e q | exact eCw e q) : P := h he q
end
theorem cut4 (l : List Nat) (hl : l.length ≤ 4) (n : Nat) (hn : n ≤ l.length) : AV.d (.sl 1 (cutL none (some (n : Int)) [nI (l.getD 0 0), nI (l.getD 1 0), nI (l.getD 2 0), nI (l.getD 3 0)])) = .d (nats (l.take n)) := by
  congr 2
  simp only [cutL, Option.getD, Int.toNat_natCast, Int.toNat_zero, List.drop_zero]
  match l, hl, n, hn with
  | [], _, 0, _ => rfl
  | [a], _, 0, _ => rfl
  | [a], _, 1, _ => rfl
  | [a, b], _, 0, _ => rfl
  | [a, b], _, 1, _ => rfl
  | [a, b], _, 2, _ => rfl
  | [a, b, c], _, 0, _ => rfl
  | [a, b, c], _, 1, _ => rfl
  | [a, b, c], _, 2, _ => rfl
  | [a, b, c], _, 3, _ => rfl
  | [a, b, c, d], _, 0, _ => rfl
  | [a, b, c, d], _, 1, _ => rfl
  | [a, b, c, d], _, 2, _ => rfl
  | [a, b, c, d], _, 3, _ => rfl
  | [a, b, c, d], _, 4, _ => rfl
theorem cut4' (l : List Nat) (hl : l.length ≤ 4) : AV.d (.sl 1 (cutL none (some (l.length : Int)) [nI (l.getD 0 0), nI (l.getD 1 0), nI (l.getD 2 0), nI (l.getD 3 0)])) = .d (nats l) := by
  have := cut4 l hl l.length (Nat.le_refl _)
  rwa [List.take_length] at this
def chkL (l : List Nat) (terms : Int) : Int := if terms < 1 then 2 else if 8 < terms then 2 else if l.all (fun x => decide ((x : Int) < terms)) then 0 else 14
theorem cutK (l : List Nat) (hl : l.length ≤ 4) (k : Nat) : KnownCall Try.prog 83 [lk l, nI k] (.d (lk (l.take k))) := by
  have hm : AV.d (.int .i64 (if (k : Int) < (l.length : Int) then (k : Int) else (l.length : Int))) = .d (nI (min k l.length)) := by
    congr 2; split <;> omega
  have h4 := cut4 l hl (min k l.length) (by omega)
  rw [show l.take (min k l.length) = l.take k by
    rcases Nat.le_total k l.length with h | h
    · rw [Nat.min_eq_left h]
    · rw [Nat.min_eq_right h, List.take_length, List.take_of_length_le h]] at h4
  have hk := ofK (l.take k) (by rw [List.length_take]; omega)
  refine kF Try.func83 [2] fun w => ?_
  repeat' (first
    | refine zV hm ?_
    | refine zW ?_
    | refine zB ?_ ?_ <;> intro h <;> try exact zk h
    | refine zCut h4 ?_
    | refine zK (hk) ?_ ?_ <;> intro h <;> try exact zk h
    | refine zC (hk) ?_
    | rfl
    | fail)
theorem checkK (l : List Nat) (hl : l.length ≤ 4) (terms : Int) : KnownCall Try.prog 12 [lk l, .int .i64 terms] (.d (.int .i64 (chkL l terms))) := by
  have h4 := cut4' l hl
  refine kF Try.func12 [2] fun w => ?_
  repeat' (first
    | refine zW ?_
    | refine zB ?_ ?_ <;> intro h <;> try exact zk h
    | refine zCut h4 ?_
    | refine zK (ofK l hl) ?_ ?_ <;> intro h <;> try exact zk h
    | refine zC (ofK l hl) ?_
    | (show _ = _; ((simp only [chkL]; repeat' split) <;> (first | rfl | (simp_all <;> fail) | (simp_all; omega))))
    | fail)
  have h1 : ¬ terms < 1 := by rename_i a1 _ _ _; simpa using a1
  have h2 : ¬ 8 < terms := by rename_i a2 _ _; simpa using a2
  refine Run.loop (fun i : Nat => ⟨PT.ofList [(1, .d (.int .i64 terms)), (35, .d (nats l)), (36, .d (nI (l.map nI).length)), (37, .d (.int .i64 i))], [], []⟩) (fun i => i ≤ l.length ∧ ∀ x ∈ l.take i, (x : Int) < terms) (fun i => l.length - i) 0 ⟨Nat.zero_le _, by simp⟩ (weak_of (by repeat' (first | exact trivial | refine ⟨rfl, ?_⟩))) (fun i hi => ?_)
  rcases Nat.lt_or_ge i l.length with hlt | hge
  · obtain ⟨x, hx⟩ := get_ok hlt
    have hgo : (x : Int) < terms → ∀ y ∈ l.take (i + 1), (y : Int) < terms := fun h => by
      rw [List.take_add_one, hx]; intro y hy
      rcases List.mem_append.1 hy with h1 | h1
      · exact hi.2 y h1
      · simp at h1; subst h1; exact h
    have hbad : ¬ (x : Int) < terms → chkL l terms = 14 := fun h => by
      unfold chkL
      rw [if_neg h1, if_neg h2, if_neg]
      simp only [List.all_eq_true, decide_eq_true_eq]
      intro ha; exact h (ha x (List.mem_of_getElem? hx))
    repeat' (first
      | refine zW ?_
      | refine zB ?_ ?_ <;> intro h <;> try exact zk h
      | refine zI w (.d (.ep [nI x])) hx ?_
      | (show _ = _; rw [hbad (by simpa using h)])
      | (exact ⟨i + 1, ⟨hlt, hgo (by simpa using h)⟩, by omega, weak_of (by repeat' (first | exact trivial | refine ⟨rfl, ?_⟩ | refine ⟨(inc_get (k := i) (by kernel_rfl) (by omega)), ?_⟩))⟩)
      | fail)
  · have hie : i = l.length := by have := hi.1; omega
    have hok : chkL l terms = 0 := by
      unfold chkL
      rw [if_neg h1, if_neg h2, if_pos]
      simp only [List.all_eq_true, decide_eq_true_eq]
      have := hi.2; rwa [hie, List.take_length] at this
    subst hie
    repeat' (first
      | refine zW ?_
      | refine zB ?_ ?_ <;> intro h <;> try exact zk h
      | (show _ = _; rw [hok])
      | fail)
theorem chkL0 {l : List Nat} (h : Rt l) : chkL l 8 = 0 := by
  unfold chkL
  rw [if_neg (by omega), if_neg (by omega), if_pos]
  simp only [List.all_eq_true, decide_eq_true_eq]
  intro x hx; have := h.lt x hx; omega
theorem rightK (x y : List Nat) (hx : Rt x) (hy : Rt y) : KnownCall Try.prog 35 [.int .i64 8, .sl 5 [lk x, lk y]] (.d (.int .i64 0)) := by
  have h1 := checkK x hx.len 8
  have h2 := checkK y hy.len 8
  rw [chkL0 hx] at h1
  rw [chkL0 hy] at h2
  refine kF Try.func35 [] fun w => ?_
  repeat' (first
    | refine zW ?_
    | refine zB ?_ ?_ <;> intro h <;> try exact zk h
    | fail)
  refine Run.loopT (fun i : Nat => ⟨PT.ofList [(0, .d (.int .i64 8)), (8, .d (.sl 5 [lk x, lk y])), (9, .d (.int .i64 2)), (10, .d (.int .i64 i))], [], []⟩) (fun i => i ≤ 2) (fun i => 2 - i) 0 (Nat.zero_le _) (ti _ 0) (fun i hi => ?_)
  match i, hi with
  | 0, _ =>
    repeat' (first
      | refine zW ?_
      | refine zB ?_ ?_ <;> intro h <;> try exact zk h
      | refine zC (h1) ?_
      | (exact ⟨1, by omega, by omega, (ti _ 0)⟩)
      | fail)
  | 1, _ =>
    repeat' (first
      | refine zW ?_
      | refine zB ?_ ?_ <;> intro h <;> try exact zk h
      | refine zC (h2) ?_
      | (exact ⟨2, by omega, by omega, (ti _ 0)⟩)
      | fail)
  | 2, _ =>
    repeat' (first
      | refine zW ?_
      | refine zB ?_ ?_ <;> intro h <;> try exact zk h
      | rfl
      | fail)
theorem listK (l : List Nat) (hl : l.length ≤ 4) : KnownCall Try.prog 84 [lk l] (.d (nats l)) := by
  have w : Fz [1] := trivial
  have h4 := cut4' l hl
  refine knownE2 Et_ok (fnB Try.func84 [1]) ?_
  repeat' (first
    | refine zW ?_
    | refine zB ?_ ?_ <;> intro h <;> try exact zk h
    | refine zCut h4 ?_
    | refine zAp ?_
    | (refine Run.ret ?_; refine r2 ?_; first | done | (exact .refl))
    | fail)
theorem listA (l : List Nat) (hl : l.length ≤ 4) : ACall Try.prog 84 [.d (lk l)] [] (.sr 0 1 ([] ++ l.map nI)) [.room (([] : List DV).length + (l.map nI).length) 1] := by
  have w : Fz [1] := trivial
  have h4 := cut4' l hl
  refine acall_of_run Et_ok (fnB Try.func84 [1]) rfl rfl ?_
  repeat' (first
    | refine zW ?_
    | refine zB ?_ ?_ <;> intro h <;> try exact zk h
    | refine zCut h4 ?_
    | refine zAp ?_
    | fail)
  refine Run.ret ?_
  exact ⟨trivial, rfl, rfl⟩
theorem joinK (k : Nat) (hk1 : 1 ≤ k) (hk : k ≤ 4) (x y : List Nat) (hx : Rt x) (hy : Rt y) : KnownCall Try.prog 66 [nI k, lk x, lk y] (.tup [.d (lk ((x ++ y).take k)), .d (.int .i64 0)]) := by
  have c0 := rightK x y hx hy
  have c1 := fun O => ACall.lift (ds := [lk x]) (listA x hx.len) rfl O
  have c2 := listK y hy.len
  have c3 := of4 (x ++ y)
  rw [show nats (x ++ y) = .sl 1 ([] ++ x.map nI ++ y.map nI) by simp] at c3
  have c4 := cutK ((x ++ y).take 4) (by rw [List.length_take]; omega) k
  rw [List.take_take, Nat.min_eq_left hk] at c4
  have hl1 := hx.len
  have hl2 := hy.len
  refine kF Try.func66 [4, 5, 11] fun w => ?_
  repeat' (first
    | refine zW ?_
    | refine zB ?_ ?_ <;> intro h <;> try exact zk h
    | refine zX ?_
    | refine zC (c0) ?_
    | refine eA (c1 _) ?_
    | refine zC (c2) ?_
    | refine zL (c3) ?_
    | refine zC (c4) ?_
    | refine zAp ?_
    | rfl
    | ((exfalso; first | (simp at h <;> fail) | (simp at h; omega)))
    | fail)
def cmpL : List Nat → List Nat → Int
  | [], [] => 0
  | [], _ :: _ => -1
  | _ :: _, [] => 1
  | a :: x, b :: y => if a < b then -1 else if b < a then 1 else cmpL x y
theorem cmpL_self : ∀ x, cmpL x x = 0
  | [] => rfl
  | a :: x => by simp only [cmpL, Nat.lt_irrefl, if_false]; exact cmpL_self x
theorem cmpL_at : ∀ {i : Nat} {x y : List Nat} {a b : Nat}, x.take i = y.take i → x[i]? = some a → y[i]? = some b → a ≠ b → cmpL x y = if a < b then -1 else 1
  | 0, x :: xs, y :: ys, a, b, _, hx, hy, hne => by
    simp at hx hy; subst hx hy
    simp only [cmpL]
    by_cases h : x < y
    · rw [if_pos h, if_pos h]
    · rw [if_neg h, if_neg h, if_pos (by omega)]
  | i + 1, x :: xs, y :: ys, a, b, ht, hx, hy, hne => by
    simp at hx hy ht
    obtain ⟨rfl, ht⟩ := ht
    simp only [cmpL, Nat.lt_irrefl, if_false]
    exact cmpL_at ht hx hy hne
  | 0, [], _, _, _, _, hx, _, _ => by simp at hx
  | 0, _ :: _, [], _, _, _, _, hy, _ => by simp at hy
  | i + 1, [], _, _, _, _, hx, _, _ => by simp at hx
  | i + 1, _ :: _, [], _, _, _, _, hy, _ => by simp at hy
theorem cmpL_end : ∀ {i : Nat} {x y : List Nat}, x.take i = y.take i → i = min x.length y.length → x ≠ y → cmpL x y = if x.length < y.length then -1 else 1
  | i, [], [], _, _, hne => absurd rfl hne
  | i, [], y :: ys, _, _, _ => by simp [cmpL]
  | i, x :: xs, [], _, _, _ => by simp [cmpL]
  | i + 1, x :: xs, y :: ys, ht, hi, hne => by
    simp at ht hi hne
    obtain ⟨rfl, ht⟩ := ht
    simp only [cmpL, Nat.lt_irrefl, if_false, List.length_cons, Nat.add_lt_add_iff_right]
    exact cmpL_end ht (by omega) (hne rfl)
  | 0, x :: xs, y :: ys, _, hi, _ => by simp at hi
theorem lk_inj {x y : List Nat} (hx : x.length ≤ 4) (hl : x.length = y.length) (h0 : x.getD 0 0 = y.getD 0 0) (h1 : x.getD 1 0 = y.getD 1 0) (h2 : x.getD 2 0 = y.getD 2 0) (h3 : x.getD 3 0 = y.getD 3 0) : x = y := by
  refine List.ext_getElem? fun i => ?_
  rcases Nat.lt_or_ge i x.length with h | h
  · obtain ⟨a, ha⟩ := get_ok h
    obtain ⟨b, hb⟩ := get_ok (show i < y.length by omega)
    rw [ha, hb]
    have : x.getD i 0 = y.getD i 0 := by
      match i, h with
      | 0, _ => exact h0
      | 1, _ => exact h1
      | 2, _ => exact h2
      | 3, _ => exact h3
      | i + 4, h => omega
    simpa [List.getD_eq_getElem?_getD, ha, hb] using this
  · rw [List.getElem?_eq_none h, List.getElem?_eq_none (by omega)]
theorem drop4 {x : List Nat} {i a : Nat} (hl : x.length ≤ 4) (h : x[i]? = some a) : ∃ R, AV.d (.ep (List.drop ((i : Int).toNat * 1) [nI (x.getD 0 0), nI (x.getD 1 0), nI (x.getD 2 0), nI (x.getD 3 0)])) = .d (.ep (nI a :: R)) := by
  have hi := (List.getElem?_eq_some_iff.1 h).1
  simp only [List.getD_eq_getElem?_getD, Int.toNat_natCast, Nat.mul_one]
  match i, hi, h with
  | 0, _, h => rw [h]; exact ⟨_, rfl⟩
  | 1, _, h => rw [h]; exact ⟨_, rfl⟩
  | 2, _, h => rw [h]; exact ⟨_, rfl⟩
  | 3, _, h => rw [h]; exact ⟨_, rfl⟩
  | i + 4, hi, _ => omega
theorem compareK (x y : List Nat) (hx : Rt x) (hy : Rt y) : KnownCall Try.prog 13 [lk x, lk y] (.tup [.d (.int .i64 (cmpL x y)), .d (.int .i64 0)]) := by
  have c0 := rightK x y hx hy
  have hl1 := hx.len
  have hl2 := hy.len
  by_cases hxy : x = y
  · subst hxy
    rw [cmpL_self]
    refine kF Try.func13 [2, 3, 10] fun w => ?_
    repeat' (first
      | refine zW ?_
      | refine zB ?_ ?_ <;> intro h <;> try exact zk h
      | refine zX ?_
      | refine zC (c0) ?_
      | rfl
      | fail)
  · have hm : AV.d (.int .i64 (if (y.length : Int) < (x.length : Int) then (y.length : Int) else (x.length : Int))) = .d (nI (min x.length y.length)) := by
      congr 2; split <;> omega
    refine kF Try.func13 [2, 3, 10] fun w => ?_
    repeat' (first
      | refine zV hm ?_
      | refine zW ?_
      | refine zB ?_ ?_ <;> intro h <;> try exact zk h
      | refine zX ?_
      | refine zC (c0) ?_
      | ((exfalso; simp only [Bool.and_eq_true, beq_iff_eq] at h; exact hxy (lk_inj hl1 (by omega) (by omega) (by omega) (by omega) (by omega))))
      | fail)
    refine Run.loop (fun i : Nat => ⟨PT.ofList [(2, .d (.ep (lkC x))), (3, .d (.ep (lkC y))), (24, .d (nI (min x.length y.length))), (25, .d (.int .i64 i))], [], []⟩) (fun i => i ≤ min x.length y.length ∧ x.take i = y.take i) (fun i => min x.length y.length - i) 0 ⟨Nat.zero_le _, rfl⟩ (weak_of (by repeat' (first | exact trivial | refine ⟨rfl, ?_⟩))) (fun i hi => ?_)
    rcases Nat.lt_or_ge i (min x.length y.length) with hlt | hge
    · obtain ⟨a, ha⟩ := get_ok (show i < x.length by omega)
      obtain ⟨b, hb⟩ := get_ok (show i < y.length by omega)
      obtain ⟨R1, r1⟩ := drop4 hl1 ha
      obtain ⟨R2, r2⟩ := drop4 hl2 hb
      have hgo : a = b → x.take (i + 1) = y.take (i + 1) := fun h => by rw [List.take_add_one, List.take_add_one, hi.2, ha, hb, h]
      have hne := cmpL_at hi.2 ha hb
      repeat' (first
        | refine zW ?_
        | refine zB ?_ ?_ <;> intro h <;> try exact zk h
        | refine zX ?_
        | refine zCut r1 ?_
        | refine zCut r2 ?_
        | (show _ = _; (rw [hne (by intro e; subst e; simp_all)]; split <;> simp_all <;> omega))
        | (exact ⟨i + 1, ⟨hlt, hgo (by simp at h; omega)⟩, by omega, weak_of (by repeat' (first | exact trivial | refine ⟨rfl, ?_⟩ | refine ⟨(inc_get (k := i) (by kernel_rfl) (by omega)), ?_⟩))⟩)
        | fail)
    · have hie : i = min x.length y.length := by have := hi.1; omega
      have he := cmpL_end hi.2 hie hxy
      subst hie
      repeat' (first
        | refine zW ?_
        | refine zB ?_ ?_ <;> intro h <;> try exact zk h
        | refine zX ?_
        | (show _ = _; (rw [he]; split <;> simp_all <;> omega))
        | fail)
def IterOK (f : DV) (L : List (List Nat)) : Prop := ∃ g a b, f = .fn (.func g) a b ∧ ∀ (yi : Nat) (B : Nat → List Ob), (∀ k, yi < (B k).length) → (∀ k, (B 0).length ≤ (B k).length) → (∀ k, (B k).all (refOb (B k).length) = true) →
  (∀ k x, L[k]? = some x → AYield Try.prog yi [.d (lk x)] (B k) (.d (.bool true)) (B (k + 1))) → ACall Try.prog g (a.map .d ++ [.yl yi] ++ b.map .d) (B 0) (.tup []) (B L.length)
theorem lt_true {a b : Nat} (h : a < b) : AV.d (.bool (decide ((a : Int) < (b : Int)))) = .d (.bool true) := by
  rw [decide_eq_true (by omega)]
theorem lt_false {a b : Nat} (h : b ≤ a) : AV.d (.bool (decide ((a : Int) < (b : Int)))) = .d (.bool false) := by
  rw [decide_eq_false (by omega)]
theorem valuesK (L : List (List Nat)) : KnownCall Try.prog 55 [lks L] (.d (.fn (.func 73) [] [.ep [lks L]])) := by
  refine kF Try.func55 [1] fun w => ?_
  repeat' (first
    | refine zW ?_
    | refine zB ?_ ?_ <;> intro h <;> try exact zk h
    | rfl
    | fail)
theorem valuesIt (L : List (List Nat)) (hl : L.length ≤ 1048576) : IterOK (.fn (.func 73) [] [.ep [lks L]]) L := by
  have w : Fz [] := trivial
  refine ⟨_, _, _, rfl, fun yi B hyi hB0 hR hy => ?_⟩
  have w : Fz [] := trivial
  show ACall _ _ [.yl yi, .d (.ep [lks L])] _ _ _
  refine acall_of_run Et_ok (fnB Try.func73 []) rfl rfl ?_
  repeat refine zA ?_
  refine Run.loop (fun k : Nat => ⟨PT.ofList [(0, .yl yi), (5, .d (lks L)), (6, .d (nI (L.map lk).length)), (7, .d (.int .i64 k))], B k, []⟩) (fun k => k ≤ L.length) (fun k => L.length - k) 0 (Nat.zero_le _) (weak_of ⟨rfl, rfl, rfl, rfl, trivial⟩) (fun k hk => ?_)
  have hlen : (L.map lk).length = L.length := by simp
  rcases Nat.lt_or_ge k L.length with hlt | hge
  · obtain ⟨x, hx⟩ := get_ok hlt
    repeat refine zS ?_
    refine zV (lt_true (show k < (L.map lk).length by omega)) ?_
    repeat refine zS ?_
    refine zI w (.d (.ep (lkC x))) hx ?_
    iterate 2 refine zX ?_
    refine oV ?_ (hv := evAny_store_last)
    refine RunOps.nil ?_
    refine Run.dropLast (ds := lkC x) [(0, .yl yi), (5, .d (lks L)), (6, .d (nI (L.map lk).length)), (7, .d (.int .i64 k)), (4, .d (.ep (lkC x)))] ?_ (hB0 k) (hR k) (ofList_cases (by intro p hp; simp only [List.mem_cons, List.not_mem_nil, or_false] at hp; rcases hp with rfl | rfl | rfl | rfl | rfl; exact .inl (by kernel_rfl); exact .inl (by kernel_rfl); exact .inl (by kernel_rfl); exact .inl (by kernel_rfl); exact .inr ⟨0, Nat.zero_le _, by kernel_rfl, rfl⟩)) ⟨by simp [refA]; exact hyi k, rfl, rfl, rfl, rfl, trivial⟩
    repeat refine zS ?_
    iterate 2 refine zX ?_
    refine RunOps.yield (by rfl) (by rfl) (hy k x hx) (by rfl) (by rfl) ?_
    repeat' (first
      | refine zW ?_
      | refine zB ?_ ?_ <;> intro h <;> try exact zk h
      | (exact ⟨k + 1, hlt, by omega, weak_of (by repeat' (first | exact trivial | refine ⟨rfl, ?_⟩ | refine ⟨(inc_get (k := k) (by kernel_rfl) (by omega)), ?_⟩))⟩)
      | fail)
  · have hke : k = L.length := by omega
    subst hke
    repeat refine zS ?_
    refine zV (lt_false (show (L.map lk).length ≤ L.length by omega)) ?_
    repeat' (first
      | refine zW ?_
      | refine zB ?_ ?_ <;> intro h <;> try exact zk h
      | fail)
    exact ⟨trivial, rfl, by kernel_rfl⟩
def prs (k : Nat) (a b : List (List Nat)) : List (List Nat) := a.flatMap fun x => b.map fun y => (x ++ y).take k
structure SetOK (n : Nat) (L : List (List Nat)) : Prop where
  len : L.length ≤ 4681
  rt : ∀ x ∈ L, Rt x
  lt : ∀ x ∈ L, ∀ t ∈ x, t < n
  asc : L.Pairwise fun x y => cmpL x y < 0
theorem cmpL_neg : ∀ x y, cmpL y x = -cmpL x y
  | [], [] => rfl
  | [], _ :: _ => rfl
  | _ :: _, [] => rfl
  | a :: x, b :: y => by
    simp only [cmpL]
    rcases Nat.lt_trichotomy a b with h | h | h
    · rw [if_neg (by omega), if_pos h, if_pos h]; rfl
    · subst h; simp only [Nat.lt_irrefl, if_false]; exact cmpL_neg x y
    · rw [if_pos h, if_neg (by omega), if_pos h]
theorem cmpL_eq : ∀ {x y}, cmpL x y = 0 → x = y
  | [], [], _ => rfl
  | [], _ :: _, h => by simp [cmpL] at h
  | _ :: _, [], h => by simp [cmpL] at h
  | a :: x, b :: y, h => by
    simp only [cmpL] at h
    split at h
    · simp at h
    · split at h
      · simp at h
      · rw [cmpL_eq h, show a = b by omega]
theorem cmpL_trans : ∀ {x y z}, cmpL x y < 0 → cmpL y z < 0 → cmpL x z < 0
  | [], [], _, h, _ => by simp [cmpL] at h
  | _ :: _, [], _, h, _ => by simp [cmpL] at h
  | [], _ :: _, [], _, h => by simp [cmpL] at h
  | _ :: _, _ :: _, [], _, h => by simp [cmpL] at h
  | [], _ :: _, _ :: _, _, _ => by simp [cmpL]
  | a :: x, b :: y, c :: z, h, k => by
    simp only [cmpL] at h k ⊢
    by_cases h1 : a < b
    · by_cases k1 : b < c
      · rw [if_pos (by omega)]; decide
      · by_cases k2 : c < b
        · rw [if_neg k1, if_pos k2] at k; simp at k
        · rw [if_pos (by omega)]; decide
    · by_cases h2 : b < a
      · rw [if_neg h1, if_pos h2] at h; simp at h
      · rw [if_neg h1, if_neg h2] at h
        by_cases k1 : b < c
        · rw [if_pos (by omega)]; decide
        · by_cases k2 : c < b
          · rw [if_neg k1, if_pos k2] at k; simp at k
          · rw [if_neg k1, if_neg k2] at k
            rw [if_neg (by omega), if_neg (by omega)]
            exact cmpL_trans h k
end Go.Av
end
namespace Go.Proofs
open Go.Shelf
def Try.sortLk_ren : Go.Shelf.Ren := ⟨fun | 6 => 53 | 15 => 72 | 14 => 71 | 28 => 93 | 29 => 94 | 20 => 85 | 21 => 86 | 22 => 87 | 23 => 88 | 24 => 89 | 25 => 90 | 26 => 91 | 27 => 92 | 46 => 103 | 47 => 104 | 48 => 105 | 49 => 106 | 50 => 107 | 57 => 111 | n => n, fun | 22 => 28 | 24 => 38 | 25 => 82 | 3 => 3 | 39 => 65 | 0 => 0 | 53 => 132 | 55 => 134 | 4 => 4 | 46 => 125 | 45 => 124 | 50 => 129 | 5 => 5 | 9 => 9 | 66 => 143 | 70 => 147 | 76 => 150 | 77 => 151 | n => n, fun | n => n⟩
theorem Try.sortLk : Go.Proofs.SlLaysF0.n6 Try.prog Try.sortLk_ren := {
  mixed := by kernel_rfl
  f6 := ⟨Try.f53.name, by decide, Try.func53.trans (congrArg some (by kernel_rfl))⟩
  f14 := ⟨Try.f71.name, by decide, Try.func71.trans (congrArg some (by kernel_rfl))⟩
  f15 := Try.func72.trans (congrArg some (by kernel_rfl))
  f20 := ⟨Try.f85.name, by decide, Try.func85.trans (congrArg some (by kernel_rfl))⟩
  f21 := ⟨Try.f86.name, by decide, Try.func86.trans (congrArg some (by kernel_rfl))⟩
  f22 := ⟨Try.f87.name, by decide, Try.func87.trans (congrArg some (by kernel_rfl))⟩
  f23 := ⟨Try.f88.name, by decide, Try.func88.trans (congrArg some (by kernel_rfl))⟩
  f24 := ⟨Try.f89.name, by decide, Try.func89.trans (congrArg some (by kernel_rfl))⟩
  f25 := ⟨Try.f90.name, by decide, Try.func90.trans (congrArg some (by kernel_rfl))⟩
  f26 := ⟨Try.f91.name, by decide, Try.func91.trans (congrArg some (by kernel_rfl))⟩
  f27 := ⟨Try.f92.name, by decide, Try.func92.trans (congrArg some (by kernel_rfl))⟩
  f28 := Try.func93.trans (congrArg some (by kernel_rfl))
  f29 := Try.func94.trans (congrArg some (by kernel_rfl))
  f46 := ⟨Try.f103.name, by decide, Try.func103.trans (congrArg some (by kernel_rfl))⟩
  f47 := Try.func104.trans (congrArg some (by kernel_rfl))
  f48 := Try.func105.trans (congrArg some (by kernel_rfl))
  f49 := ⟨Try.f106.name, by decide, Try.func106.trans (congrArg some (by kernel_rfl))⟩
  f50 := ⟨Try.f107.name, by decide, Try.func107.trans (congrArg some (by kernel_rfl))⟩
  f57 := ⟨Try.f111.name, by decide, Try.func111.trans (congrArg some (by kernel_rfl))⟩
  t0 := Try.underlying0
  a0 := Try.isAgg0
  z0 := Try.sizeOf0
  v0 := Try.zeroValue0
  t3 := Try.underlying3
  a3 := Try.isAgg3
  z3 := Try.sizeOf3
  v3 := Try.zeroValue3
  t4 := Try.underlying4
  a4 := Try.isAgg4
  z4 := Try.sizeOf4
  v4 := Try.zeroValue4
  t5 := Try.underlying5
  a5 := Try.isAgg5
  z5 := Try.sizeOf5
  v5 := Try.zeroValue5
  t9 := Try.underlying9
  a9 := Try.isAgg9
  z9 := Try.sizeOf9
  v9 := Try.zeroValue9
  t22 := Try.underlying28
  a22 := Try.isAgg28
  z22 := Try.sizeOf28
  v22 := Try.zeroValue28
  t25 := Try.underlying82
  a25 := Try.isAgg82
  z25 := Try.sizeOf82
  v25 := Try.zeroValue82
  t39 := Try.underlying65
  a39 := Try.isAgg65
  z39 := Try.sizeOf65
  v39 := Try.zeroValue65
  t45 := Try.underlying124
  a45 := Try.isAgg124
  z45 := Try.sizeOf124
  v45 := Try.zeroValue124
  t46 := Try.underlying125
  a46 := Try.isAgg125
  z46 := Try.sizeOf125
  v46 := Try.zeroValue125
  t50 := Try.underlying129
  a50 := Try.isAgg129
  z50 := Try.sizeOf129
  v50 := Try.zeroValue129
  t53 := Try.underlying132
  a53 := Try.isAgg132
  z53 := Try.sizeOf132
  v53 := Try.zeroValue132
  t55 := Try.underlying134
  a55 := Try.isAgg134
  z55 := Try.sizeOf134
  v55 := Try.zeroValue134
  t66 := Try.underlying143
  a66 := Try.isAgg143
  z66 := Try.sizeOf143
  v66 := Try.zeroValue143
  t70 := Try.underlying147
  a70 := Try.isAgg147
  z70 := Try.sizeOf147
  v70 := Try.zeroValue147
  t76 := Try.underlying150
  a76 := Try.isAgg150
  z76 := Try.sizeOf150
  v76 := Try.zeroValue150
  t77 := Try.underlying151
  a77 := Try.isAgg151
  z77 := Try.sizeOf151
  v77 := Try.zeroValue151 }
end Go.Proofs
noncomputable section
namespace Go.Av
open Go Go.Proofs
set_option maxRecDepth 10000
abbrev LkT := {l : List Nat // Rt l}
instance : Inhabited LkT := ⟨⟨[], ⟨by simp, by simp⟩⟩⟩
abbrev vI (n : Nat) : Value := .int .i64 (n : Nat)
def encL (x : LkT) : List Value := [vI x.1.length, vI (x.1.getD 0 0), vI (x.1.getD 1 0), vI (x.1.getD 2 0), vI (x.1.getD 3 0)]
def cfL (x y : LkT) : Int := cmpL x.1 y.1
theorem cfL_swo : Go.Sort.SWO (ltOf cfL) where
  irrefl x := by simp [ltOf, cfL, cmpL_self]
  trans x y z h k := by
    simp only [ltOf, decide_eq_true_eq] at h k ⊢
    exact cmpL_trans h k
  ntrans x y z h k := by
    have h : ¬ cmpL x.1 y.1 < 0 := of_decide_eq_false h
    have k : ¬ cmpL y.1 z.1 < 0 := of_decide_eq_false k
    refine decide_eq_false fun hc : cmpL x.1 z.1 < 0 => ?_
    by_cases h0 : cmpL x.1 y.1 = 0
    · rw [cmpL_eq h0] at hc; exact k hc
    · have h1 : cmpL y.1 x.1 < 0 := by rw [cmpL_neg]; omega
      exact k (cmpL_trans h1 hc)
theorem cfL_total (x y : LkT) (h : ltOf cfL x y = false) (k : ltOf cfL y x = false) : x = y := by
  have h : ¬ cmpL x.1 y.1 < 0 := of_decide_eq_false h
  have k : ¬ cmpL y.1 x.1 < 0 := of_decide_eq_false k
  have := cmpL_neg x.1 y.1
  exact Subtype.ext (cmpL_eq (by omega))
theorem heap0 (w : World) : Heap (fun _ => none) [] [] w := ⟨fun _ _ h => (by cases h), rfl, fun i bi ob h => (by simp at h), fun i j bi bj oi oj b h => (by simp at h)⟩
theorem world_grown {D' : DMap} {β' : List Bi} {o' : List Ob} {w w' : World} (h : Step (fun _ => none) [] [] w D' β' o' w') : ∃ q os', w' = Go.Sort.grow (w.drewN q) os' := by
  refine ⟨w'.drawn - w.drawn, w'.heap.extract w.heap.size w'.heap.size, ?_⟩
  have hh : w'.heap = w.heap ++ w'.heap.extract w.heap.size w'.heap.size := by
    refine Array.ext_getElem? fun k => ?_
    rcases Nat.lt_or_ge k w.heap.size with hk | hk
    · rw [h.keep k hk not_own_nil, Array.getElem?_append_left hk]
    · rw [Array.getElem?_append_right hk, Array.getElem?_extract]
      have hs := h.size
      rcases Nat.lt_or_ge k w'.heap.size with h2 | h2
      · rw [if_pos (by omega), show w.heap.size + (k - w.heap.size) = k by omega]
      · rw [Array.getElem?_eq_none h2, if_neg (by omega)]
  have h1 := h.os; have h2 := h.tape; have h3 := h.output.1; have h4 := h.output.2
  cases w with
  | mk a b c d e =>
    cases w' with
    | mk a' b' c' d' e' =>
      simp only [Go.Sort.grow, World.drewN] at *
      subst h1 h2 h3
      congr 1
      omega
def CmpFn (cf : FuncId) : Prop := ∀ x y, Rt x → Rt y → KnownCall Try.prog cf [lk x, lk y] (.d (.int .i64 (cmpL x y)))
theorem cmpLaysK {cf : FuncId} (hcf : CmpFn cf) (blk off size : Nat) (w : World) : CmpLays Try.prog cf #[] encL 5 cfL blk off size w := by
  intro m os dk _ x y
  generalize sortWorldK encL 5 w blk off m dk os = W
  have hK := (hcf x.1 y.1 x.2 y.2 []).2 (fun _ => none) [] W (#[.agg (encL x).toArray, .agg (encL y).toArray] ++ #[]) (heap0 W) ⟨rfl, fun j c v hc hv => ?_⟩
  · refine callsIn_wide.1 (hK.mono fun e w' he => ?_)
    rcases he with ⟨v, D', β', rfl, hs, hr⟩ | ⟨z, v, D', β', hz, _⟩
    · cases hr with
      | d hr => cases hr; exact ⟨rfl, world_grown hs⟩
    · cases hz
  · have key : ∀ z : LkT, RepA (fun _ => none) [] (.d (lk z.1)) (.agg (encL z).toArray) := fun z => by
      refine .d (.agg rfl (fun j v hv => ?_) fun j c v hc hv => ?_)
      · match j, hv with
        | 0, hv | 1, hv | 2, hv | 3, hv | 4, hv => simp [encL] at hv; subst hv; rfl
        | j + 5, hv => simp [encL] at hv
      · match j, hc, hv with
        | 0, hc, hv | 1, hc, hv | 2, hc, hv | 3, hc, hv | 4, hc, hv => simp [encL, lkC] at hc hv; subst hc hv; exact .int
        | j + 5, hc, hv => simp [lkC] at hc
    match j, hc, hv with
    | 0, hc, hv => simp at hc hv; subst hc hv; exact key x
    | 1, hc, hv => simp at hc hv; subst hc hv; exact key y
    | j + 2, hc, hv => simp at hc
abbrev vecL (L : List (List Nat)) : Ob := .vec 38 true 5 L.length ((flatD (L.map lk)).map .d)
theorem flat_len (L : List (List Nat)) : (flatD (L.map lk)).length = L.length * 5 := by
  induction L with
  | nil => rfl
  | cons a L ih =>
    have : (flatD ((a :: L).map lk)).length = (cellsD (lk a)).length + (flatD (L.map lk)).length := by simp [flatD]
    rw [this, ih]; simp only [cellsD, List.length_cons, List.length_nil]; omega
theorem flat_at : ∀ (L : List (List Nat)) (j : Nat) (x : List Nat), L[j / 5]? = some x → (flatD (L.map lk))[j]? = (lkC x)[j % 5]?
  | [], j, x, h => by simp at h
  | a :: L, j, x, h => by
    have e : flatD ((a :: L).map lk) = lkC a ++ flatD (L.map lk) := by simp [flatD, cellsD]
    rw [e]
    rcases Nat.lt_or_ge j 5 with hj | hj
    · rw [show j / 5 = 0 by omega] at h
      simp only [List.getElem?_cons_zero, Option.some.injEq] at h
      subst h
      rw [List.getElem?_append_left (by simpa using hj), Nat.mod_eq_of_lt hj]
    · rw [show j / 5 = (j - 5) / 5 + 1 by omega] at h
      simp only [List.getElem?_cons_succ] at h
      rw [List.getElem?_append_right (by simpa using hj), show (lkC a).length = 5 from rfl, flat_at L (j - 5) x h, show (j - 5) % 5 = j % 5 by omega]
theorem encL_get (x : LkT) (c : Nat) (hc : c < 5) : ∃ n, (lkC x.1)[c]? = some (nI n) ∧ (encL x)[c]! = vI n := by
  match c, hc with
  | 0, _ | 1, _ | 2, _ | 3, _ | 4, _ => exact ⟨_, rfl, rfl⟩
theorem step_sorted {D : DMap} {β : List Bi} {objs : List Ob} {w : World} (h : Heap D β objs w) {i b : Nat} {bi : Bi} {ob ob' : Ob} {o' : Obj} (hb : β[i]? = some bi) (ho : objs[i]? = some ob)
    (hown : ownOf bi ob = some b) (hown' : ∀ b', ownOf bi ob' = some b' → b' = b) (hD : ∀ ad, ad.block = b → D ad = none) (n : Nat) (os : Array Obj) (hnew : HoldsOb D β (putB (Go.Sort.ahead w n) b o') bi ob') :
    Step D β objs w D β (objs.set i ob') (Go.Sort.grow (putB (Go.Sort.ahead w n) b o') os) := by
  have s1 : Step D β objs w D β objs (Go.Sort.ahead w n) :=
    { Step.refl (h.same (w' := Go.Sort.ahead w n) rfl) with size := Nat.le_refl _, keep := fun _ _ _ => rfl, os := rfl, tape := rfl, output := ⟨rfl, Nat.le_add_right _ _⟩ }
  have s2 := Step.put s1.heap hb ho hown hown' hD hnew
  have s3 : Step D β (objs.set i ob') (putB (Go.Sort.ahead w n) b o') D β (objs.set i ob') (Go.Sort.grow (putB (Go.Sort.ahead w n) b o') os) :=
    Step.ext s2.heap (fun k hk => Go.Sort.heap_grow_old _ _ hk) (by simp) rfl rfl ⟨rfl, Nat.le_refl _⟩ (fun _ _ h => h) (fun ad v h1 h2 => by rw [h2] at h1; cases h1)
  exact (s1.trans s2).trans s3
theorem rt_emp : Rt [] := ⟨by simp, by simp⟩
theorem sortA {cf : FuncId} (hcf : CmpFn cf) (L : List (List Nat)) (hR : ∀ x ∈ L, Rt x) (hl : L.length ≤ 100000) : ∃ L' : List (List Nat), L'.Perm L ∧ L'.Pairwise (fun x y => ¬ cmpL y x < 0) ∧
    ∀ (objs : List Ob) (i : Nat), objs[i]? = some (vecL L) → ACall Try.prog 53 [.vs i 5 0 L.length, .d (.fn (.func cf) [] [])] objs (.tup []) (objs.set i (vecL L')) := by
  obtain ⟨d, hd⟩ : ∃ d : List LkT, d.map (·.1) = L := ⟨L.attachWith Rt hR, by simp⟩
  have hds : d.length = L.length := by rw [← hd]; simp
  refine ⟨(d.mergeSort fun x y => !ltOf cfL y x).map (·.1), ?_, ?_, fun objs i hi => ⟨enters_of Try.func53 (by kernel_rfl) rfl, fun D β w vs hp hr => ?_⟩⟩
  · rw [← hd]; exact (List.mergeSort_perm d _).map _
  · have := List.pairwise_mergeSort (le := fun x y => !ltOf cfL y x) (fun a b c h1 h2 => by
      simp only [Bool.not_eq_true'] at h1 h2 ⊢
      exact cfL_swo.ntrans _ _ _ h2 h1) (fun a b => by
      cases h1 : ltOf cfL b a with
      | false => rfl
      | true =>
        cases h2 : ltOf cfL a b with
        | false => rfl
        | true => have := cfL_swo.trans _ _ _ h1 h2; rw [cfL_swo.irrefl] at this; cases this) d
    rw [List.pairwise_map]
    refine this.imp fun {a b} h => ?_
    simp only [Bool.not_eq_true'] at h
    exact of_decide_eq_false h
  · generalize hM : (d.mergeSort fun x y => !ltOf cfL y x) = M
    have hMl : M.length = L.length := by rw [← hM, List.length_mergeSort]; exact hds
    obtain ⟨v0, v1, rfl, h0, h1⟩ : ∃ v0 v1, vs = #[v0, v1] ∧ RepA D β (.vs i 5 0 L.length) v0 ∧ RepA D β (.d (.fn (.func cf) [] [])) v1 := by
      obtain ⟨l⟩ := vs
      obtain ⟨h1, h2⟩ := hr
      match l, h1 with
      | [a, b], _ => exact ⟨a, b, rfl, h2 0 _ a rfl rfl, h2 1 _ b rfl rfl⟩
    obtain rfl : v1 = .func (.func cf) #[] #[] := by
      cases h1 with
      | d h1 =>
        cases h1 with
        | @fn _ _ _ a b h1 h2 _ _ =>
          obtain rfl : a = #[] := Array.size_eq_zero_iff.1 h1
          obtain rfl : b = #[] := Array.size_eq_zero_iff.1 h2
          rfl
    cases h0 with
    | @vs _ _ _ _ cap c bi a ad hb hh hc hm hn hx =>
      obtain ⟨e1, e2⟩ := hx (.inl rfl)
      rcases Nat.eq_zero_or_pos L.length with hz | hz
      · have hL : L = [] := List.length_eq_zero_iff.1 hz
        have hM0 : M = [] := List.length_eq_zero_iff.1 (by omega)
        have hset : objs.set i (vecL (M.map (·.1))) = objs := by
          rw [hM0]
          refine List.ext_getElem? fun k => ?_
          by_cases hk : i = k
          · subst hk
            rw [List.getElem?_set_self (List.getElem?_eq_some_iff.1 hi).1, hi, hL]; rfl
          · rw [List.getElem?_set_ne hk]
        rw [hset, hz]
        refine (callsIn_wide (n := 0)).2 ((AnyF.slices_SortFunc_none { Try.sortLk with } ad c _ w).mono fun e w' he => ?_)
        obtain ⟨rfl, rfl⟩ := he
        exact .inl ⟨_, D, β, rfl, Step.refl hp, .tup rfl (fun j c v hc => by simp at hc)⟩
      · obtain ⟨a', cap', g1, g2, g3, g4, g5, g6⟩ := hp.hold i bi _ hb hi
        rw [hh] at g1; cases g1
        cases a with
        | none => have := g5 rfl; omega
        | some a0 =>
          obtain ⟨rfl, us, T, ⟨k1, k2⟩, k3, k4, k5, k6⟩ := g6 a0 rfl
          simp only [Option.map_some, Nat.zero_mul] at e1
          subst e1
          have hblk : bi.blk < w.heap.size := (Array.getElem?_eq_some_iff.1 k1).1
          have hsz : d.toArray.size = L.length := by simpa using hds
          have hH : Go.Sort.HoldsK encL 5 w bi.blk 0 d.toArray := by
            intro j hj
            rw [Go.Sort.size_flatK, hsz] at hj
            have hjd : j / 5 < d.length := by omega
            have hx : L[j / 5]? = some (d[j / 5]).1 := by rw [← hd]; simp [hjd]
            obtain ⟨n, n1, n2⟩ := encL_get d[j / 5] (j % 5) (Nat.mod_lt _ (by decide))
            have hju : j < us.size := by have := Nat.mul_le_mul_right 5 g2; omega
            have hv := k4 j (.d (nI n)) us[j] (by rw [List.getElem?_map, flat_at L j _ hx, n1]; rfl) (by simp [hju])
            rw [Go.Sort.get_flatK _ _ _ _ (by rw [hsz]; exact hj)]
            have e3 : d.toArray[j / 5]! = d[j / 5] := by simp [hjd]
            rw [e3, n2]
            refine ⟨?_, ?_⟩
            · simp only [World.cell?, k1, Nat.zero_add]
              rw [show us[j]? = some us[j] by simp [hju]]
              generalize us[j] = u at hv ⊢
              cases hv with
              | d hv => cases hv; rfl
            · simp only [World.frozen?, k1]; simp
          have eg : ∀ args w, (callFunc cf args).run Try.prog w = .ok (.enter cf args) w := (hcf [] [] rt_emp rt_emp []).1
          have hcon := AnyQ.slices_SortFunc_total Try.sortLk 5 Try.isAgg38 Try.sizeOf38 encL (fun _ => rfl) (fun x v hv => by simp [encL] at hv; rcases hv with rfl | rfl | rfl | rfl | rfl <;> rfl) cfL cfL_swo cf #[] bi.blk 0 c d.toArray w eg (cmpLaysK hcf bi.blk 0 _ w) hH hblk (by omega) cfL_total
          rw [hsz] at hcon
          refine (callsIn_wide (n := 0)).2 (hcon.mono fun e w' he => ?_)
          obtain ⟨rfl, n, os, rfl⟩ := he
          refine .inl ⟨_, D, β, rfl, ?_, .tup rfl (fun j c v hc => by simp at hc)⟩
          have hMt : (d.toArray.toList.mergeSort fun x y => !ltOf cfL y x) = M := by rw [← hM]
          rw [hMt]
          show Step D β objs w D β _ (Go.Sort.grow (Go.Sort.putRowK encL 5 (Go.Sort.ahead w n) bi.blk 0 M.toArray) os)
          have hMs : M.toArray.size = L.length := by simpa using hMl
          have hput : Go.Sort.putRowK encL 5 (Go.Sort.ahead w n) bi.blk 0 M.toArray = putB (Go.Sort.ahead w n) bi.blk (.cells (Go.Sort.putCells id 0 (Go.Sort.flatK encL 5 M.toArray) us) T (0, 0)) := by
            unfold Go.Sort.putRowK Go.Sort.putRow Go.Sort.mapBlock putB
            congr 1
            refine Array.ext_getElem? fun k => ?_
            rw [Array.getElem?_modify, Array.getElem?_setIfInBounds]
            have kw : (Go.Sort.ahead w n).heap = w.heap := rfl
            rw [kw]
            by_cases hk : bi.blk = k
            · subst hk
              rw [if_pos rfl, if_pos rfl, if_pos hblk, k1]; rfl
            · rw [if_neg hk, if_neg hk]
          rw [hput]
          have own : ∀ Q, ownOf bi (vecL Q) = some bi.blk := fun Q => by simp only [ownOf, hh, Option.bind_some, Option.map_some]
          have hflat : ∀ j, j < L.length * 5 → ∃ m, (flatD ((M.map (·.1)).map lk))[j]? = some (nI m) ∧ (Go.Sort.flatK encL 5 M.toArray)[j]! = vI m := fun j hj => by
            have hjd : j / 5 < M.length := by omega
            obtain ⟨m, n1, n2⟩ := encL_get M[j / 5] (j % 5) (Nat.mod_lt _ (by decide))
            refine ⟨m, ?_, ?_⟩
            · rw [flat_at (M.map (·.1)) j M[j / 5].1 (by simp [hjd]), n1]
            · rw [Go.Sort.get_flatK _ _ _ _ (by rw [hMs]; exact hj)]
              have e3 : M.toArray[j / 5]! = M[j / 5] := by simp [hjd]
              rw [e3, n2]
          refine step_sorted hp hb hi (own L) (fun b' hb' => by rw [own] at hb'; cases hb'; rfl) (fun ad had => k6 ad had) n os ?_
          refine ⟨_, cap, hh, by simpa [hMl] using g2, g3, by rw [List.length_map, flat_len], g5, fun ad e => ?_⟩
          cases e
          have hus : (Go.Sort.putCells id 0 (Go.Sort.flatK encL 5 M.toArray) us).size = us.size := by simp [Go.Sort.putCells]
          have hget : ∀ j, (Go.Sort.putCells id 0 (Go.Sort.flatK encL 5 M.toArray) us)[j]? = us[j]?.map fun x => if j < L.length * 5 then (Go.Sort.flatK encL 5 M.toArray)[j]! else x := fun j => by
            simp only [Go.Sort.putCells, Array.getElem?_mapIdx, Go.Sort.size_flatK, hMs, Nat.zero_le, true_and, Nat.zero_add, Nat.sub_zero, id]
          refine ⟨rfl, _, T, ⟨putB_eq hblk, k2⟩, by rw [hus]; exact k3, fun j c v hc hv => ?_, fun j v hv => ?_, k6⟩
          · rw [List.getElem?_map, Option.map_eq_some_iff] at hc
            obtain ⟨c', hc', rfl⟩ := hc
            have hj : j < L.length * 5 := by
              have := (List.getElem?_eq_some_iff.1 hc').1
              rw [flat_len, List.length_map, hMl] at this; exact this
            obtain ⟨m, m1, m2⟩ := hflat j hj
            rw [m1] at hc'; cases hc'
            rw [hget, Option.map_eq_some_iff] at hv
            obtain ⟨u, _, hv⟩ := hv
            rw [if_pos hj, m2] at hv
            subst hv
            exact .d .int
          · rw [hget, Option.map_eq_some_iff] at hv
            obtain ⟨u, hu, hv⟩ := hv
            by_cases hj : j < L.length * 5
            · obtain ⟨m, m1, m2⟩ := hflat j hj
              rw [if_pos hj, m2] at hv
              subst hv; rfl
            · rw [if_neg hj] at hv
              subst hv; exact k5 j u hu
theorem sortNil {cf : DV} : KnownCall Try.prog 53 [.nilsl, cf] (.tup []) := by
  intro o
  refine ⟨enters_of Try.func53 (by kernel_rfl) rfl, fun D β w vs hp hr => ?_⟩
  obtain ⟨v0, v1, rfl, h0⟩ : ∃ v0 v1, vs = #[v0, v1] ∧ RepA D β (.d .nilsl) v0 := by
    obtain ⟨l⟩ := vs
    obtain ⟨h1, h2⟩ := hr
    match l, h1 with
    | [a, b], _ => exact ⟨a, b, rfl, h2 0 _ a rfl rfl⟩
  cases h0 with
  | d h0 =>
    cases h0
    refine (callsIn_wide (n := 0)).2 ((AnyF.slices_SortFunc_none { Try.sortLk with } none 0 v1 w).mono fun e w' he => ?_)
    obtain ⟨rfl, rfl⟩ := he
    exact .inl ⟨_, D, β, rfl, Step.refl hp, .tup rfl (fun j c v hc => by simp at hc)⟩
theorem chunk5 : ∀ (L : List (List Nat)), chunk true 5 L.length (flatD (L.map lk)) = L.map lk
  | [] => rfl
  | x :: L => by
    have e : flatD ((x :: L).map lk) = lkC x ++ flatD (L.map lk) := by simp [flatD, cellsD]
    rw [e]
    show elemA true 5 (lkC x ++ flatD (L.map lk)) :: chunk true 5 L.length ((lkC x ++ flatD (L.map lk)).drop 5) = _
    rw [show (lkC x ++ flatD (L.map lk)).drop 5 = flatD (L.map lk) from rfl, chunk5 L]
    rfl
theorem allM_d (objs : List Ob) (k : Nat) : ∀ l : List DV, allM (dvOf objs k) (l.map AV.d) = some l
  | [] => rfl
  | x :: l => by simp only [List.map_cons, allM, allM_d objs k l, dvOf]
theorem close_vec {objs : List Ob} {i : Nat} {L : List (List Nat)} (h : objs[i]? = some (vecL L)) : closeA objs 8 (.vs i 5 0 L.length) = some (.d (lks L)) := by
  have e : List.take (L.length * 5) (List.drop (0 * 5) ((flatD (L.map lk)).map AV.d)) = (flatD (L.map lk)).map AV.d := by
    rw [Nat.zero_mul, List.drop_zero]
    exact List.take_of_length_le (by rw [List.length_map, flat_len]; exact Nat.le_refl _)
  have h1 : (Nat.beq 5 5 && Nat.ble (0 + L.length) L.length && Nat.ble 1 5 && (true || Nat.beq 5 1)) = true := by
    rw [Nat.zero_add, Nat.ble_eq_true_of_le (Nat.le_refl L.length)]; rfl
  have h2 : dvOf objs 8 (.vs i 5 0 L.length) = some (lks L) := by
    simp only [dvOf, h]
    rw [if_pos h1, e, allM_d, Option.map_some, chunk5]
  simp only [closeA, h2, Option.map_some]
section
variable {E : PT Ty} {H : Hd} {frz : List Nat} {rd : Operand → AV} {objs : List Ob} {o : Oper} {t kt et : TypeId} {y : Ty} {yt : Ty} {m k st v : Operand} {i j : Nat} {kk d z : DV} {kvs : List (DV × DV)} {r : Option (Nat × DV)}
theorem evK_lookup (hop : o.op = .lookup t m k false) (h1 : E.get? t = some yt) (h2 : yt.desc = .map kt et) (h3 : E.get? et = some y) (hkt : keyT E kt kk = true) (hm : rd m = .mp i) (hi : objs[i]? = some (.map kvs)) (hk : rd k = .d kk)
    (hf : findKV (eqKey E kt) kk kvs = some r) (hz : zeroD y = some z) : evAny E H frz rd objs o = some (.d (match r with | some p => p.2 | none => z), none, true) := by
  obtain ⟨dst, op, ty, pos, after, guard⟩ := o
  obtain ⟨desc, size, bytes, zero⟩ := yt
  simp only at hop h2
  subst hop h2
  simp only [evAny, quiet, evOp, lookupR, h1, hk, h3, hkt, kvsOf, hm, hi, hf]
  cases r with
  | none => simp only [hz, pureR, Option.map_some]
  | some p => obtain ⟨j, v⟩ := p; simp only [pureR, Option.map_some]
end
abbrev CM := List (List Nat × Nat)
theorem eqKeyL (x y : List Nat) (hx : x.length ≤ 4) : eqKey Et 38 (lk x) (lk y) = some (decide (x = y)) := by
  have e1 : eqAgg Et 38 (lkC x) (lkC y) = some (((x.length : Int) == (y.length : Int)) && ((((x.getD 0 0 : Nat) : Int) == ((y.getD 0 0 : Nat) : Int)) && ((((x.getD 1 0 : Nat) : Int) == ((y.getD 1 0 : Nat) : Int)) && ((((x.getD 2 0 : Nat) : Int) == ((y.getD 2 0 : Nat) : Int)) && ((((x.getD 3 0 : Nat) : Int) == ((y.getD 3 0 : Nat) : Int)) && true))) && true)) := rfl
  have e2 : eqCells (lkC x) (lkC y) = some (((x.length : Int) == (y.length : Int)) && ((((x.getD 0 0 : Nat) : Int) == ((y.getD 0 0 : Nat) : Int)) && ((((x.getD 1 0 : Nat) : Int) == ((y.getD 1 0 : Nat) : Int)) && ((((x.getD 2 0 : Nat) : Int) == ((y.getD 2 0 : Nat) : Int)) && ((((x.getD 3 0 : Nat) : Int) == ((y.getD 3 0 : Nat) : Int)) && true))))) := rfl
  show (match eqAgg Et 38 (lkC x) (lkC y), eqCells (lkC x) (lkC y) with
    | some true, some true => some true
    | some false, some false => some false
    | _, _ => none) = _
  rw [e1, e2]
  clear e1 e2
  by_cases h : x = y
  · subst h; simp
  · have hb : ∀ b : Bool, (b = true → x = y) → b = false := fun b hb => by
      cases b with
      | false => rfl
      | true => exact absurd (hb rfl) h
    generalize hB1 : (((x.length : Int) == (y.length : Int)) && ((((x.getD 0 0 : Nat) : Int) == ((y.getD 0 0 : Nat) : Int)) && ((((x.getD 1 0 : Nat) : Int) == ((y.getD 1 0 : Nat) : Int)) && ((((x.getD 2 0 : Nat) : Int) == ((y.getD 2 0 : Nat) : Int)) && ((((x.getD 3 0 : Nat) : Int) == ((y.getD 3 0 : Nat) : Int)) && true))) && true)) = B1
    generalize hB2 : (((x.length : Int) == (y.length : Int)) && ((((x.getD 0 0 : Nat) : Int) == ((y.getD 0 0 : Nat) : Int)) && ((((x.getD 1 0 : Nat) : Int) == ((y.getD 1 0 : Nat) : Int)) && ((((x.getD 2 0 : Nat) : Int) == ((y.getD 2 0 : Nat) : Int)) && ((((x.getD 3 0 : Nat) : Int) == ((y.getD 3 0 : Nat) : Int)) && true))))) = B2
    obtain rfl : B1 = false := hb _ fun he => by
      rw [he] at hB1
      simp only [Bool.and_eq_true, beq_iff_eq] at hB1
      exact lk_inj hx (by omega) (by omega) (by omega) (by omega) (by omega)
    obtain rfl : B2 = false := hb _ fun he => by
      rw [he] at hB2
      simp only [Bool.and_eq_true, beq_iff_eq] at hB2
      exact lk_inj hx (by omega) (by omega) (by omega) (by omega) (by omega)
    simp [h]
theorem keyTL (x : List Nat) : keyT Et 38 (lk x) = true := rfl
def incM : CM → List Nat → CM
  | [], x => [(x, 1)]
  | p :: M, x => if p.1 = x then (p.1, p.2 + 1) :: M else p :: incM M x
def cntM (L : List (List Nat)) : CM := L.foldl incM []
def dst (L : List (List Nat)) : List (List Nat) := (cntM L).map (·.1)
def outX : List (List Nat) → List Ob
  | [] => []
  | x :: r => List.replicate r.length .gone ++ [vecL (x :: r)]
theorem outX_len : ∀ D, (outX D).length = D.length
  | [] => rfl
  | x :: r => by simp [outX]
theorem ref_vec (D : List (List Nat)) (n : Nat) : refOb n (vecL D) = true := by
  simp only [refOb, List.all_map, List.all_eq_true]
  intro x _; rfl
theorem outX_ref (n : Nat) : ∀ D, (outX D).all (refOb n) = true
  | [] => rfl
  | x :: r => by
    simp only [outX, List.all_append, List.all_cons, List.all_nil, ref_vec, Bool.and_true, List.all_eq_true]
    intro o ho
    rw [(List.mem_replicate.1 ho).2]; rfl
section
variable {frz : List Nat} {rd : Operand → AV} {objs : List Ob} {o : Oper}
theorem evAny_appV {args : Array Operand} {tys : Array TypeId} {a b : Operand} {x : List Nat} {i : Nat} {D : List (List Nat)} (hop : o.op = .call ⟨.builtin .append, args, tys⟩) (ha : args.toList = [a, b]) (ht : tys.toList = [28, 28]) (hv : hintV o.dst frz = true)
    (hb : rd b = .d (.sl 5 [lk x])) (h7 : rd a = .vs i 5 0 D.length) (h8 : objs[i]? = some (vecL D)) (hlen : D.length ≤ 16777215) :
    evAny Et H0 frz rd objs o = some (.vs objs.length 5 0 (D.length + 1), some (objs.set i .gone ++ [vecL (D ++ [x])]), true) := by
  obtain ⟨dst, op, ty, pos, after, guard⟩ := o
  simp only at hop hv
  subst hop
  have hs : appSrc0 Et 38 28 (.d (.sl 5 [lk x])) objs = some (5, [lk x]) := rfl
  have e1 : Et.get? 28 = some ty28 := rfl
  have e2 : Et.get? 38 = some ty38 := rfl
  have hf : flatD ((D ++ [x]).map lk) = flatD (D.map lk) ++ flatD [lk x] := by simp [flatD]
  have ht2 : List.take (D.length * 5) ((flatD (D.map lk)).map AV.d) = (flatD (D.map lk)).map AV.d := List.take_of_length_le (by rw [List.length_map, flat_len]; exact Nat.le_refl _)
  have hm : Nat.ble ((D.length + 1) * ty38.bytes) 1099511627776 = true := Nat.ble_eq_true_of_le (Nat.le_trans (Nat.mul_le_mul (show D.length + 1 ≤ 16777216 by omega) (Nat.le_refl _)) (by decide))
  have hn : Nat.ble D.length D.length = true := Nat.ble_eq_true_of_le (Nat.le_refl _)
  simp only [evAny, ha, ht, hv, hb, h7, appendR, e1]
  show Option.map _ (match some ty38, appSrc0 Et 38 28 (.d (.sl 5 [lk x])) objs with
    | some z, some (szx, ys) => _
    | _, _ => none) = _
  rw [hs]
  simp only [h8]
  rw [if_pos (by rfl), if_pos (by rfl)]
  have e3 : (List.take (D.length * 5) ((flatD (D.map lk)).map AV.d) ++ (flatD [lk x]).map AV.d) = (flatD ((D ++ [x]).map lk)).map AV.d := by rw [ht2, hf, List.map_append]
  have e4 : (D ++ [x]).length = D.length + 1 := by simp
  have e5 : vecL (D ++ [x]) = .vec 38 true 5 (D.length + 1) (List.take (D.length * 5) ((flatD (D.map lk)).map AV.d) ++ (flatD [lk x]).map AV.d) := by rw [e3, vecL, e4]
  rw [e5]
  simp only [Option.map_some, List.length_cons, List.length_nil, Nat.zero_add, hn, hm, Bool.and_self]
end
section
set_option maxRecDepth 10000
end
abbrev Asc (L : List (List Nat)) : Prop := L.Pairwise fun x y => cmpL x y < 0
theorem cmp_irr {x : List Nat} : ¬ cmpL x x < 0 := by rw [cmpL_self]; decide
theorem cmp_tri (x y : List Nat) : cmpL x y < 0 ∨ x = y ∨ cmpL y x < 0 := by
  by_cases h : cmpL x y = 0
  · exact .inr (.inl (cmpL_eq h))
  · have := cmpL_neg x y; omega
theorem cmp_as {x y : List Nat} (h : cmpL x y < 0) (k : cmpL y x < 0) : False := by
  have := cmpL_neg x y; omega
def ins (x : List Nat) : List (List Nat) → List (List Nat)
  | [] => [x]
  | y :: L => if cmpL x y < 0 then x :: y :: L else if cmpL y x < 0 then y :: ins x L else y :: L
theorem mem_ins {x z : List Nat} : ∀ {L : List (List Nat)}, z ∈ ins x L ↔ z = x ∨ z ∈ L
  | [] => by simp [ins]
  | y :: L => by
    unfold ins
    split
    · simp
    · rename_i h1
      split
      · simp only [List.mem_cons, mem_ins (L := L)]
        constructor
        · rintro (h | h | h) <;> simp [h]
        · rintro (h | h | h) <;> simp [h]
      · rename_i h2
        have : x = y := (cmp_tri x y).elim (fun h => absurd h h1) fun h => h.elim id fun h => absurd h h2
        subst this
        simp
theorem asc_ins {x : List Nat} : ∀ {L : List (List Nat)}, Asc L → Asc (ins x L)
  | [], _ => by simp [ins]
  | y :: L, h => by
    have hc := List.pairwise_cons.1 h
    unfold ins
    split
    · rename_i h1
      refine List.pairwise_cons.2 ⟨fun z hz => ?_, h⟩
      rcases List.mem_cons.1 hz with rfl | hz
      · exact h1
      · exact cmpL_trans h1 (hc.1 z hz)
    · split
      · rename_i h2
        refine List.pairwise_cons.2 ⟨fun z hz => ?_, asc_ins hc.2⟩
        rcases mem_ins.1 hz with rfl | hz
        · exact h2
        · exact hc.1 z hz
      · exact h
def ascOf (E : List (List Nat)) : List (List Nat) := E.foldr ins []
theorem mem_asc {z : List Nat} : ∀ {E : List (List Nat)}, z ∈ ascOf E ↔ z ∈ E
  | [] => by simp [ascOf]
  | x :: E => by
    show z ∈ ins x (ascOf E) ↔ _
    rw [mem_ins, mem_asc, List.mem_cons]
theorem asc_asc : ∀ E : List (List Nat), Asc (ascOf E)
  | [] => List.Pairwise.nil
  | x :: E => asc_ins (asc_asc E)
theorem asc_ext : ∀ {A B : List (List Nat)}, Asc A → Asc B → (∀ z, z ∈ A ↔ z ∈ B) → A = B
  | [], [], _, _, _ => rfl
  | [], y :: B, _, _, h => by have := (h y).2 (by simp); simp at this
  | x :: A, [], _, _, h => by have := (h x).1 (by simp); simp at this
  | x :: A, y :: B, ha, hb, h => by
    have ca := List.pairwise_cons.1 ha
    have cb := List.pairwise_cons.1 hb
    have hxy : x = y := by
      rcases List.mem_cons.1 ((h x).1 (by simp)) with h1 | h1
      · exact h1
      · rcases List.mem_cons.1 ((h y).2 (by simp)) with h2 | h2
        · exact h2.symm
        · exact (cmp_as (ca.1 y h2) (cb.1 x h1)).elim
    subst hxy
    congr 1
    refine asc_ext ca.2 cb.2 fun z => ?_
    constructor
    · intro hz
      rcases List.mem_cons.1 ((h z).1 (by simp [hz])) with h1 | h1
      · subst h1; exact (cmp_irr (ca.1 _ hz)).elim
      · exact h1
    · intro hz
      rcases List.mem_cons.1 ((h z).2 (by simp [hz])) with h1 | h1
      · subst h1; exact (cmp_irr (cb.1 _ hz)).elim
      · exact h1
theorem asc_of_sorted {L : List (List Nat)} (h1 : L.Pairwise fun x y => ¬ cmpL y x < 0) (h2 : L.Nodup) : Asc L := by
  refine (h1.and h2).imp fun {a b} h => ?_
  rcases cmp_tri a b with h3 | h3 | h3
  · exact h3
  · exact absurd h3 h.2
  · exact absurd h3 h.1
section
variable {E : PT Ty} {H : Hd} {frz : List Nat} {rd : Operand → AV} {objs : List Ob} {o : Oper} {t kt et : TypeId} {yt : Ty} {m k v : Operand} {i j : Nat} {kk d d' : DV} {kvs : List (DV × DV)}
theorem evK_updNew (hop : o.op = .mapUpdate t m k v) (h1 : E.get? t = some yt) (h2 : yt.desc = .map kt et) (hkt : keyT E kt kk = true) (hm : rd m = .mp i) (hi : objs[i]? = some (.map kvs)) (hk : rd k = .d kk) (hv : rd v = .d d)
    (hf : findKV (eqKey E kt) kk kvs = some none) : evAny E H frz rd objs o = some (.d .any, some (objs.set i (.map (kvs ++ [(kk, d)]))), true) := by
  obtain ⟨dst, op, ty, pos, after, guard⟩ := o
  obtain ⟨desc, size, bytes, zero⟩ := yt
  simp only at hop h2
  subst hop h2
  simp only [evAny, quiet, evOp, mapUpdateR, h1, hk, hv, hkt, hm, hi, hf, pureR, Option.map_some]
theorem evK_updOld (hop : o.op = .mapUpdate t m k v) (h1 : E.get? t = some yt) (h2 : yt.desc = .map kt et) (hkt : keyT E kt kk = true) (hm : rd m = .mp i) (hi : objs[i]? = some (.map kvs)) (hk : rd k = .d kk) (hv : rd v = .d d)
    (hf : findKV (eqKey E kt) kk kvs = some (some (j, d'))) : evAny E H frz rd objs o = some (.d .any, some (objs.set i (.map (kvs.modify j fun p => (p.1, d)))), true) := by
  obtain ⟨dst, op, ty, pos, after, guard⟩ := o
  obtain ⟨desc, size, bytes, zero⟩ := yt
  simp only at hop h2
  subst hop h2
  simp only [evAny, quiet, evOp, mapUpdateR, h1, hk, hv, hkt, hm, hi, hf, pureR, Option.map_some]
end
abbrev kvT (L : List (List Nat)) : List (DV × DV) := L.map fun x => (lk x, DV.bool true)
theorem findT_none {x : List Nat} (hx : x.length ≤ 4) : ∀ {L : List (List Nat)}, x ∉ L → findKV (eqKey Et 38) (lk x) (kvT L) = some none
  | [], _ => rfl
  | y :: L, h => by
    simp only [List.mem_cons, not_or] at h
    have := findT_none hx h.2
    simp only [kvT] at this
    simp only [kvT, List.map_cons, findKV, eqKeyL x y hx, decide_eq_false h.1, this]
    rfl
theorem findT_at {x : List Nat} (hx : x.length ≤ 4) : ∀ {L : List (List Nat)}, x ∈ L → ∃ j, findKV (eqKey Et 38) (lk x) (kvT L) = some (some (j, .bool true)) ∧ (kvT L).modify j (fun p => (p.1, DV.bool true)) = kvT L
  | [], h => by cases h
  | y :: L, h => by
    by_cases e : x = y
    · subst e
      exact ⟨0, by simp only [kvT, List.map_cons, findKV, eqKeyL x x hx, decide_eq_true], rfl⟩
    · obtain ⟨j, h1, h2⟩ := findT_at hx ((List.mem_cons.1 h).resolve_left e)
      refine ⟨j + 1, ?_, ?_⟩
      · simp only [kvT] at h1
        simp only [kvT, List.map_cons, findKV, eqKeyL x y hx, decide_eq_false e, h1]
        rfl
      · simp only [kvT, List.map_cons, List.modify_succ_cons] at h2 ⊢
        rw [h2]
def insT1 (L : List (List Nat)) (x : List Nat) : List (List Nat) := if x ∈ L then L else L ++ [x]
theorem mem_insT1 {L : List (List Nat)} {x z : List Nat} : z ∈ insT1 L x ↔ z ∈ L ∨ z = x := by
  unfold insT1
  split
  · constructor
    · exact .inl
    · rintro (h | rfl)
      · exact h
      · assumption
  · simp
theorem nodup_insT1 {L : List (List Nat)} {x : List Nat} (h : L.Nodup) : (insT1 L x).Nodup := by
  unfold insT1
  split
  · exact h
  · rename_i hn
    rw [List.nodup_append]
    exact ⟨h, by simp, fun a ha b hb e => by simp at hb; subst hb; exact hn (e ▸ ha)⟩
section
variable {H : Hd} {frz : List Nat} {rd : Operand → AV} {objs : List Ob} {o : Oper} {t : TypeId} {m k v : Operand} {i : Nat} {L : List (List Nat)} {x : List Nat}
theorem evAny_insT (hop : o.op = .mapUpdate t m k v) (h1 : Et.get? t = some ⟨.map 38 4, 1, 8, [.nilmap]⟩) (hm : rd m = .mp i) (hi : objs[i]? = some (.map (kvT L))) (hk : rd k = .d (lk x)) (hv : rd v = .d (.bool true)) (hx : x.length ≤ 4) :
    evAny Et H frz rd objs o = some (.d .any, some (objs.set i (.map (kvT (insT1 L x)))), true) := by
  by_cases h : x ∈ L
  · obtain ⟨j, h2, h3⟩ := findT_at hx h
    have e := evK_updOld (H := H) (frz := frz) hop h1 rfl (keyTL x) hm hi hk hv h2
    rw [h3] at e
    rw [e, insT1, if_pos h]
  · have e := evK_updNew (H := H) (frz := frz) hop h1 rfl (keyTL x) hm hi hk hv (findT_none hx h)
    rw [e, insT1, if_neg h]
    simp [kvT]
theorem evAny_hasT (hop : o.op = .lookup t m k false) (h1 : Et.get? t = some ⟨.map 38 4, 1, 8, [.nilmap]⟩) (hm : rd m = .mp i) (hi : objs[i]? = some (.map (kvT L))) (hk : rd k = .d (lk x)) (hx : x.length ≤ 4) :
    evAny Et H frz rd objs o = some (.d (.bool (decide (x ∈ L))), none, true) := by
  by_cases h : x ∈ L
  · obtain ⟨j, h2, _⟩ := findT_at hx h
    rw [evK_lookup (H := H) (frz := frz) hop h1 rfl rfl (keyTL x) hm hi hk h2 rfl, decide_eq_true h]
  · rw [evK_lookup (H := H) (frz := frz) hop h1 rfl rfl (keyTL x) hm hi hk (findT_none hx h) rfl, decide_eq_false h]
end
theorem asc_nodup {L : List (List Nat)} (h : Asc L) : L.Nodup := h.imp fun {a b} hab e => by subst e; exact cmp_irr hab
theorem perm_asc {L E : List (List Nat)} (hn : L.Nodup) (hm : ∀ z, z ∈ L ↔ z ∈ E) : (kvT L).Perm (kvT (ascOf E)) :=
  List.Perm.map _ ((List.perm_ext_iff_of_nodup hn (asc_nodup (asc_asc E))).2 fun z => (hm z).trans mem_asc.symm)
theorem perm_kvT {l : List (DV × DV)} {L : List (List Nat)} (h : l.Perm (kvT L)) : ∃ L', l = kvT L' ∧ L'.Perm L := by
  obtain ⟨L', h1, h2⟩ : ∃ L', L'.Perm L ∧ l = kvT L' := by
    generalize hK : kvT L = K at h
    induction h generalizing L with
    | nil => exact ⟨[], by cases L with | nil => exact .nil | cons => simp [kvT] at hK, rfl⟩
    | cons a _ ih =>
      cases L with
      | nil => simp [kvT] at hK
      | cons x L =>
        simp only [kvT, List.map_cons, List.cons.injEq] at hK
        obtain ⟨rfl, rfl⟩ := hK
        obtain ⟨L', h1, rfl⟩ := ih rfl
        exact ⟨x :: L', .cons x h1, rfl⟩
    | swap a b r =>
      match L, hK with
      | x :: y :: L, hK =>
        simp only [kvT, List.map_cons, List.cons.injEq] at hK
        obtain ⟨rfl, rfl, rfl⟩ := hK
        exact ⟨y :: x :: L, .swap _ _ _, rfl⟩
      | [x], hK => simp [kvT] at hK
      | [], hK => simp [kvT] at hK
    | trans _ _ ih1 ih2 =>
      obtain ⟨L1, h1, rfl⟩ := ih2 hK
      obtain ⟨L2, h2, rfl⟩ := ih1 rfl
      exact ⟨L2, h2.trans h1, rfl⟩
  exact ⟨L', h2, h1⟩
theorem mem_prs {k : Nat} {a b : List (List Nat)} {z : List Nat} : z ∈ prs k a b ↔ ∃ x ∈ a, ∃ y ∈ b, z = (x ++ y).take k := by
  simp only [prs, List.mem_flatMap, List.mem_map]
  constructor
  · rintro ⟨x, hx, y, hy, rfl⟩; exact ⟨x, hx, y, hy, rfl⟩
  · rintro ⟨x, hx, y, hy, rfl⟩; exact ⟨x, hx, y, hy, rfl⟩
theorem rt_take {k : Nat} (hk : k ≤ 4) {x y : List Nat} (hx : ∀ t ∈ x, t < 8) (hy : ∀ t ∈ y, t < 8) : Rt ((x ++ y).take k) :=
  ⟨by rw [List.length_take]; omega, fun t ht => (List.mem_append.1 (List.mem_of_mem_take ht)).elim (hx t) (hy t)⟩
theorem prs_rt {k : Nat} (hk : k ≤ 4) {a b : List (List Nat)} (ha : ∀ x ∈ a, Rt x) (hb : ∀ x ∈ b, Rt x) : ∀ z ∈ prs k a b, Rt z := fun z hz => by
  obtain ⟨x, hx, y, hy, rfl⟩ := mem_prs.1 hz
  exact rt_take hk (ha x hx).lt (hb y hy).lt
section
variable {E : PT Ty} {H : Hd} {frz : List Nat} {rd : Operand → AV} {objs : List Ob} {o : Oper} {args : Array Operand} {tys : Array TypeId} {a : Operand} {t kt et : TypeId} {yt : Ty} {kvs : List (DV × DV)} {i : Nat}
theorem evAny_lenM (hop : o.op = .call ⟨.builtin .len, args, tys⟩) (ha : args.toList = [a]) (ht : tys.toList = [t]) (h1 : E.get? t = some yt) (h2 : yt.desc = .map kt et) (hm : rd a = .mp i) (hi : objs[i]? = some (.map kvs)) :
    evAny E H frz rd objs o = some (.d (.int .i64 kvs.length), none, true) := by
  obtain ⟨dst, op, ty, pos, after, guard⟩ := o
  simp only at hop
  subst hop
  simp only [evAny, quiet, evOp, ha, ht, List.map_cons, List.map_nil, lenR, h1, h2, hm, hi, pureR, Option.map_some]
end
def RunI (P : Program) (nt m : Nat) (ro' : Option Nat) (K : Ex → S → Prop) {α : Type} (St : α → S) (I : α → Prop) : List Code → S → Prop
  | [], s => ∀ r, (∀ a, I a → Run P nt m ro' r (St a) K) → Run P nt m ro' r s K
  | c :: cs, s => Run P nt m ro' c s (fun e s1 => match e with | .normal => RunI P nt m ro' K St I cs s1 | e => K e s1)
def seqsI : List Code → Code → Code
  | [], r => r
  | c :: cs, r => .seq c (seqsI cs r)
theorem RunI.run {P : Program} {nt m : Nat} {ro' : Option Nat} {K : Ex → S → Prop} {α : Type} {r : Code} (St : α → S) (I : α → Prop) : ∀ (cs : List Code) {s : S}, RunI P nt m ro' K St I cs s → (∀ a, I a → Run P nt m ro' r (St a) K) → Run P nt m ro' (seqsI cs r) s K
  | [], _, h1, h => h1 _ h
  | c :: cs, _, h, h2 => Run.seq (Run.mono h fun e s1 h3 => by
    cases e with
    | normal => exact RunI.run St I cs h3 h2
    | _ => exact h3)
theorem get1 {M X : List Ob} {a b : Ob} : (M ++ a :: b :: X)[M.length + 1]? = some b := by
  rw [List.getElem?_append_right (by omega), show M.length + 1 - M.length = 1 by omega]; rfl
theorem get0 {M X : List Ob} {a : Ob} : (M ++ a :: X)[M.length]? = some a := by
  rw [List.getElem?_append_right (by omega), Nat.sub_self]; rfl
theorem get2 {M X : List Ob} {a b c : Ob} : (M ++ a :: b :: c :: X)[M.length + 2]? = some c := by
  rw [List.getElem?_append_right (by omega), show M.length + 2 - M.length = 2 by omega]; rfl
theorem getO {M X : List Ob} {i : Nat} {a : Ob} (h : M[i]? = some a) : (M ++ X)[i]? = some a := by
  rw [List.getElem?_append_left (List.getElem?_eq_some_iff.1 h).1]; exact h
theorem setL0 {M X : List Ob} {a c : Ob} : (M ++ a :: X).set M.length c = M ++ c :: X := by
  rw [List.set_append_right _ _ (by omega), Nat.sub_self]; rfl
theorem setL1 {M X : List Ob} {a b c : Ob} : (M ++ a :: b :: X).set (M.length + 1) c = M ++ a :: c :: X := by
  rw [List.set_append_right _ _ (by omega), show M.length + 1 - M.length = 1 by omega]; rfl
theorem setL2 {M X : List Ob} {a b c d : Ob} : (M ++ a :: b :: c :: X).set (M.length + 2) d = M ++ a :: b :: d :: X := by
  rw [List.set_append_right _ _ (by omega), show M.length + 2 - M.length = 2 by omega]; rfl
theorem take2 {M Y : List Ob} {a b : Ob} : (M ++ a :: b :: Y).take (M.length + 2) = M ++ [a, b] := by
  rw [List.take_append, List.take_of_length_le (by omega), show M.length + 2 - M.length = 2 by omega]; rfl
theorem take3 {M Y : List Ob} {a b c : Ob} : (M ++ a :: b :: c :: Y).take (M.length + 3) = M ++ [a, b, c] := by
  rw [List.take_append, List.take_of_length_le (by omega), show M.length + 3 - M.length = 3 by omega]; rfl
theorem setO {M X : List Ob} {i : Nat} {c : Ob} (h : i < M.length) : (M ++ X).set i c = M.set i c ++ X := List.set_append_left _ _ h
theorem seen_le : ∀ (n : Nat) (l : List Nat), l.Nodup → (∀ x ∈ l, x < n) → l.length ≤ n
  | 0, l, _, h => by
    cases l with
    | nil => simp
    | cons a l => have := h a (by simp); omega
  | n + 1, l, hn, h => by
    have h1 := seen_le n (l.erase n) (hn.erase n) fun x hx => by
      have h2 := h x (List.mem_of_mem_erase hx)
      have h3 : x ≠ n := fun e => by subst e; exact (hn.not_mem_erase hx)
      omega
    rw [List.length_erase] at h1
    split at h1 <;> omega
theorem wk_cell {O X : List Ob} {cs ds : List AV} (h : WkCs cs ds) : WkObs (O ++ .box cs :: X) (O ++ .box ds :: X) := by
  induction O with
  | nil => exact ⟨.box h, wk_all X⟩
  | cons a O ih => exact ⟨.refl, ih⟩
where wk_all : ∀ X : List Ob, WkObs X X
  | [] => trivial
  | _ :: X => ⟨.refl, wk_all X⟩
theorem wk_ends {O X : List Ob} {a b p : Ob} : WkObs (O ++ a :: b :: p :: X) (O ++ [.gone, .gone, p]) := by
  induction O with
  | nil => exact ⟨.gone, .gone, .refl, by cases X <;> trivial⟩
  | cons a O ih => exact ⟨.refl, ih⟩
theorem set_back {O : List Ob} {i : Nat} {x y : Ob} (h : O[i]? = some x) : (O.set i y).set i x = O := by
  obtain ⟨h1, h2⟩ := List.getElem?_eq_some_iff.1 h
  rw [List.set_set, ← h2]
  exact List.set_getElem_self h1
theorem Run.freezeD {P : Program} {nt m : Nat} {ro' : Option Nat} {K : Ex → S → Prop} {c : Code} {tm tm' : PT AV} {objs objs' : List Ob} {dl : List Dl} (i : Nat) {ds : List DV} (h : Run P nt m ro' c ⟨tm', objs', dl⟩ K) (hi : objs[i]? = some (.box (ds.map .d))) (he : objs.set i .gone = objs')
    (ht : ∀ t v, tm'.get? t = some v → tm.get? t = some v ∨ ∃ off, off ≤ ds.length ∧ tm.get? t = some (.bp i off) ∧ v = .d (.ep (ds.drop off))) : Run P nt m ro' c ⟨tm, objs, dl⟩ K := by
  subst he
  intro D0 β0 o0 w0 hb0 ro Q a w hro hK hs
  obtain ⟨D, β, h1, h2, h3⟩ := hs
  have hil := (List.getElem?_eq_some_iff.1 hi).1
  obtain ⟨bi, hb⟩ : ∃ bi, β[i]? = some bi := ⟨β[i]'(by have := h1.heap.len; simp only at this; rw [this]; exact hil), by simp⟩
  obtain ⟨st, hr⟩ := box_freeze h1.heap hb hi
  refine h D0 β0 o0 w0 hb0 ro Q a w hro hK ⟨_, β, h1.trans st, ⟨h2.1, fun t => ?_⟩, h3.mono st.dsub st.bext⟩
  cases hv : tm'.get? t with
  | none => exact .d .any
  | some v =>
    rcases ht t v hv with e | ⟨off, h4, h5, rfl⟩
    · have := h2.2 t
      simp only at this
      rw [e] at this
      exact st.repA this
    · have := h2.2 t
      simp only at this
      rw [h5] at this
      simp only [Option.getD_some] at this ⊢
      generalize a.tmps.getD t undef = u at this ⊢
      cases this with
      | bp hb' => rw [hb] at hb'; cases hb'; exact .d (hr off h4)
theorem Run.dropLastD {P : Program} {nt m : Nat} {ro' : Option Nat} {K : Ex → S → Prop} {c : Code} {tm : PT AV} {O : List Ob} {dl : List Dl} {ds : List DV} (l : List (Nat × AV)) (h : Run P nt m ro' c ⟨PT.ofList l, O, dl⟩ K) (hm : m ≤ O.length) (hO : O.all (refOb O.length) = true) (hd : dl.all (refDl O.length) = true)
    (ht : ∀ t v, (PT.ofList l).get? t = some v → tm.get? t = some v ∨ ∃ off, off ≤ ds.length ∧ tm.get? t = some (.bp O.length off) ∧ v = .d (.ep (ds.drop off))) (hr : allQ (refA 8 O.length) l) : Run P nt m ro' c ⟨tm, O ++ [.box (ds.map .d)], dl⟩ K := by
  refine Run.freezeD O.length (tm' := PT.ofList l) (objs' := O ++ [.gone]) (ds := ds) ?_ (by simp) (by rw [List.set_append_right _ _ (Nat.le_refl _)]; simp) ht
  refine Run.trunc O.length (by simpa using hm) ?_ ?_
  · simp only [refS, ptAll_ofList hr, List.take_left, hO, hd, Bool.and_self]
  · simpa [S.trunc] using h
section
variable {E : PT Ty} {H : Hd} {frz : List Nat} {rd : Operand → AV} {objs : List Ob} {o : Oper} {t : TypeId} {x xv : Operand} {y : Ty} {i off sz n : Nat} {T : TypeId} {ag : Bool} {cs : List AV} {c : AV}
theorem evAny_loadV (hop : o.op = .load t x) (h1 : E.get? t = some y) (ha : isAggT y.desc = false) (hx : rd x = .bp i off) (hi : objs[i]? = some (.vec T ag sz n cs)) (hc : cs[off]? = some c) : evAny E H frz rd objs o = some (c, none, true) := by
  obtain ⟨dst, op, ty, pos, after, guard⟩ := o
  simp only at hop
  subst hop
  cases cs with
  | nil => simp at hc
  | cons a l => simp only [evAny, quiet, evOp, loadR, h1, hx, hi, obCells, ha, hc, pureR, if_true, Option.map_some]
theorem evAny_storeV (hop : o.op = .store t x xv) (h1 : E.get? t = some y) (hs : y.size = 1) (hx : rd x = .bp i off) (hv : rd xv = c) (hk : knownA c = true) (hl : c.cells = [c]) (hi : objs[i]? = some (.vec T ag sz n cs)) (hc : off < cs.length) :
    evAny E H frz rd objs o = some (.d .any, some (objs.set i (.vec T ag sz n (cs.take off ++ [c] ++ cs.drop (off + 1)))), true) := by
  obtain ⟨dst, op, ty, pos, after, guard⟩ := o
  simp only at hop
  subst hop
  cases cs with
  | nil => simp at hc
  | cons a l =>
    have hb : Nat.ble (off + 1) (a :: l).length = true := Nat.ble_eq_true_of_le hc
    simp only [evAny, quiet, evOp, storeR, h1, hx, hv, hi, obCells, hk, hl, hs, hb, List.length_cons, List.length_nil, pureR, Bool.and_self, if_true, Option.map_some, obPut]
    simp [hb]
    simp only [List.length_cons] at hc
    omega
end
theorem getB {O X : List Ob} {a c : Ob} : ((O ++ [a]) ++ c :: X)[O.length]? = some a := by rw [List.append_assoc]; exact get0
theorem Run.boxGone {P : Program} {nt m : Nat} {ro' : Option Nat} {K : Ex → S → Prop} {c : Code} {tm tm' : PT AV} {O X : List Ob} {cs : List AV} {ds : List DV} {dl : List Dl} (h : Run P nt m ro' c ⟨tm', (O ++ [.gone]) ++ X, dl⟩ K) (hw : WkCs cs (ds.map .d)) (hr : O.all (refOb O.length) = true) (hX : X.all (refOb (O.length + 1 + X.length)) = true) (hm : m ≤ O.length)
    (ht : ∀ t v, tm'.get? t = some v → tm.get? t = some v ∨ ∃ off, off ≤ ds.length ∧ tm.get? t = some (.bp O.length off) ∧ v = .d (.ep (ds.drop off))) : Run P nt m ro' c ⟨tm, (O ++ [.box cs]) ++ X, dl⟩ K := by
  refine Run.wk (objs' := (O ++ [.box (ds.map .d)]) ++ X) ?_ (by rw [List.append_assoc, List.append_assoc]; exact wk_cell hw) (by simp) (by simp; omega) ?_
  · refine Run.freezeD (objs := (O ++ [.box (ds.map .d)]) ++ X) O.length (tm' := tm') (objs' := (O ++ [.gone]) ++ X) (ds := ds) h ?_ ?_ ht
    · rw [List.append_assoc]; exact get0
    · rw [List.append_assoc, List.append_assoc]; exact setL0
  · rw [List.all_append, List.all_append, refs_mono (by simp) hr]
    simp only [Bool.true_and, Bool.and_eq_true]
    refine ⟨?_, by rw [show ((O ++ [Ob.box (ds.map .d)]) ++ X).length = O.length + 1 + X.length by simp; omega]; exact hX⟩
    simp only [List.all_cons, List.all_nil, Bool.and_true, refOb, List.all_map, List.all_eq_true]
    intro x _
    rfl
abbrev tbC (k : Nat) (g : DV × DV × DV × DV × DV) (st : AV) : List AV := [.d (nI k), .d g.1, .d g.2.1, .d g.2.2.1, .d g.2.2.2.1, .d g.2.2.2.2, st]
def SymS (O : List Ob) (st : AV) (b : Nat) (A : List (List Nat)) (s : Nat) : Prop :=
  (s < 8 ∧ A = [[s]]) ∨ ∃ a ia r n cs, s = 16 + a ∧ a < n ∧ n ≤ 1000 ∧ st = .vs r 1 0 n ∧ O[r]? = some (.vec 68 false 1 n cs) ∧ cs[a]? = some (.mp ia) ∧ O[ia]? = some (.pm (kvT A)) ∧ ia ≠ b
structure ThI (O : List Ob) (b : Nat) (B A : List (List Nat)) (a : List Ob × Nat) : Prop where
  len : a.1.length = O.length + 2
  refs : a.1.all (refOb a.1.length) = true
  lt : a.2 < a.1.length
  ne : a.2 ≠ b
  maps : ∃ A' B', A'.Perm A ∧ B'.Perm B ∧ a.1[a.2]? = some (.map (kvT A')) ∧ a.1[b]? = some (.map (kvT B'))
  close : ∃ X1 X2, (a.2 < O.length ∧ (a.1.set b (.pm (kvT B))).set a.2 (.pm (kvT A)) = O ++ [X1, X2]) ∨ (O.length ≤ a.2 ∧ a.1.set b (.pm (kvT B)) = O ++ [X1, X2])
theorem refs_set {n : Nat} {O : List Ob} (h : O.all (refOb n) = true) {i : Nat} {y : Ob} (hy : refOb n y = true) : (O.set i y).all (refOb n) = true := by
  rw [List.all_eq_true] at h ⊢
  intro x hx
  rcases List.mem_or_eq_of_mem_set hx with h1 | rfl
  · exact h x h1
  · exact hy
set_option maxHeartbeats 8000000 in
theorem thenA (O : List Ob) (hO : O.all (refOb O.length) = true) (k : Nat) (hk1 : 1 ≤ k) (hk : k ≤ 4) (g : DV × DV × DV × DV × DV) (st : AV) (b : Nat) (B A : List (List Nat)) (hb : O[b]? = some (.pm (kvT B))) (hB : ∀ x ∈ B, Rt x ∧ x.length ≤ k) (hA : ∀ y ∈ A, Rt y) (hAl : A.length ≤ 100000) (s : Nat) (hs : SymS O st b A s) :
    ACall Try.prog 50 [.agg (tbC k g st), .mp b, .d (nI s)] O (.mp (O.length + 2)) (O ++ [.gone, .gone, .pm (kvT (ascOf (prs k B A)))]) := by
  have w : Fz [] := trivial
  have hbl := (List.getElem?_eq_some_iff.1 hb).1
  refine acallG_of_run Et_ok (fnB Try.func50 []) rfl rfl (by simp) ?_ (by simp [refA, Nat.blt_eq]) ?_
  · rw [List.all_append, refs_mono (by simp) hO]; rfl
  have w : Fz [] := trivial
  obtain ⟨ga, gb, gc, gd, ge⟩ := g
  refine RunI.run (fun a : List Ob × Nat => ⟨PT.ofList [(1, .mp b), (3, .d (.ep [nI k, ga, gb, gc, gd, ge, .any])), (7, .mp a.2)], a.1, []⟩) (ThI O b B A) [_, _, _] ?_ ?_
  · repeat refine zS ?_
    iterate 2 refine zX ?_
    repeat refine zS ?_
    iterate 2 refine zX ?_
    repeat refine zS ?_
    refine zX ?_
    rcases hs with ⟨hs8, rfl⟩ | ⟨a, ia, r, n, cs, rfl, han, hn, rfl, hr, hca, hia, hne⟩
    · refine zV (show AV.d (.bool (decide (((s : Nat) : Int) < 16))) = .d (.bool true) by rw [decide_eq_true (by omega)]) ?_
      repeat refine zS ?_
      iterate 4 refine zX ?_
      refine oV (v := .d .any) (objs' := (O ++ [.box (tbC k (ga, gb, gc, gd, ge) st)]) ++ [.map (kvT [[s]])]) ?_ (hv := evAny_insT (L := []) (x := [s]) rfl rfl rfl get0 rfl rfl (by simp)) (ho := by exact setL0)
      repeat refine zS ?_
      intro rest hrest
      refine Run.boxGone (O := O) (X := [Ob.map (kvT [[s]])]) (cs := tbC k (ga, gb, gc, gd, ge) st) (tm' := PT.ofList [(1, .mp b), (3, .d (.ep [nI k, ga, gb, gc, gd, ge, .any])), (7, .mp (O ++ [Ob.box (tbC k (ga, gb, gc, gd, ge) st)]).length)]) (ds := [nI k, ga, gb, gc, gd, ge, .any]) ?_ ⟨.inr rfl, .inr rfl, .inr rfl, .inr rfl, .inr rfl, .inr rfl, .inl rfl, trivial⟩ hO rfl (Nat.le_refl _) (ofList_cases (by intro q hq; simp only [List.mem_cons, List.not_mem_nil, or_false] at hq; rcases hq with rfl | rfl | rfl; exact .inl (by kernel_rfl); exact .inr ⟨0, Nat.zero_le _, by kernel_rfl, rfl⟩; exact .inl (by kernel_rfl)))
      refine Run.openPm b (kvs := kvT B) (by rw [List.append_assoc]; exact getO hb) fun lB hlB => ?_
      obtain ⟨B', rfl, hpB⟩ := perm_kvT hlB
      rw [List.append_assoc, setO hbl]
      refine (hrest ((O.set b (Ob.map (kvT B'))) ++ [Ob.gone, Ob.map (kvT [[s]])], (O ++ [Ob.box (tbC k (ga, gb, gc, gd, ge) st)]).length) ⟨?_, ?_, ?_, ?_, ?_, ?_⟩)
      · simp
      · rw [List.all_append, refs_mono (by simp) (refs_set hO rfl)]; rfl
      · simp
      · simp; omega
      · refine ⟨[[s]], B', .refl _, hpB, ?_, ?_⟩
        · simp only [List.length_append, List.length_cons, List.length_nil]
          have := get1 (M := O.set b (.map (kvT B'))) (X := []) (a := Ob.gone) (b := Ob.map (kvT [[s]]))
          rw [List.length_set] at this
          exact this
        · exact getO (by rw [List.getElem?_set_self hbl])
      · refine ⟨Ob.gone, Ob.map (kvT [[s]]), .inr ⟨by simp, ?_⟩⟩
        show ((O.set b (Ob.map (kvT B'))) ++ [Ob.gone, Ob.map (kvT [[s]])]).set b _ = _
        rw [setO (by rw [List.length_set]; exact hbl), set_back hb]
    · refine zV (show AV.d (.bool (decide (((16 + a : Nat) : Int) < 16))) = .d (.bool false) by rw [decide_eq_false (by omega)]) ?_
      repeat refine zS ?_
      refine zX ?_
      refine oV (v := .vs r 1 0 n) ?_ (hv := evAny_loadB rfl rfl rfl rfl getB rfl)
      refine zX ?_
      refine zV (show AV.d (.int .i64 (IntKind.i64.wrap (((16 + a : Nat) : Int) - 16))) = .d (nI a) by congr 2; rw [show ((16 + a : Nat) : Int) - 16 = ((a : Nat) : Int) by omega]; exact wrap_nat (by omega)) ?_
      refine zCut (show AV.bp r (0 + ((a : Nat) : Int).toNat * 1) = .bp r a by simp) ?_
      refine oV (v := .mp ia) ?_ (hv := evAny_loadV rfl rfl rfl rfl (by rw [List.append_assoc]; exact getO hr) hca)
      refine zX ?_
      repeat refine zS ?_
      have hial := (List.getElem?_eq_some_iff.1 hia).1
      intro rest hrest
      refine Run.boxGone (O := O) (X := [Ob.map []]) (cs := tbC k (ga, gb, gc, gd, ge) (.vs r 1 0 n)) (tm' := PT.ofList [(1, .mp b), (3, .d (.ep [nI k, ga, gb, gc, gd, ge, .any])), (7, .mp ia)]) (ds := [nI k, ga, gb, gc, gd, ge, .any]) ?_ ⟨.inr rfl, .inr rfl, .inr rfl, .inr rfl, .inr rfl, .inr rfl, .inl rfl, trivial⟩ hO rfl (Nat.le_refl _) (ofList_cases (by intro q hq; simp only [List.mem_cons, List.not_mem_nil, or_false] at hq; rcases hq with rfl | rfl | rfl; exact .inl (by kernel_rfl); exact .inr ⟨0, Nat.zero_le _, by kernel_rfl, rfl⟩; exact .inl (by kernel_rfl)))
      refine Run.openPm b (kvs := kvT B) (by rw [List.append_assoc]; exact getO hb) fun lB hlB => ?_
      obtain ⟨B', rfl, hpB⟩ := perm_kvT hlB
      rw [List.append_assoc, setO hbl]
      refine Run.openPm ia (kvs := kvT A) (getO (by rw [List.getElem?_set_ne (Ne.symm hne)]; exact hia)) fun lA hlA => ?_
      obtain ⟨A', rfl, hpA⟩ := perm_kvT hlA
      rw [setO (by rw [List.length_set]; exact hial)]
      refine (hrest (((O.set b (.map (kvT B'))).set ia (Ob.map (kvT A'))) ++ [Ob.gone, Ob.map []], ia) ⟨?_, ?_, ?_, ?_, ?_, ?_⟩)
      · simp
      · rw [List.all_append, refs_mono (by simp) (refs_set (refs_set hO rfl) rfl)]; rfl
      · simp; omega
      · exact hne
      · refine ⟨A', B', hpA, hpB, getO (by rw [List.getElem?_set_self (by rw [List.length_set]; exact hial)]), getO (by rw [List.getElem?_set_ne hne, List.getElem?_set_self hbl])⟩
      · refine ⟨Ob.gone, Ob.map [], .inl ⟨hial, ?_⟩⟩
        show ((((O.set b (.map (kvT B'))).set ia (Ob.map (kvT A'))) ++ [Ob.gone, Ob.map []]).set b _).set ia _ = _
        rw [setO (by simp; exact hbl), List.set_comm _ _ hne, set_back hb, setO (by simp; exact hial), set_back hia]
  · rintro ⟨M, ia⟩ h
    obtain ⟨hMl, hMr, hial, hiab, ⟨A', B', hpA, hpB, hMa, hMb⟩, X1, X2, hcl⟩ := h
    simp only at hMl hMr hial hiab hMa hMb hcl
    clear hs
    have hB' : ∀ x ∈ B', Rt x ∧ x.length ≤ k := fun x hx => hB x (hpB.mem_iff.1 hx)
    have hA' : ∀ x ∈ A', Rt x := fun x hx => hA x (hpA.mem_iff.1 hx)
    have hAl' : A'.length ≤ 100000 := by rw [hpA.length_eq]; exact hAl
    have hkB : (kvT B').length = B'.length := by simp
    have hkA : (kvT A').length = A'.length := by simp
    have hbM : b < M.length := by omega
    have tdy : ∀ (tm : PT AV) (Y : List Ob) (out : List (List Nat)) (seen : List Nat), tm.get? 1 = some (.mp b) → tm.get? 3 = some (.d (.ep [nI k, ga, gb, gc, gd, ge, .any])) → tm.get? 7 = some (.mp ia) → tm.get? 8 = some (.mp M.length) → tm.get? 28 = some (.bp (M.length + 1) 0) →
        Tidy O.length ⟨tm, M ++ .map (kvT out) :: .mit b (kvT B').length seen :: Y, []⟩ ⟨PT.ofList [(1, .mp b), (3, .d (.ep [nI k, ga, gb, gc, gd, ge, .any])), (7, .mp ia), (8, .mp M.length), (28, .bp (M.length + 1) 0)], M ++ [.map (kvT out), .mit b (kvT B').length seen], []⟩ := fun tm Y out seen h1 h2 h3 h4 h5 =>
      tidy_of _ (M.length + 2) take2 (Nat.ble_eq_true_of_le (by omega)) ⟨.inl h1, .inl h2, .inl h3, .inl h4, .inl h5, trivial⟩ ⟨by simp [refA, Nat.blt_eq]; omega, rfl, by simp [refA, Nat.blt_eq]; omega, by simp [refA, Nat.blt_eq], by simp [refA, Nat.blt_eq], trivial⟩ (by rw [List.all_append, refs_mono (by omega) hMr]; simp [refOb, Nat.blt_eq]; omega) rfl
    have tdy3 : ∀ (tm : PT AV) (Y : List Ob) (out : List (List Nat)) (seen seen2 : List Nat) (x : List Nat), tm.get? 1 = some (.mp b) → tm.get? 3 = some (.d (.ep [nI k, ga, gb, gc, gd, ge, .any])) → tm.get? 7 = some (.mp ia) → tm.get? 8 = some (.mp M.length) → tm.get? 28 = some (.bp (M.length + 1) 0) → tm.get? 9 = some (.d (.ep (lkC x))) → tm.get? 45 = some (.bp (M.length + 2) 0) →
        Tidy O.length ⟨tm, M ++ .map (kvT out) :: .mit b (kvT B').length seen :: .mit ia (kvT A').length seen2 :: Y, []⟩ ⟨PT.ofList [(1, .mp b), (3, .d (.ep [nI k, ga, gb, gc, gd, ge, .any])), (7, .mp ia), (8, .mp M.length), (28, .bp (M.length + 1) 0), (9, .d (.ep (lkC x))), (45, .bp (M.length + 2) 0)], M ++ [.map (kvT out), .mit b (kvT B').length seen, .mit ia (kvT A').length seen2], []⟩ := fun tm Y out seen seen2 x h1 h2 h3 h4 h5 h6 h7 =>
      tidy_of _ (M.length + 3) take3 (Nat.ble_eq_true_of_le (by omega)) ⟨.inl h1, .inl h2, .inl h3, .inl h4, .inl h5, .inl h6, .inl h7, trivial⟩ ⟨by simp [refA, Nat.blt_eq]; omega, rfl, by simp [refA, Nat.blt_eq]; omega, by simp [refA, Nat.blt_eq], by simp [refA, Nat.blt_eq], rfl, by simp [refA, Nat.blt_eq], trivial⟩ (by rw [List.all_append, refs_mono (by omega) hMr]; simp [refOb, Nat.blt_eq]; omega) rfl
    repeat refine zS ?_
    iterate 2 refine zX ?_
    repeat refine zS ?_
    refine zX ?_
    refine oRange Et_ok ?_ (hi := getO hMb)
    repeat refine zS ?_
    refine Run.loopT (fun y : List (List Nat) × List Nat => ⟨PT.ofList [(1, .mp b), (3, .d (.ep [nI k, ga, gb, gc, gd, ge, .any])), (7, .mp ia), (8, .mp M.length), (28, .bp (M.length + 1) 0)], M ++ [.map (kvT y.1), .mit b (kvT B').length y.2], []⟩)
      (fun y => y.1.Nodup ∧ y.2.Nodup ∧ (∀ q ∈ y.2, q < B'.length) ∧ ∀ z, z ∈ y.1 ↔ ∃ q ∈ y.2, ∃ x, B'[q]? = some x ∧ ∃ v ∈ A', z = (x ++ v).take k) (fun y => B'.length - y.2.length) ([], []) ⟨by simp, by simp, by simp, by simp⟩ ?_ (fun ⟨out, seen⟩ ⟨i1, i2, i3, i4⟩ => ?_)
    · rw [List.append_assoc]
      exact tdy _ [] [] [] rfl rfl rfl rfl (Eq.trans (b := some (.bp (M ++ [Ob.map []]).length 0)) rfl (by simp))
    · simp only at i1 i2 i3 i4
      have hsl := seen_le B'.length seen i2 i3
      repeat refine zS ?_
      refine oNext (i := b) (j := M.length + 1) (kvs := kvT B') (seen := seen) (fun q p hq hns => ?_) (fun hall => ?_) (hj := get1) (hi := getO hMb)
      · obtain ⟨x, hx, rfl⟩ : ∃ x, B'[q]? = some x ∧ p = (lk x, .bool true) := by
          rw [List.getElem?_map] at hq
          cases e : B'[q]? with
          | none => rw [e] at hq; cases hq
          | some x => rw [e] at hq; exact ⟨x, rfl, (Option.some.inj hq).symm⟩
        have hql := (List.getElem?_eq_some_iff.1 hx).1
        have hxB := hB' x (List.mem_of_getElem? hx)
        have hx4 := hxB.1.len
        have j2 : (seen ++ [q]).Nodup := by
          rw [List.nodup_append]
          exact ⟨i2, by simp, fun a ha c hc e => by simp at hc; subst hc; exact hns (e ▸ ha)⟩
        have j3 : ∀ r ∈ seen ++ [q], r < B'.length := fun r hr => by
          rcases List.mem_append.1 hr with h1 | h1
          · exact i3 r h1
          · simp at h1; omega
        have hsl2 := seen_le B'.length (seen ++ [q]) j2 j3
        simp only [List.length_append, List.length_cons, List.length_nil] at hsl2
        have j4 : ∀ out' : List (List Nat), (∀ z, z ∈ out' ↔ z ∈ out ∨ ∃ v ∈ A', z = (x ++ v).take k) → ∀ z, z ∈ out' ↔ ∃ q' ∈ seen ++ [q], ∃ x, B'[q']? = some x ∧ ∃ v ∈ A', z = (x ++ v).take k := fun out' ho z => by
          rw [ho z, i4 z]
          constructor
          · rintro (⟨q', h1, h2⟩ | h1)
            · exact ⟨q', by simp [h1], h2⟩
            · exact ⟨q, by simp, x, hx, h1⟩
          · rintro ⟨q', h1, x', h2, h3⟩
            rcases List.mem_append.1 h1 with h1 | h1
            · exact .inl ⟨q', h1, x', h2, h3⟩
            · simp at h1
              subst h1
              rw [hx] at h2; cases h2
              exact .inr h3
        rw [setL1]
        refine zX ?_
        repeat refine zS ?_
        refine oEntry (i := b) (j := M.length + 1) (q := q) (kvs := kvT B') (seen := seen) ?_ hq (hj := get1) (hi := getO hMb)
        iterate 2 refine zX ?_
        refine oV ?_ (hv := evAny_store_last)
        refine RunOps.nil ?_
        refine Run.dropLastD (m := O.length) (dl := []) (O := M ++ [.map (kvT out), .mit b (kvT B').length (seen ++ [q])]) (ds := lkC x) [(1, .mp b), (3, .d (.ep [nI k, ga, gb, gc, gd, ge, .any])), (7, .mp ia), (8, .mp M.length), (28, .bp (M.length + 1) 0), (9, .d (.ep (lkC x)))] ?_ (by simp; omega) (by rw [List.all_append, refs_mono (by simp) hMr]; simp [refOb, Nat.blt_eq]; omega) (by rfl) (ofList_cases (by intro q hq; simp only [List.mem_cons, List.not_mem_nil, or_false] at hq; rcases hq with rfl | rfl | rfl | rfl | rfl | rfl; exact .inl (by kernel_rfl); exact .inl (by kernel_rfl); exact .inl (by kernel_rfl); exact .inl (by kernel_rfl); exact .inl (by kernel_rfl); exact .inr ⟨0, Nat.zero_le _, by kernel_rfl, rfl⟩)) ⟨by simp [refA, Nat.blt_eq]; omega, rfl, by simp [refA, Nat.blt_eq]; omega, by simp [refA, Nat.blt_eq], by simp [refA, Nat.blt_eq], rfl, trivial⟩
        repeat refine zS ?_
        iterate 5 refine zX ?_
        by_cases hxk : x.length = k
        · refine zV (show AV.d (.bool (((x.length : Nat) : Int) == ((k : Nat) : Int))) = .d (.bool true) by simp [hxk]) ?_
          repeat refine zS ?_
          refine zX ?_
          refine oV (v := .d (nI A'.length)) ?_ (hv := evAny_lenM rfl rfl rfl rfl rfl rfl (getO hMa)) (he := by rw [hkA])
          by_cases hA0 : A'.length = 0
          · refine zV (show AV.d (.bool (decide (((A'.length : Nat) : Int) > 0))) = .d (.bool false) by rw [decide_eq_false (by omega)]) ?_
            repeat refine zS ?_
            have hA00 : A' = [] := List.length_eq_zero_iff.1 hA0
            exact ⟨(out, seen ++ [q]), ⟨i1, j2, j3, j4 out fun z => ⟨.inl, fun h => h.elim id fun ⟨v, hv, _⟩ => by rw [hA00] at hv; cases hv⟩⟩, by simp only [List.length_append, List.length_cons, List.length_nil]; omega, tdy _ [] out _ rfl rfl rfl rfl rfl⟩
          · refine zV (show AV.d (.bool (decide (((A'.length : Nat) : Int) > 0))) = .d (.bool true) by rw [decide_eq_true (by omega)]) ?_
            repeat refine zS ?_
            iterate 2 refine zX ?_
            refine oV (v := .d .any) (objs' := M ++ [.map (kvT (insT1 out x)), .mit b (kvT B').length (seen ++ [q])]) ?_ (hv := evAny_insT (x := x) rfl rfl rfl get0 rfl rfl hx4) (ho := by exact setL0)
            repeat refine zS ?_
            have htk : ∀ v : List Nat, (x ++ v).take k = x := fun v => List.take_left' hxk
            refine ⟨(insT1 out x, seen ++ [q]), ⟨nodup_insT1 i1, j2, j3, j4 _ fun z => ?_⟩, by simp only [List.length_append, List.length_cons, List.length_nil]; omega, tdy _ [] _ _ rfl rfl rfl rfl rfl⟩
            rw [mem_insT1]
            constructor
            · rintro (h | rfl)
              · exact .inl h
              · obtain ⟨v, hv⟩ := List.exists_mem_of_ne_nil A' (fun e => hA0 (by rw [e]; rfl))
                exact .inr ⟨v, hv, (htk v).symm⟩
            · rintro (h | ⟨v, _, h⟩)
              · exact .inl h
              · rw [htk] at h; exact .inr h
        · refine zV (show AV.d (.bool (((x.length : Nat) : Int) == ((k : Nat) : Int))) = .d (.bool false) by simp; omega) ?_
          repeat refine zS ?_
          refine zX ?_
          refine oRange Et_ok ?_ (hi := getO hMa)
          repeat refine zS ?_
          refine Run.loopT (fun y : List (List Nat) × List Nat => ⟨PT.ofList [(1, .mp b), (3, .d (.ep [nI k, ga, gb, gc, gd, ge, .any])), (7, .mp ia), (8, .mp M.length), (28, .bp (M.length + 1) 0), (9, .d (.ep (lkC x))), (45, .bp (M.length + 2) 0)], M ++ [.map (kvT y.1), .mit b (kvT B').length (seen ++ [q]), .mit ia (kvT A').length y.2], []⟩)
            (fun y => y.1.Nodup ∧ y.2.Nodup ∧ (∀ r ∈ y.2, r < A'.length) ∧ ∀ z, z ∈ y.1 ↔ z ∈ out ∨ ∃ r ∈ y.2, ∃ v, A'[r]? = some v ∧ z = (x ++ v).take k) (fun y => A'.length - y.2.length) (out, []) ⟨i1, by simp, by simp, by simp⟩ ?_ (fun ⟨out2, seen2⟩ ⟨k1, k2, k3, k4⟩ => ?_)
          · rw [List.append_assoc]
            exact tdy3 _ [] out (seen ++ [q]) [] x rfl rfl rfl rfl rfl rfl (Eq.trans (b := some (.bp (M ++ [.map (kvT out), .mit b (kvT B').length (seen ++ [q])] : List Ob).length 0)) rfl (by simp))
          · simp only at k1 k2 k3 k4
            repeat refine zS ?_
            refine oNext (i := ia) (j := M.length + 2) (kvs := kvT A') (seen := seen2) (fun q2 p2 hq2 hns2 => ?_) (fun hall2 => ?_) (hj := get2) (hi := getO hMa)
            · obtain ⟨v, hv, rfl⟩ : ∃ v, A'[q2]? = some v ∧ p2 = (lk v, .bool true) := by
                rw [List.getElem?_map] at hq2
                cases e : A'[q2]? with
                | none => rw [e] at hq2; cases hq2
                | some v => rw [e] at hq2; exact ⟨v, rfl, (Option.some.inj hq2).symm⟩
              have hql2 := (List.getElem?_eq_some_iff.1 hv).1
              have hvA := hA' v (List.mem_of_getElem? hv)
              have l2 : (seen2 ++ [q2]).Nodup := by
                rw [List.nodup_append]
                exact ⟨k2, by simp, fun a ha c hc e => by simp at hc; subst hc; exact hns2 (e ▸ ha)⟩
              have l3 : ∀ r ∈ seen2 ++ [q2], r < A'.length := fun r hr => by
                rcases List.mem_append.1 hr with h1 | h1
                · exact k3 r h1
                · simp at h1; omega
              have hsl3 := seen_le A'.length (seen2 ++ [q2]) l2 l3
              simp only [List.length_append, List.length_cons, List.length_nil] at hsl3
              have c := joinK k hk1 hk x v hxB.1 hvA
              have hz4 : ((x ++ v).take k).length ≤ 4 := by rw [List.length_take]; omega
              have l4 : ∀ z, z ∈ insT1 out2 ((x ++ v).take k) ↔ z ∈ out ∨ ∃ r ∈ seen2 ++ [q2], ∃ v, A'[r]? = some v ∧ z = (x ++ v).take k := fun z => by
                rw [mem_insT1, k4 z]
                constructor
                · rintro ((h | ⟨r, h1, h2⟩) | rfl)
                  · exact .inl h
                  · exact .inr ⟨r, by simp [h1], h2⟩
                  · exact .inr ⟨q2, by simp, v, hv, rfl⟩
                · rintro (h | ⟨r, h1, v', h2, h3⟩)
                  · exact .inl (.inl h)
                  · rcases List.mem_append.1 h1 with h1 | h1
                    · exact .inl (.inr ⟨r, h1, v', h2, h3⟩)
                    · simp at h1
                      subst h1
                      rw [hv] at h2; cases h2
                      exact .inr h3
              generalize hzz : (x ++ v).take k = z at c hz4 l4
              rw [setL2]
              refine zX ?_
              repeat refine zS ?_
              refine oEntry (i := ia) (j := M.length + 2) (q := q2) (kvs := kvT A') (seen := seen2) ?_ hq2 (hj := get2) (hi := getO hMa)
              iterate 2 refine zX ?_
              refine oV ?_ (hv := evAny_store_last)
              refine RunOps.nil ?_
              refine Run.dropLastD (m := O.length) (dl := []) (O := M ++ [.map (kvT out2), .mit b (kvT B').length (seen ++ [q]), .mit ia (kvT A').length (seen2 ++ [q2])]) (ds := lkC v) [(1, .mp b), (3, .d (.ep [nI k, ga, gb, gc, gd, ge, .any])), (7, .mp ia), (8, .mp M.length), (28, .bp (M.length + 1) 0), (9, .d (.ep (lkC x))), (45, .bp (M.length + 2) 0), (10, .d (.ep (lkC v)))] ?_ (by simp; omega) (by rw [List.all_append, refs_mono (by simp) hMr]; simp [refOb, Nat.blt_eq]; omega) (by rfl) (ofList_cases (by intro q hq; simp only [List.mem_cons, List.not_mem_nil, or_false] at hq; rcases hq with rfl | rfl | rfl | rfl | rfl | rfl | rfl | rfl; exact .inl (by kernel_rfl); exact .inl (by kernel_rfl); exact .inl (by kernel_rfl); exact .inl (by kernel_rfl); exact .inl (by kernel_rfl); exact .inl (by kernel_rfl); exact .inl (by kernel_rfl); exact .inr ⟨0, Nat.zero_le _, by kernel_rfl, rfl⟩)) ⟨by simp [refA, Nat.blt_eq]; omega, rfl, by simp [refA, Nat.blt_eq]; omega, by simp [refA, Nat.blt_eq], by simp [refA, Nat.blt_eq], rfl, by simp [refA, Nat.blt_eq], rfl, trivial⟩
              repeat refine zS ?_
              iterate 5 refine zX ?_
              refine zC c ?_
              iterate 4 refine zX ?_
              refine oV ?_ (hv := evAny_store_last)
              refine zX ?_
              refine RunOps.nil ?_
              refine Run.dropLastD (m := O.length) (dl := []) (O := M ++ [.map (kvT out2), .mit b (kvT B').length (seen ++ [q]), .mit ia (kvT A').length (seen2 ++ [q2])]) (ds := lkC z) [(1, .mp b), (3, .d (.ep [nI k, ga, gb, gc, gd, ge, .any])), (7, .mp ia), (8, .mp M.length), (28, .bp (M.length + 1) 0), (9, .d (.ep (lkC x))), (45, .bp (M.length + 2) 0), (11, .d (.ep (lkC z)))] ?_ (by simp; omega) (by rw [List.all_append, refs_mono (by simp) hMr]; simp [refOb, Nat.blt_eq]; omega) (by rfl) (ofList_cases (by intro q hq; simp only [List.mem_cons, List.not_mem_nil, or_false] at hq; rcases hq with rfl | rfl | rfl | rfl | rfl | rfl | rfl | rfl; exact .inl (by kernel_rfl); exact .inl (by kernel_rfl); exact .inl (by kernel_rfl); exact .inl (by kernel_rfl); exact .inl (by kernel_rfl); exact .inl (by kernel_rfl); exact .inl (by kernel_rfl); exact .inr ⟨0, Nat.zero_le _, by kernel_rfl, rfl⟩)) ⟨by simp [refA, Nat.blt_eq]; omega, rfl, by simp [refA, Nat.blt_eq]; omega, by simp [refA, Nat.blt_eq], by simp [refA, Nat.blt_eq], rfl, by simp [refA, Nat.blt_eq], rfl, trivial⟩
              repeat refine zS ?_
              iterate 2 refine zX ?_
              refine oV (v := .d .any) (objs' := M ++ [.map (kvT (insT1 out2 z)), .mit b (kvT B').length (seen ++ [q]), .mit ia (kvT A').length (seen2 ++ [q2])]) ?_ (hv := evAny_insT (x := z) rfl rfl rfl get0 rfl rfl hz4) (ho := by exact setL0)
              repeat refine zS ?_
              exact ⟨(insT1 out2 z, seen2 ++ [q2]), ⟨nodup_insT1 k1, l2, l3, l4⟩, by simp only [List.length_append, List.length_cons, List.length_nil]; omega, tdy3 _ [] _ _ _ x rfl rfl rfl rfl rfl rfl rfl⟩
            · refine zX ?_
              repeat refine zS ?_
              refine ⟨(out2, seen ++ [q]), ⟨k1, j2, j3, j4 out2 fun z => (k4 z).trans ⟨?_, ?_⟩⟩, by simp only [List.length_append, List.length_cons, List.length_nil]; omega, tdy _ [.mit ia (kvT A').length seen2] out2 _ rfl rfl rfl rfl rfl⟩
              · rintro (h | ⟨r, _, v, h1, h2⟩)
                · exact .inl h
                · exact .inr ⟨v, List.mem_of_getElem? h1, h2⟩
              · rintro (h | ⟨v, h1, h2⟩)
                · exact .inl h
                · obtain ⟨r, hr⟩ := List.getElem?_of_mem h1
                  exact .inr ⟨r, hall2 r (by rw [hkA]; exact (List.getElem?_eq_some_iff.1 hr).1), v, hr, h2⟩
      · have hper : (kvT out).Perm (kvT (ascOf (prs k B A))) := perm_asc i1 fun z => by
          rw [i4 z, mem_prs]
          constructor
          · rintro ⟨q, _, x, h1, v, h2, h3⟩
            exact ⟨x, hpB.mem_iff.1 (List.mem_of_getElem? h1), v, hpA.mem_iff.1 h2, h3⟩
          · rintro ⟨x, h1, v, h2, h3⟩
            obtain ⟨q, hq⟩ := List.getElem?_of_mem (hpB.mem_iff.2 h1)
            exact ⟨q, hall q (by rw [hkB]; exact (List.getElem?_eq_some_iff.1 hq).1), x, hq, v, hpA.mem_iff.2 h2, h3⟩
        refine zX ?_
        repeat refine zS ?_
        refine RunOps.closePm b (l := kvT B') (kvs := kvT B) (getO hMb) (hpB.map _) ?_
        rw [setO hbM]
        rcases hcl with ⟨hio, hc⟩ | ⟨hio, hc⟩
        · refine RunOps.closePm ia (l := kvT A') (kvs := kvT A) (getO (by rw [List.getElem?_set_ne (Ne.symm hiab)]; exact hMa)) (hpA.map _) ?_
          rw [setO (by rw [List.length_set]; exact hial), hc]
          have e : M.length = (O ++ [X1, X2]).length := by simp; omega
          refine RunOps.closePm M.length (l := kvT out) (kvs := kvT (ascOf (prs k B A))) (by rw [e]; exact get0) hper ?_
          rw [show ((O ++ [X1, X2]) ++ [Ob.map (kvT out), Ob.mit b (kvT B').length seen]).set M.length (Ob.pm (kvT (ascOf (prs k B A)))) = O ++ X1 :: X2 :: Ob.pm (kvT (ascOf (prs k B A))) :: [Ob.mit b (kvT B').length seen] from by rw [e, setL0, List.append_assoc]; rfl]
          iterate 2 refine zX ?_
          repeat refine zS ?_
          refine Run.ret ?_
          exact ⟨trivial, _, _, rfl, rfl, (by rw [← hMl]; exact .refl), wk_ends⟩
        · rw [hc]
          have e : M.length = (O ++ [X1, X2]).length := by simp; omega
          refine RunOps.closePm M.length (l := kvT out) (kvs := kvT (ascOf (prs k B A))) (by rw [e]; exact get0) hper ?_
          rw [show ((O ++ [X1, X2]) ++ [Ob.map (kvT out), Ob.mit b (kvT B').length seen]).set M.length (Ob.pm (kvT (ascOf (prs k B A)))) = O ++ X1 :: X2 :: Ob.pm (kvT (ascOf (prs k B A))) :: [Ob.mit b (kvT B').length seen] from by rw [e, setL0, List.append_assoc]; rfl]
          iterate 2 refine zX ?_
          repeat refine zS ?_
          refine Run.ret ?_
          exact ⟨trivial, _, _, rfl, rfl, (by rw [← hMl]; exact .refl), wk_ends⟩
theorem RunOps.wk {P : Program} {nt m : Nat} {ro' : Option Nat} {K : Ex → S → Prop} {ops : Array Oper} {lo : List Oper} {tm : PT AV} {objs objs' : List Ob} {dl : List Dl} (h : RunOps P nt m ro' ops lo ⟨tm, objs', dl⟩ K) (hw : WkObs objs objs') (hl : objs'.length = objs.length) (hm : m ≤ objs.length) (hr : objs'.all (refOb objs'.length) = true) :
    RunOps P nt m ro' ops lo ⟨tm, objs, dl⟩ K := by
  intro D0 β0 o0 w0 hb0 ro Q a w i hro hlo hK hs
  obtain ⟨D, β, h1, h2, h3⟩ := hs
  have hlen : β.length = objs.length := h1.heap.len
  have e : β.take objs'.length = β := List.take_of_length_le (by omega)
  have st := h1.weak hw (by omega) hr
  rw [e] at st
  exact h D0 β0 o0 w0 hb0 ro Q a w i hro hlo hK ⟨D, β, st, h2, h3⟩
structure TbS (O : List Ob) (st : AV) (b n : Nat) (sets : Nat → List (List Nat)) : Prop where
  n1 : n ≤ 1000
  row : ∃ r cs, st = .vs r 1 0 n ∧ O[r]? = some (.vec 68 false 1 n cs) ∧ ∀ a, a < n → ∃ ia, cs[a]? = some (.mp ia) ∧ O[ia]? = some (.pm (kvT (sets a))) ∧ ia ≠ b
  rt : ∀ a, a < n → (∀ x ∈ sets a, Rt x) ∧ (sets a).length ≤ 100000
def SymN (n s : Nat) : Prop := s < 8 ∨ (16 ≤ s ∧ s < 16 + n)
def syF (sets : Nat → List (List Nat)) (s : Nat) : List (List Nat) := if s < 8 then [[s]] else sets (s - 16)
def fstF (k : Nat) (sets : Nat → List (List Nat)) (B : List (List Nat)) (l : List Nat) : List (List Nat) := l.foldl (fun B s => ascOf (prs k B (syF sets s))) B
theorem fstF_succ {k : Nat} {sets : Nat → List (List Nat)} {B : List (List Nat)} {l : List Nat} {i s : Nat} (h : l[i]? = some s) : fstF k sets B (l.take (i + 1)) = ascOf (prs k (fstF k sets B (l.take i)) (syF sets s)) := by
  unfold fstF
  rw [List.take_add_one, h, List.foldl_append]; rfl
theorem syF_rt {O : List Ob} {st : AV} {b n : Nat} {sets : Nat → List (List Nat)} (h : TbS O st b n sets) {s : Nat} (hs : SymN n s) : (∀ x ∈ syF sets s, Rt x) ∧ (syF sets s).length ≤ 100000 := by
  unfold syF
  by_cases h8 : s < 8
  · rw [if_pos h8]
    exact ⟨fun x hx => by simp at hx; subst hx; exact ⟨by simp, by simpa using h8⟩, by simp⟩
  · rw [if_neg h8]
    rcases hs with h1 | ⟨h1, h2⟩
    · exact absurd h1 h8
    · exact h.rt (s - 16) (by omega)
theorem syF_S {O : List Ob} {st : AV} {b n : Nat} {sets : Nat → List (List Nat)} (h : TbS O st b n sets) {s : Nat} (hs : SymN n s) : SymS O st b (syF sets s) s := by
  unfold syF
  by_cases h8 : s < 8
  · rw [if_pos h8]; exact .inl ⟨h8, rfl⟩
  · rw [if_neg h8]
    rcases hs with h1 | ⟨h1, h2⟩
    · exact absurd h1 h8
    · obtain ⟨r, cs, e1, e2, e3⟩ := h.row
      obtain ⟨ia, f1, f2, f3⟩ := e3 (s - 16) (by omega)
      exact .inr ⟨s - 16, ia, r, n, cs, by omega, by omega, h.n1, e1, e2, f1, f2, f3⟩
def tlF (n : Nat) (F : List (List Nat)) : List Ob := if n = 0 then [] else List.replicate (3 * n - 1) .gone ++ [.pm (kvT F)]
def ixF (b m n : Nat) : Nat := if n = 0 then b else m + (3 * n - 1)
theorem tlF_len (n : Nat) (F : List (List Nat)) : (tlF n F).length = 3 * n := by
  unfold tlF
  split
  · simp_all
  · simp; omega
theorem tlF_refs {n m : Nat} {F : List (List Nat)} : (tlF n F).all (refOb m) = true := by
  unfold tlF
  split
  · rfl
  · rw [List.all_append, List.all_eq_true.2 (fun x hx => by rw [List.eq_of_mem_replicate hx]; rfl)]; rfl
theorem wk_tl {O : List Ob} {n : Nat} {F F' : List (List Nat)} : WkObs ((O ++ tlF n F) ++ [.gone, .gone, .pm (kvT F')]) (O ++ tlF (n + 1) F') := by
  have key : ∀ (X Y Z : List Ob), WkObs X Y → WkObs (O ++ X) (O ++ Y) := fun X Y _ h => by
    induction O with
    | nil => exact h
    | cons a O ih => exact ⟨.refl, ih⟩
  rw [List.append_assoc]
  refine key _ _ [] ?_
  unfold tlF
  rw [if_neg (show n + 1 ≠ 0 by omega)]
  have rep : ∀ (j : Nat) (Y Z : List Ob), WkObs Y Z → WkObs (List.replicate j .gone ++ Y) (List.replicate j .gone ++ Z) := fun j Y Z h => by
    induction j with
    | zero => exact h
    | succ j ih => exact ⟨.refl, ih⟩
  split
  · rename_i h0; subst h0
    exact ⟨.refl, .refl, .refl, trivial⟩
  · rename_i h0
    rw [List.append_assoc, show 3 * (n + 1) - 1 = (3 * n - 1) + 3 by omega, ← List.replicate_append_replicate, List.append_assoc]
    exact rep _ _ _ ⟨.gone, .refl, .refl, .refl, trivial⟩
theorem fst_ok {k n : Nat} (hk : k ≤ 4) {O : List Ob} {st : AV} {b : Nat} {sets : Nat → List (List Nat)} (h : TbS O st b n sets) : ∀ {l : List Nat} {B : List (List Nat)}, (∀ x ∈ B, Rt x ∧ x.length ≤ k) → (∀ s ∈ l, SymN n s) → ∀ x ∈ fstF k sets B l, Rt x ∧ x.length ≤ k
  | [], B, hB, _ => hB
  | s :: l, B, hB, hl => by
    refine fst_ok hk h (l := l) (B := ascOf (prs k B (syF sets s))) (fun x hx => ?_) fun s hs => hl s (by simp [hs])
    have hx' := mem_asc.1 hx
    refine ⟨prs_rt hk (fun x hx => (hB x hx).1) (syF_rt h (hl s (by simp))).1 x hx', ?_⟩
    obtain ⟨u, _, v, _, rfl⟩ := mem_prs.1 hx'
    rw [List.length_take]; omega
theorem TbS.app {O X : List Ob} {st : AV} {b b' n : Nat} {sets : Nat → List (List Nat)} (h : TbS O st b n sets) (hb : b' = b ∨ O.length ≤ b') : TbS (O ++ X) st b' n sets :=
  ⟨h.n1, by
    obtain ⟨r, cs, e1, e2, e3⟩ := h.row
    refine ⟨r, cs, e1, getO e2, fun a ha => ?_⟩
    obtain ⟨ia, f1, f2, f3⟩ := e3 a ha
    refine ⟨ia, f1, getO f2, ?_⟩
    have := (List.getElem?_eq_some_iff.1 f2).1
    rcases hb with rfl | hb
    · exact f3
    · omega, h.rt⟩
theorem TbS.set {O : List Ob} {st : AV} {b n : Nat} {sets : Nat → List (List Nat)} (h : TbS O st b n sets) {x y : List (DV × DV)} (hb : O[b]? = some (.map x)) : TbS (O.set b (.pm y)) st b n sets :=
  ⟨h.n1, by
    obtain ⟨r, cs, e1, e2, e3⟩ := h.row
    refine ⟨r, cs, e1, ?_, fun a ha => ?_⟩
    · by_cases e : b = r
      · subst e; rw [hb] at e2; cases e2
      · rw [List.getElem?_set_ne e]; exact e2
    · obtain ⟨ia, f1, f2, f3⟩ := e3 a ha
      exact ⟨ia, f1, by rw [List.getElem?_set_ne (Ne.symm f3)]; exact f2, f3⟩, h.rt⟩
theorem at_ix {O : List Ob} {b m i : Nat} {F : List (List Nat)} (hm : O.length = m) (h0 : i = 0 → O[b]? = some (.pm (kvT F))) : (O ++ tlF i F)[ixF b m i]? = some (.pm (kvT F)) := by
  unfold tlF ixF
  split
  · rename_i h; simpa using h0 h
  · rw [List.getElem?_append_right (by omega), List.getElem?_append_right (by simp; omega)]
    simp only [List.length_replicate]
    rw [show m + (3 * i - 1) - O.length - (3 * i - 1) = 0 by omega]; rfl
theorem wk_refl : ∀ X : List Ob, WkObs X X
  | [] => trivial
  | _ :: X => ⟨.refl, wk_refl X⟩
set_option maxHeartbeats 4000000 in
theorem foldA (O : List Ob) (hO : O.all (refOb O.length) = true) (k : Nat) (hk1 : 1 ≤ k) (hk : k ≤ 4) (g : DV × DV × DV × DV × DV) (st : AV) (b n : Nat) (sets : Nat → List (List Nat)) (hT : TbS O st b n sets) (B : List (List Nat)) (hb : O[b]? = some (.map (kvT B))) (hB : ∀ x ∈ B, Rt x ∧ x.length ≤ k) (l : List Nat) (hl : ∀ s ∈ l, SymN n s) (hll : l.length ≤ 1000) :
    ACall Try.prog 49 [.mp b, .fn (.func 50) [.agg (tbC k g st)] [], .d (.sl 1 (l.map nI))] O (.mp (ixF b O.length l.length)) (O.set b (.pm (kvT B)) ++ tlF l.length (fstF k sets B l)) := by
  have w : Fz [] := trivial
  have hbl := (List.getElem?_eq_some_iff.1 hb).1
  have hml : (l.map nI).length = l.length := by simp
  have hO' : (O.set b (.pm (kvT B))).all (refOb O.length) = true := refs_set hO rfl
  have hT' := hT.set (y := kvT B) hb
  have hbS : (O.set b (.pm (kvT B)))[b]? = some (.pm (kvT B)) := List.getElem?_set_self hbl
  have hOl : (O.set b (.pm (kvT B))).length = O.length := by simp
  refine acallG_of_run Et_ok (fnB Try.func49 []) rfl rfl (by simp) ?_ ?_ ?_
  · rw [List.all_append, refs_mono (by simp) hO', tlF_refs]; rfl
  · unfold ixF
    split
    · simp [refA, Nat.blt_eq]; omega
    · simp [refA, Nat.blt_eq, tlF_len]; omega
  have w : Fz [] := trivial
  have hfr : ∀ m, O.length ≤ m → refA 8 m (.fn (.func 50) [.agg (tbC k g st)] []) = true := fun m hm => by
    obtain ⟨r, cs, rfl, hr, _⟩ := hT.row
    have := (List.getElem?_eq_some_iff.1 hr).1
    simp [refA, tbC, Nat.blt_eq]; omega
  refine Run.closePm b (l := kvT B) (kvs := kvT B) hb (.refl _) ?_
  generalize hOO : O.set b (.pm (kvT B)) = O2 at *
  repeat refine zS ?_
  refine zX ?_
  repeat refine zS ?_
  iterate 3 refine zX ?_
  repeat refine zS ?_
  refine Run.loopT (fun i : Nat => ⟨PT.ofList [(0, .mp (ixF b O.length i)), (1, .fn (.func 50) [.agg (tbC k g st)] []), (9, .d (.sl 1 (l.map nI))), (10, .d (nI (l.map nI).length)), (11, .d (nI i))], O2 ++ tlF i (fstF k sets B (l.take i)), []⟩) (fun i => i ≤ l.length) (fun i => l.length - i) 0 (Nat.zero_le _) ?_ (fun i hi => ?_)
  · exact tidy_of _ O.length (by rw [List.take_of_length_le (by omega)]; simp [tlF]) (Nat.ble_eq_true_of_le (Nat.le_refl _)) ⟨.inl rfl, .inl rfl, .inl rfl, .inl rfl, .inl rfl, trivial⟩ ⟨by simp [refA, Nat.blt_eq, ixF]; exact hbl, hfr _ (Nat.le_refl _), rfl, rfl, rfl, trivial⟩ (by simp only [tlF, if_true, List.append_nil]; exact hO') rfl
  · rcases Nat.lt_or_ge i l.length with hil | hig
    · obtain ⟨s, hs⟩ := get_ok hil
      have hsy := hl s (List.mem_of_getElem? hs)
      have hF0 : i = 0 → O2[b]? = some (.pm (kvT (fstF k sets B (l.take i)))) := fun e => by subst e; exact hbS
      have hFk := fst_ok hk hT (l := l.take i) hB fun s hs => hl s (List.mem_of_mem_take hs)
      have hFs := fstF_succ (k := k) (sets := sets) (B := B) hs
      generalize fstF k sets B (l.take i) = F at *
      have hix : ixF b O.length i = b ∨ O2.length ≤ ixF b O.length i := by
        unfold ixF
        split
        · exact .inl rfl
        · right; omega
      have hc := thenA (O2 ++ tlF i F) (by rw [List.all_append, refs_mono (by simp; omega) hO', tlF_refs]; rfl) k hk1 hk g st (ixF b O.length i) F (syF sets s) (at_ix hOl hF0) hFk (syF_rt hT hsy).1 (syF_rt hT hsy).2 s (syF_S (hT'.app hix) hsy)
      obtain ⟨F', hF'⟩ : ∃ F', F' = fstF k sets B (l.take (i + 1)) := ⟨_, rfl⟩
      rw [← hFs, ← hF'] at hc
      repeat refine zS ?_
      refine zV (lt_true (show i < (l.map nI).length by rw [hml]; exact hil)) ?_
      repeat refine zS ?_
      refine zI w (.d (.ep [nI s])) hs ?_
      iterate 2 refine zX ?_
      repeat refine zS ?_
      iterate 3 refine zX ?_
      refine oA hc ?_
      refine RunOps.wk (objs' := O2 ++ tlF (i + 1) F') ?_ wk_tl (by simp [tlF_len]; omega) (by simp; omega) (by rw [List.all_append, refs_mono (by simp) (hOl.symm ▸ hO'), tlF_refs]; rfl)
      refine zX ?_
      repeat refine zS ?_
      iterate 2 refine zX ?_
      refine RunOps.nil ?_
      refine ⟨i + 1, hil, by omega, ?_⟩
      show Tidy _ _ ⟨PT.ofList _, O2 ++ tlF (i + 1) (fstF k sets B (l.take (i + 1))), []⟩
      rw [← hF']
      exact tidy_of _ (O2 ++ tlF (i + 1) F').length (List.take_length) (Nat.ble_eq_true_of_le (by simp; omega)) ⟨.inl (Eq.trans (b := some (.mp ((O2 ++ tlF i F).length + 2))) rfl (by congr 2; simp [ixF, tlF_len]; omega)), .inl rfl, .inl rfl, .inl rfl, .inl (inc_get rfl (by omega)), trivial⟩ ⟨by simp [refA, Nat.blt_eq, ixF, tlF_len]; omega, hfr _ (by simp; omega), rfl, rfl, rfl, trivial⟩ (by rw [List.all_append, refs_mono (by simp) (hOl.symm ▸ hO'), tlF_refs]; rfl) rfl
    · have hie : i = l.length := by omega
      subst hie
      rw [List.take_length]
      repeat refine zS ?_
      refine zV (lt_false (show (l.map nI).length ≤ l.length by rw [hml]; exact Nat.le_refl _)) ?_
      repeat refine zS ?_
      iterate 2 refine zX ?_
      repeat refine zS ?_
      refine Run.ret ?_
      exact ⟨trivial, _, _, rfl, rfl, .refl, wk_refl _⟩
section
variable {P : Program} {E : PT Ty} {frz : List Nat} {nt : Nat} {ops : Array Oper} {dead pk : Nat → Bool} {PN : DV → List Ob → Prop} {i : Nat} {acc : List Eff} {sts : List S} {l : List Oper} {o : Oper} {G : List Eff → List S → S → Prop} {tm tm' : PT AV} {objs objs' : List Ob} {dl : List Dl} {g : FuncId} {args : List AV} {r : AV}
theorem cAll (hA : ACall P g args objs r objs') (k : EvC P E frz nt ops dead pk PN (i + 1) (acc ++ [effOf (rd tm) objs o (some objs')]) (sts ++ [⟨tm, objs, dl⟩]) l ⟨tm', objs', dl⟩ G) (hd : dead i = false := by rfl) (hpk : pk i = false := by rfl) (hg : guardA ops (rd tm) o = some true := by rfl)
    (hc : callOf (rd tm) o.op = some (g, args) := by rfl) (hh : hintO o.dst frz = false := by rfl) (hp : isPan r = false := by rfl) (ht : setD nt tm o.dst r = some tm' := by rfl) : EvC P E frz nt ops dead pk PN i acc sts (o :: l) ⟨tm, objs, dl⟩ G :=
  EvC.any (oneH_ok (objs := objs) (ob := some objs') (fun o' h => by cases h; exact hA) (fun h => by cases h)) hd hpk hg (evAny_one hc hh) hp ht k
end
section
variable {E : PT Ty} {H : Hd} {frz : List Nat} {rd : Operand → AV} {objs : List Ob} {o : Oper} {t : TypeId} {x : Operand} {y : Ty} {i : Nat} {cs : List AV} {m k v : Operand}
theorem evOp_loadAgg (h1 : E.get? t = some y) (ha : isAggT y.desc = true) (hx : rd x = .bp i 0) (hi : objs[i]? = some (.box cs)) (hs : cs.length = y.size) : evOp E rd objs (.load t x) = some (mkAgg cs, objs, true) := by
  have hb : Nat.ble (0 + y.size) cs.length = true := Nat.ble_eq_true_of_le (by omega)
  simp only [evOp, loadR, h1, hx, hi, obCells, ha, hb, List.drop_zero, List.take_of_length_le (Nat.le_of_eq hs), pureR, if_true]
theorem evAny_loadAgg (hop : o.op = .load t x) (h1 : E.get? t = some y) (ha : isAggT y.desc = true) (hx : rd x = .bp i 0) (hi : objs[i]? = some (.box cs)) (hs : cs.length = y.size) : evAny E H frz rd objs o = some (mkAgg cs, none, true) := by
  have := evOp_loadAgg h1 ha hx hi hs
  obtain ⟨dst, op, ty, pos, after, guard⟩ := o
  simp only at hop
  subst hop
  simp only [evAny, quiet, this, Option.map_some]
theorem evAny_ins0 {x : List Nat} (hop : o.op = .insert t m k v) (h1 : Et.get? t = some ⟨.map 38 4, 1, 8, [.nilmap]⟩) (hm : rd m = .mp i) (hi : objs[i]? = some (.map [])) (hk : rd k = .d (lk x)) (hv : rd v = .d (.bool true)) :
    evAny Et H frz rd objs o = some (.d .any, some (objs.set i (.map (kvT [x]))), true) := by
  obtain ⟨dst, op, ty, pos, after, guard⟩ := o
  simp only at hop
  subst hop
  simp only [evAny, quiet, evOp, mapUpdateR, h1, hk, hv, keyTL, hm, hi, findKV, pureR, Option.map_some]
  rfl
end
def effs2 (ops : Array Oper) (anc : List Nat) (es : List Eff) (A : Nat) (ans : Nat → Nat → Bool) : Bool :=
  upTo ops.size fun i => upTo ops.size fun j => match es[i]?, es[j]? with
    | some (.b _), some (.b _) => !Nat.blt i j || bitN (anc.getD j 0) i || Nat.beq j A
    | some (.a (some p)), some (.b q) => ans i j || (bitN (anc.getD i 0) j || bitN (anc.getD j 0) i || (match q with | some q => !Nat.beq p q | none => false))
    | some _, some _ => true
    | _, _ => false
theorem effs2_eq (ops : Array Oper) (anc : List Nat) (es : List Eff) (A : Nat) (ans : Nat → Nat → Bool) : effs2 ops anc es A ans = effsOK ops anc es A ans := by
  unfold effs2 effsOK
  congr 1
  funext i
  congr 1
  funext j
  generalize es[i]? = a
  generalize es[j]? = b
  rcases a with _ | ⟨_ | _⟩ | _ <;> rcases b with _ | _ | _ <;> first | rfl | exact Bool.or_comm _ _
theorem draw2 {E : PT Ty} {ops : Array Oper} {es : List Eff} {ans : Nat → Nat → Bool} (h : (edgesOK ops && dstsOK ops && readsOK ops (ancs ops.toList []) && effs2 ops (ancs ops.toList []) es (freeIx ops (ancs ops.toList []) es) ans && lateOK E ops (ancs ops.toList []) es (freeIx ops (ancs ops.toList []) es)) = true) : drawB E ops es ans = true := by
  rw [effs2_eq] at h
  exact h
theorem wk_one {O X : List Ob} {a : Ob} : WkObs (O ++ a :: X) (O ++ .gone :: X) := by
  induction O with
  | nil => exact ⟨.gone, wk_refl X⟩
  | cons b O ih => exact ⟨.refl, ih⟩
def ixO (m n : Nat) : Nat := ixF (m + 1) (m + 2) n
set_option maxHeartbeats 4000000 in
theorem ofTA (O : List Ob) (hO : O.all (refOb O.length) = true) (k : Nat) (hk1 : 1 ≤ k) (hk : k ≤ 4) (g : DV × DV × DV × DV × DV) (st : AV) (n : Nat) (sets : Nat → List (List Nat)) (hT : TbS O st O.length n sets) (l : List Nat) (hl : ∀ s ∈ l, SymN n s) (hll : l.length ≤ 1000) :
    ACall Try.prog 31 [.agg (tbC k g st), .d (.sl 1 (l.map nI))] O (.mp (ixO O.length l.length)) (O ++ [.gone, .pm (kvT [[]])] ++ tlF l.length (fstF k sets [[]] l)) := by
  have w : Fz [] := trivial
  obtain ⟨r, cs, rfl, hr, hcs⟩ := hT.row
  have hrl := (List.getElem?_eq_some_iff.1 hr).1
  have hix : ixO O.length l.length < (O ++ [Ob.gone, .pm (kvT [[]])] ++ tlF l.length (fstF k sets [[]] l)).length := by
    unfold ixO ixF
    split
    · simp
    · simp [tlF_len]; omega
  refine acallG_of_run Et_ok (fnB Try.func31 []) rfl rfl (by simp) ?_ (by simp only [refA, Nat.blt_eq]; exact hix) ?_
  · rw [List.all_append, List.all_append, refs_mono (by simp) hO, tlF_refs]; rfl
  have w : Fz [] := trivial
  obtain ⟨ga, gb, gc, gd, ge⟩ := g
  repeat refine zS ?_
  iterate 2 refine zX ?_
  repeat refine zS ?_
  refine Run.drawC (frz := []) Et_ok (by kernel_rfl) [(4, 0), (4, 2)] ?_
  refine cX ?_
  refine cX ?_
  refine cX (v := .d .any) (objs' := (O ++ [.box (tbC k (ga, gb, gc, gd, ge) (.vs r 1 0 n))]) ++ [.map (kvT [[]])]) ?_ (hv := evAny_ins0 (x := []) rfl rfl rfl get0 rfl rfl) (ho := by exact setL0)
  refine cX ?_
  refine cX (v := .agg (tbC k (ga, gb, gc, gd, ge) (.vs r 1 0 n))) ?_ (hv := evAny_loadAgg rfl rfl rfl rfl getB rfl) (he := rfl)
  refine cX ?_
  refine cX ?_
  have hf := foldA ((O ++ [.box (tbC k (ga, gb, gc, gd, ge) (.vs r 1 0 n))]) ++ [.map (kvT [[]])]) (by
      rw [List.all_append, List.all_append, refs_mono (by simp) hO]
      simp [refOb, tbC, refA, Nat.blt_eq]; omega) k hk1 hk (ga, gb, gc, gd, ge) (.vs r 1 0 n) (O ++ [Ob.box (tbC k (ga, gb, gc, gd, ge) (.vs r 1 0 n))]).length n sets
    ((hT.app (X := [.box (tbC k (ga, gb, gc, gd, ge) (.vs r 1 0 n))]) (b' := (O ++ [Ob.box (tbC k (ga, gb, gc, gd, ge) (.vs r 1 0 n))]).length) (.inr (by simp))).app (.inl rfl)) [[]] get0 (fun x hx => by simp at hx; subst hx; exact ⟨⟨by simp, by simp⟩, by simp⟩) l hl hll
  refine cAll hf ?_
  refine cX ?_
  refine EvC.nil ⟨draw2 (by kernel_rfl), ⟨⟨_, _, _, _, _, _, _, rfl, rfl, rfl, rfl, evOp_loadAgg rfl rfl rfl get0 rfl, evOp_loadAgg rfl rfl rfl getB rfl⟩, ⟨_, _, _, _, _, _, _, rfl, rfl, rfl, rfl, evOp_loadAgg rfl rfl rfl getB rfl, evOp_loadAgg rfl rfl rfl getB rfl⟩, trivial⟩, ?_⟩
  repeat refine zS ?_
  refine Run.ret ?_
  refine ⟨trivial, _, _, rfl, rfl, (by unfold ixO; simp only [List.length_append, List.length_cons, List.length_nil]; exact .refl), ?_⟩
  show WkObs ((((O ++ [Ob.box (tbC k (ga, gb, gc, gd, ge) (.vs r 1 0 n))]) ++ [Ob.map (kvT [[]])]).set (O ++ [Ob.box (tbC k (ga, gb, gc, gd, ge) (.vs r 1 0 n))]).length (.pm (kvT [[]]))) ++ tlF l.length (fstF k sets [[]] l)) _
  rw [setL0, List.append_assoc, List.append_assoc, List.append_assoc]
  exact wk_one
def codeT (x : List Nat) : Nat := x.foldr (fun d r => (d + 1) + 9 * r) 0
theorem codeT_lt : ∀ {x : List Nat}, (∀ d ∈ x, d < 8) → codeT x < 9 ^ x.length
  | [], _ => by simp [codeT]
  | d :: x, h => by
    have h1 := codeT_lt (x := x) fun e he => h e (by simp [he])
    have h2 := h d (by simp)
    simp only [codeT, List.foldr_cons, List.length_cons, Nat.pow_succ] at h1 ⊢
    omega
theorem codeT_inj : ∀ {x y : List Nat}, (∀ d ∈ x, d < 8) → (∀ d ∈ y, d < 8) → codeT x = codeT y → x = y
  | [], [], _, _, _ => rfl
  | [], e :: y, _, _, h => by simp only [codeT, List.foldr_nil, List.foldr_cons] at h; omega
  | d :: x, [], _, _, h => by simp only [codeT, List.foldr_nil, List.foldr_cons] at h; omega
  | d :: x, e :: y, hx, hy, h => by
    have h1 := hx d (by simp)
    have h2 := hy e (by simp)
    simp only [codeT, List.foldr_cons] at h
    have h3 := codeT_inj (x := x) (y := y) (fun e he => hx e (by simp [he])) (fun e he => hy e (by simp [he])) (by simp only [codeT]; omega)
    subst h3
    congr 1
    omega
theorem rt_card {L : List (List Nat)} (hn : L.Nodup) (h : ∀ x ∈ L, Rt x) : L.length ≤ 6561 := by
  have h1 := seen_le 6561 (L.map codeT) (by
    rw [List.Nodup, List.pairwise_map]
    exact hn.imp_of_mem fun ha hb hab e => hab (codeT_inj (h _ ha).lt (h _ hb).lt e)) fun c hc => by
      obtain ⟨x, hx, rfl⟩ := List.mem_map.1 hc
      have h2 := codeT_lt (h x hx).lt
      have h3 := (h x hx).len
      exact Nat.lt_of_lt_of_le h2 (Nat.pow_le_pow_right (n := 9) (by omega) h3)
  simpa using h1
abbrev Sets := Nat → List (List Nat)
def updT (S : Sets) (a : Nat) (X : List (List Nat)) (c : Nat) : List (List Nat) := if c = a then X else S c
def stepS (k : Nat) (S : Sets) (p : Nat × List Nat) : Sets := updT S p.1 (ascOf (S p.1 ++ fstF k S [[]] p.2))
def roundS (k : Nat) (ps : List (Nat × List Nat)) (S : Sets) : Sets := ps.foldl (stepS k) S
def itS (k : Nat) (ps : List (Nat × List Nat)) : Nat → Sets
  | 0 => fun _ => []
  | m + 1 => roundS k ps (itS k ps m)
def setsF (k n : Nat) (ps : List (Nat × List Nat)) : Sets := itS k ps (6562 * (n + 1))
structure SOK (k : Nat) (S : Sets) : Prop where
  asc : ∀ a, Asc (S a)
  rt : ∀ a x, x ∈ S a → Rt x ∧ x.length ≤ k
structure PrOK (n : Nat) (ps : List (Nat × List Nat)) : Prop where
  lt : ∀ p ∈ ps, p.1 < n
  sy : ∀ p ∈ ps, ∀ s ∈ p.2, SymN n s
  len : ∀ p ∈ ps, p.2.length ≤ 1000
theorem syF_rt2 {n : Nat} {S : Sets} (h : ∀ a x, x ∈ S a → Rt x) {s : Nat} (hs : SymN n s) : ∀ x ∈ syF S s, Rt x := by
  unfold syF
  intro x hx
  by_cases h8 : s < 8
  · rw [if_pos h8] at hx
    simp at hx; subst hx; exact ⟨by simp, by simpa using h8⟩
  · rw [if_neg h8] at hx
    exact h _ x hx
theorem fst_rt {k n : Nat} (hk : k ≤ 4) {S : Sets} (h : ∀ a x, x ∈ S a → Rt x) : ∀ {l : List Nat} {B : List (List Nat)}, (∀ x ∈ B, Rt x ∧ x.length ≤ k) → (∀ s ∈ l, SymN n s) → ∀ x ∈ fstF k S B l, Rt x ∧ x.length ≤ k
  | [], B, hB, _ => hB
  | s :: l, B, hB, hl => by
    refine fst_rt hk h (l := l) (B := ascOf (prs k B (syF S s))) (fun x hx => ?_) fun s hs => hl s (by simp [hs])
    have hx' := mem_asc.1 hx
    refine ⟨prs_rt hk (fun x hx => (hB x hx).1) (syF_rt2 h (hl s (by simp))) x hx', ?_⟩
    obtain ⟨u, _, v, _, rfl⟩ := mem_prs.1 hx'
    rw [List.length_take]; omega
theorem emp_rt {k : Nat} : ∀ x ∈ ([[]] : List (List Nat)), Rt x ∧ x.length ≤ k := fun x hx => by simp at hx; subst hx; exact ⟨⟨by simp, by simp⟩, by simp⟩
theorem fst_asc {k : Nat} {S : Sets} : ∀ {l : List Nat} {B : List (List Nat)}, Asc B → Asc (fstF k S B l)
  | [], _, h => h
  | _ :: l, _, _ => fst_asc (l := l) (asc_asc _)
theorem emp_asc : Asc ([[]] : List (List Nat)) := by simp [Asc]
theorem step_sok {k n : Nat} (hk : k ≤ 4) {S : Sets} (h : SOK k S) {p : Nat × List Nat} (hp : ∀ s ∈ p.2, SymN n s) : SOK k (stepS k S p) := by
  refine ⟨fun a => ?_, fun a x hx => ?_⟩
  · unfold stepS updT
    split
    · exact asc_asc _
    · exact h.asc a
  · unfold stepS updT at hx
    split at hx
    · rcases List.mem_append.1 (mem_asc.1 hx) with h1 | h1
      · exact h.rt _ x h1
      · exact fst_rt hk (fun a x hx => (h.rt a x hx).1) emp_rt hp x h1
    · exact h.rt a x hx
theorem fold_sok {k n : Nat} (hk : k ≤ 4) : ∀ {ps : List (Nat × List Nat)} {S : Sets}, SOK k S → (∀ p ∈ ps, ∀ s ∈ p.2, SymN n s) → SOK k (roundS k ps S)
  | [], _, h, _ => h
  | p :: ps, _, h, hp => fold_sok hk (ps := ps) (step_sok hk h (hp p (by simp))) fun q hq => hp q (by simp [hq])
theorem it_sok {k n : Nat} (hk : k ≤ 4) {ps : List (Nat × List Nat)} (hp : ∀ p ∈ ps, ∀ s ∈ p.2, SymN n s) : ∀ m, SOK k (itS k ps m)
  | 0 => ⟨fun _ => by simp [itS, Asc], fun _ _ h => by simp [itS] at h⟩
  | m + 1 => fold_sok hk (it_sok hk hp m) hp
def tot (S : Sets) : Nat → Nat
  | 0 => 0
  | n + 1 => tot S n + (S n).length
theorem tot_far {S : Sets} {a : Nat} {X : List (List Nat)} : ∀ {n}, n ≤ a → tot (updT S a X) n = tot S n
  | 0, _ => rfl
  | n + 1, h => by simp only [tot]; rw [tot_far (by omega), updT, if_neg (by omega)]
theorem tot_upd {S : Sets} {a : Nat} {X : List (List Nat)} : ∀ {n}, a < n → tot (updT S a X) n + (S a).length = tot S n + X.length
  | n + 1, h => by
    simp only [tot]
    rcases Nat.lt_or_ge a n with h1 | h1
    · have := tot_upd (S := S) (X := X) h1
      rw [updT, if_neg (by omega)]; omega
    · have : a = n := by omega
      subst this
      rw [tot_far (Nat.le_refl _), updT, if_pos rfl]; omega
theorem tot_le {k : Nat} {S : Sets} (h : SOK k S) : ∀ n, tot S n ≤ n * 6561
  | 0 => by simp [tot]
  | n + 1 => by
    have h1 := tot_le h n
    have h2 := rt_card (asc_nodup (h.asc n)) fun x hx => (h.rt n x hx).1
    simp only [tot]; omega
theorem nodup_le {α : Type} [DecidableEq α] : ∀ {l m : List α}, l.Nodup → (∀ x ∈ l, x ∈ m) → l.length ≤ m.length
  | [], _, _, _ => by simp
  | a :: l, m, hn, h => by
    have hm := h a (by simp)
    have h0 := List.nodup_cons.1 hn
    have h1 := nodup_le (l := l) (m := m.erase a) h0.2 fun x hx => (List.mem_erase_of_ne (fun e : x = a => h0.1 (by rw [← e]; exact hx))).2 (h x (by simp [hx]))
    rw [List.length_erase_of_mem hm] at h1
    have := List.length_pos_of_mem hm
    simp only [List.length_cons]; omega
theorem asc_more {A F : List (List Nat)} (hA : Asc A) {z : List Nat} (hz : z ∈ F) (hn : z ∉ A) : A.length < (ascOf (A ++ F)).length := by
  have h1 : (A ++ [z]).Nodup := by
    rw [List.nodup_append]
    exact ⟨asc_nodup hA, by simp, fun a ha b hb e => by simp at hb; subst hb; exact hn (e ▸ ha)⟩
  have h2 := nodup_le h1 (m := ascOf (A ++ F)) fun x hx => mem_asc.2 (by
    rcases List.mem_append.1 hx with h | h
    · simp [h]
    · simp at h; subst h; simp [hz])
  rw [List.length_append] at h2
  simp at h2
  omega
theorem asc_same {A F : List (List Nat)} (hA : Asc A) (h : ∀ z ∈ F, z ∈ A) : ascOf (A ++ F) = A :=
  asc_ext (asc_asc _) hA fun z => by
    rw [mem_asc, List.mem_append]
    exact ⟨fun h1 => h1.elim id (h z), .inl⟩
theorem upd_same {S : Sets} {a : Nat} : updT S a (S a) = S := by
  funext c
  unfold updT
  split
  · rename_i h; rw [h]
  · rfl
theorem it_stay {k : Nat} {ps : List (Nat × List Nat)} {m : Nat} (h : itS k ps (m + 1) = itS k ps m) : ∀ d, itS k ps (m + d) = itS k ps m
  | 0 => rfl
  | d + 1 => by
    show roundS k ps (itS k ps (m + d)) = _
    rw [it_stay h d]; exact h
theorem sets_of {k n : Nat} {ps : List (Nat × List Nat)} {m : Nat} (h : itS k ps (m + 1) = itS k ps m) (hm : m ≤ 6562 * (n + 1)) : setsF k n ps = itS k ps m := by
  have := it_stay h (6562 * (n + 1) - m)
  rw [show m + (6562 * (n + 1) - m) = 6562 * (n + 1) by omega] at this
  exact this
def mapsT (S : Sets) : Nat → List Ob
  | 0 => []
  | n + 1 => mapsT S n ++ [.gone, .pm (kvT (S n)), .gone]
theorem mapsT_len (S : Sets) : ∀ n, (mapsT S n).length = 3 * n
  | 0 => rfl
  | n + 1 => by simp [mapsT, mapsT_len S n]; omega
theorem mapsT_at {S : Sets} : ∀ {n a : Nat}, a < n → (mapsT S n)[3 * a + 1]? = some (.pm (kvT (S a)))
  | n + 1, a, h => by
    rcases Nat.lt_or_ge a n with h1 | h1
    · exact getO (mapsT_at h1)
    · have : a = n := by omega
      subst this
      have := get1 (M := mapsT S a) (X := [Ob.gone]) (a := .gone) (b := .pm (kvT (S a)))
      rwa [mapsT_len] at this
theorem mapsT_refs {S : Sets} {m : Nat} : ∀ n, (mapsT S n).all (refOb m) = true
  | 0 => rfl
  | n + 1 => by simp only [mapsT]; rw [List.all_append, mapsT_refs n]; rfl
theorem mapsT_far {S : Sets} {a : Nat} {X : List (List Nat)} : ∀ {n}, n ≤ a → mapsT (updT S a X) n = mapsT S n
  | 0, _ => rfl
  | n + 1, h => by
    simp only [mapsT]
    rw [mapsT_far (by omega), updT, if_neg (by omega)]
theorem mapsT_set {S : Sets} {a : Nat} {X : List (List Nat)} : ∀ {n}, a < n → (mapsT S n).set (3 * a + 1) (.pm (kvT X)) = mapsT (updT S a X) n
  | n + 1, h => by
    rcases Nat.lt_or_ge a n with h1 | h1
    · simp only [mapsT]
      rw [setO (by rw [mapsT_len]; omega), mapsT_set h1]
      simp only [updT, if_neg (show n ≠ a by omega)]
    · have : a = n := by omega
      subst this
      simp only [mapsT]
      have := setL1 (M := mapsT S a) (X := [Ob.gone]) (a := .gone) (b := .pm (kvT (S a))) (c := .pm (kvT X))
      rw [mapsT_len] at this
      rw [this, mapsT_far (Nat.le_refl _), updT, if_pos rfl]
def cellsT (n : Nat) : List AV := (List.range n).map fun a => .mp (3 * a + 3)
theorem cellsT_len (n : Nat) : (cellsT n).length = n := by simp [cellsT]
theorem cellsT_succ (n : Nat) : cellsT (n + 1) = cellsT n ++ [.mp (3 * n + 3)] := by simp [cellsT, List.range_succ]
theorem cellsT_at {n a : Nat} (h : a < n) : (cellsT n)[a]? = some (.mp (3 * a + 3)) := by simp [cellsT, h]
theorem cellsT_refs {n m : Nat} (h : 2 + 3 * n ≤ m) : (cellsT n).all (refA 8 m) = true := by
  simp only [cellsT, List.all_map, List.all_eq_true, List.mem_range]
  intro a ha
  simp [refA, Nat.blt_eq]; omega
def objT (x y : Ob) (S : Sets) (n : Nat) : List Ob := x :: y :: (mapsT S n ++ [.vec 68 false 1 n (cellsT n)])
theorem objT_len (x y : Ob) (S : Sets) (n : Nat) : (objT x y S n).length = 3 * n + 3 := by simp [objT, mapsT_len]
theorem objT_row {x y : Ob} {S : Sets} {n : Nat} {X : List Ob} : (objT x y S n ++ X)[2 + 3 * n]? = some (.vec 68 false 1 n (cellsT n)) := by
  refine getO ?_
  rw [show 2 + 3 * n = 3 * n + 1 + 1 by omega]
  have := get0 (M := mapsT S n) (X := []) (a := .vec 68 false 1 n (cellsT n))
  rwa [mapsT_len] at this
theorem objT_at {x y : Ob} {S : Sets} {n a : Nat} {X : List Ob} (h : a < n) : (objT x y S n ++ X)[3 * a + 3]? = some (.pm (kvT (S a))) := by
  refine getO ?_
  rw [show 3 * a + 3 = 3 * a + 1 + 1 + 1 by omega]
  exact getO (mapsT_at h)
theorem objT_refs {x y : Ob} {S : Sets} {n m : Nat} (hx : refOb m x = true) (hy : refOb m y = true) (h : 3 * n + 3 ≤ m) : (objT x y S n).all (refOb m) = true := by
  simp only [objT, List.all_cons, hx, hy, Bool.true_and]
  rw [List.all_append, mapsT_refs]
  simp only [List.all_cons, List.all_nil, Bool.and_true, Bool.true_and, refOb]
  exact cellsT_refs (by omega)
theorem objT_set {x y : Ob} {S : Sets} {n a : Nat} {X : List (List Nat)} (h : a < n) : (objT x y S n).set (3 * a + 3) (.pm (kvT X)) = objT x y (updT S a X) n := by
  unfold objT
  rw [show 3 * a + 3 = 3 * a + 1 + 1 + 1 by omega, List.set_cons_succ, List.set_cons_succ, setO (by rw [mapsT_len]; omega), mapsT_set h]
theorem objT_grow {x y L V : Ob} {S : Sets} {n : Nat} : ((objT x y S n ++ [Ob.map []]) ++ [L]).set (2 + 3 * n) .gone ++ [V] = x :: y :: (mapsT S n ++ [.gone, .map [], L, V]) := by
  have := setL0 (M := mapsT S n) (X := [Ob.map [], L]) (a := .vec 68 false 1 n (cellsT n)) (c := .gone)
  rw [mapsT_len] at this
  simp only [objT, List.cons_append, List.append_assoc, List.nil_append]
  rw [show 2 + 3 * n = 3 * n + 1 + 1 by omega, List.set_cons_succ, List.set_cons_succ, this]
  simp
theorem tbs_obj {x y : Ob} {k : Nat} {S : Sets} {n b : Nat} (hS : SOK k S) (hn : n ≤ 8) (hb : 3 * n + 3 ≤ b) : TbS (objT x y S n) (.vs (2 + 3 * n) 1 0 n) b n S :=
  ⟨by omega, ⟨2 + 3 * n, cellsT n, rfl, by have := objT_row (x := x) (y := y) (S := S) (n := n) (X := []); rwa [List.append_nil] at this, fun a ha => ⟨3 * a + 3, cellsT_at ha, by have := objT_at (x := x) (y := y) (S := S) (X := []) ha; rwa [List.append_nil] at this, by omega⟩⟩,
    fun a _ => ⟨fun x hx => (hS.rt a x hx).1, Nat.le_trans (rt_card (asc_nodup (hS.asc a)) fun x hx => (hS.rt a x hx).1) (by omega)⟩⟩
theorem getS {Z X : List Ob} {i : Nat} {a b : Ob} : (Z.set i a ++ b :: X)[Z.length]? = some b := by
  have := get0 (M := Z.set i a) (X := X) (a := b)
  rwa [List.length_set] at this
theorem setS {Z X : List Ob} {i : Nat} {a b c : Ob} : (Z.set i a ++ b :: X).set Z.length c = Z.set i a ++ c :: X := by
  have := setL0 (M := Z.set i a) (X := X) (a := b) (c := c)
  rwa [List.length_set] at this
theorem setI {Z X : List Ob} {i : Nat} {a c : Ob} (h : i < Z.length) : (Z.set i a ++ X).set i c = Z.set i c ++ X := by
  rw [setO (by rw [List.length_set]; exact h), List.set_set]
theorem RunOps.rowNew {P : Program} {nt m : Nat} {ro' : Option Nat} {K : Ex → S → Prop} {ops : Array Oper} {lo : List Oper} {tm : PT AV} {dl : List Dl} {x y y' L : Ob} {i : Nat} {cs : List AV} (h : RunOps P nt m ro' ops lo ⟨tm, objT x y (fun _ => []) (i + 1), dl⟩ K) (he : y' = y) (hcs : cs = cellsT (i + 1)) (hx : refOb (3 * (i + 1) + 3) x = true) (hy : refOb (3 * (i + 1) + 3) y = true) (hm : m ≤ 3 * (i + 1) + 3) :
    RunOps P nt m ro' ops lo ⟨tm, x :: y' :: (mapsT (fun _ => []) i ++ [.gone, .map [], L, .vec 68 false 1 (i + 1) cs]), dl⟩ K := by
  rw [he]
  subst hcs
  have e1 := get1 (M := mapsT (fun _ => []) i) (X := [L, .vec 68 false 1 (i + 1) (cellsT (i + 1))]) (a := .gone) (b := .map [])
  have e2 := setL1 (M := mapsT (fun _ => []) i) (X := [L, .vec 68 false 1 (i + 1) (cellsT (i + 1))]) (a := .gone) (b := .map []) (c := .pm (kvT []))
  rw [mapsT_len] at e1 e2
  refine RunOps.closePm (3 * i + 3) (l := []) (kvs := kvT []) (by rw [show 3 * i + 3 = 3 * i + 1 + 1 + 1 by omega]; exact e1) (.refl _) ?_
  rw [show 3 * i + 3 = 3 * i + 1 + 1 + 1 by omega, List.set_cons_succ, List.set_cons_succ, e2]
  have hw : WkObs (x :: y :: (mapsT (fun _ => []) i ++ [.gone, .pm (kvT []), L, .vec 68 false 1 (i + 1) (cellsT (i + 1))])) (objT x y (fun _ => []) (i + 1)) := by
    refine ⟨.refl, .refl, ?_⟩
    simp only [mapsT, List.append_assoc, List.cons_append, List.nil_append]
    generalize mapsT (fun _ => []) i = O
    induction O with
    | nil => exact ⟨.refl, .refl, .gone, .refl, trivial⟩
    | cons a O ih => exact ⟨.refl, ih⟩
  have hl : (x :: y :: (mapsT (fun _ => []) i ++ [.gone, .pm (kvT []), L, .vec 68 false 1 (i + 1) (cellsT (i + 1))])).length = 3 * (i + 1) + 3 := by simp [mapsT_len]; omega
  refine RunOps.wk h hw (by rw [objT_len, hl]) (by rw [hl]; exact hm) ?_
  rw [objT_len]
  exact objT_refs hx hy (Nat.le_refl _)
def encQ (p : Nat × List Nat) : DV := .agg [nI (16 + p.1), .sl 1 (p.2.map nI)]
abbrev bx0 : Ob := .box (List.map AV.d ty71.zero)
abbrev tbx (k : Nat) (g : DV × DV × DV × DV × DV) (n : Nat) : Ob := .box (tbC k g (.vs (2 + 3 * n) 1 0 n))
abbrev oT1 (k : Nat) (g : DV × DV × DV × DV × DV) (i : Nat) : List Ob := objT (.box (List.map AV.d ty71.zero)) (.box (tbC k g (.vs (2 + 3 * i) 1 0 i))) (fun _ => []) i
set_option maxHeartbeats 4000000 in
theorem setsA (k : Nat) (hk1 : 1 ≤ k) (hk : k ≤ 4) (ga gb gd : DV) (nms : List DV) (n : Nat) (hnl : nms.length = n) (hn : n ≤ 8) (ps : List (Nat × List Nat)) (hps : PrOK n ps) (hpl : ps.length ≤ 1000) :
    ACall Try.prog 30 [.d (.agg [nI k, ga, gb, .sl 1 nms, gd, .sl 2 (ps.map encQ)])] [] (.agg (tbC k (ga, gb, .sl 1 nms, gd, .sl 2 (ps.map encQ)) (.vs (2 + 3 * n) 1 0 n))) (objT .gone .gone (setsF k n ps) n) := by
  have w : Fz [1, 65555] := trivial
  refine acallG_of_run Et_ok (fnB Try.func30 [1, 65555]) rfl rfl (by simp) ?_ ?_ ?_
  · exact objT_refs rfl rfl (by rw [objT_len]; exact Nat.le_refl _)
  · simp [refA, tbC, Nat.blt_eq, objT_len]; omega
  have w : Fz [1, 65555] := trivial
  repeat refine zS ?_
  iterate 2 refine zX ?_
  repeat refine zS ?_
  refine Run.scope ?_
  repeat refine zS ?_
  iterate 4 refine zX ?_
  refine RunOps.nil ?_
  refine Run.cellVec 1 6 68 false 1 ?_
  repeat refine zS ?_
  iterate 4 refine zX ?_
  repeat refine zS ?_
  refine Run.loopT (fun i : Nat => ⟨PT.ofList [(1, .d (.ep [nI k, ga, gb, .sl 1 nms, gd, .sl 2 (ps.map encQ)])), (2, .bp 0 0), (3, .bp 1 0), (13, .d (nI nms.length)), (14, .d (nI i))], objT (.box (List.map AV.d ty71.zero)) (.box (tbC k (ga, gb, .sl 1 nms, gd, .sl 2 (ps.map encQ)) (.vs (2 + 3 * i) 1 0 i))) (fun _ => []) i, []⟩) (fun i => i ≤ n) (fun i => n - i) 0 (Nat.zero_le _) ?_ (fun i hi => ?_)
  · exact tidy_of _ 3 rfl rfl ⟨.inl rfl, .inl rfl, .inl rfl, .inl rfl, .inl rfl, trivial⟩ ⟨rfl, rfl, rfl, rfl, rfl, trivial⟩ rfl rfl
  · rcases Nat.lt_or_ge i n with hin | hin
    · repeat refine zS ?_
      refine zV (lt_true (show i < nms.length by omega)) ?_
      repeat refine zS ?_
      iterate 4 refine zX ?_
      have hmp : (oT1 k (ga, gb, .sl 1 nms, gd, .sl 2 (ps.map encQ)) i).length = 3 * i + 3 := objT_len _ _ _ _
      refine oAppV (i := 2 + 3 * i) (b := (oT1 k (ga, gb, .sl 1 nms, gd, .sl 2 (ps.map encQ)) i ++ [Ob.map []]).length) (len := i) (z := ty68) (c := .mp (oT1 k (ga, gb, .sl 1 nms, gd, .sl 2 (ps.map encQ)) i).length) Et_ok ?_ (by rw [List.append_assoc]; exact objT_row) get0 (Nat.le_refl _) (by show (i + 1) * 8 ≤ _; omega)
      rw [objT_grow]
      iterate 2 refine zX ?_
      refine RunOps.rowNew (x := Ob.box (List.map AV.d ty71.zero)) (y := .box (tbC k (ga, gb, .sl 1 nms, gd, .sl 2 (ps.map encQ)) (.vs (2 + 3 * (i + 1)) 1 0 (i + 1)))) (y' := .box (tbC k (ga, gb, .sl 1 nms, gd, .sl 2 (ps.map encQ)) (.vs _ 1 0 (i + 1)))) ?_ ?_ ?_ rfl ?_ (Nat.zero_le _)
      · repeat refine zS ?_
        iterate 2 refine zX ?_
        refine RunOps.nil ?_
        exact ⟨i + 1, hin, by omega, tidy_of _ (objT (Ob.box (List.map AV.d ty71.zero)) (.box (tbC k (ga, gb, .sl 1 nms, gd, .sl 2 (ps.map encQ)) (.vs (2 + 3 * (i + 1)) 1 0 (i + 1)))) (fun _ => []) (i + 1)).length (List.take_length) (Nat.ble_eq_true_of_le (Nat.zero_le _)) ⟨.inl rfl, .inl rfl, .inl rfl, .inl rfl, .inl (inc_get rfl (by omega)), trivial⟩ ⟨rfl, by simp [refA, Nat.blt_eq, objT_len], by simp [refA, Nat.blt_eq, objT_len], rfl, rfl, trivial⟩ (by rw [objT_len]; exact objT_refs rfl (by simp [refOb, tbC, refA, Nat.blt_eq]; omega) (Nat.le_refl _)) rfl⟩
      · congr 3
        simp only [List.length_append, List.length_cons, List.length_nil, objT_len]
        omega
      · rw [List.take_of_length_le (by rw [cellsT_len]; exact Nat.le_refl _), cellsT_succ]
        exact congrArg (fun z => cellsT i ++ [AV.mp z]) hmp
      · simp [refOb, tbC, refA, Nat.blt_eq]; omega
    · have hie : n = i := by omega
      subst hie
      repeat refine zS ?_
      refine zV (lt_false (show nms.length ≤ n by omega)) ?_
      repeat refine zS ?_
      refine Run.label ?_
      repeat refine zS ?_
      obtain ⟨g5, hg5⟩ : ∃ g5, g5 = (ga, gb, DV.sl 1 nms, gd, DV.sl 2 (ps.map encQ)) := ⟨_, rfl⟩
      have hsok := it_sok (k := k) hk hps.sy
      refine Run.loopT (fun m : Nat => ⟨PT.ofList [(1, .d (.ep [nI k, ga, gb, .sl 1 nms, gd, .sl 2 (ps.map encQ)])), (2, .bp 0 0), (3, .bp 1 0)], objT bx0 (tbx k (ga, gb, .sl 1 nms, gd, .sl 2 (ps.map encQ)) n) (itS k ps m) n, []⟩) (fun m => m ≤ tot (itS k ps m) n) (fun m => n * 6561 - m) 0 (Nat.zero_le _) ?_ (fun m hm => ?_)
      · exact tidy_of _ (objT bx0 (tbx k (ga, gb, .sl 1 nms, gd, .sl 2 (ps.map encQ)) n) (fun _ => []) n).length (List.take_length) (Nat.ble_eq_true_of_le (Nat.zero_le _)) ⟨.inl rfl, .inl rfl, .inl rfl, trivial⟩ ⟨rfl, by simp [refA, Nat.blt_eq, objT_len], by simp [refA, Nat.blt_eq, objT_len], trivial⟩ (by rw [objT_len]; exact objT_refs rfl (by simp [refOb, tbC, refA, Nat.blt_eq]; omega) (Nat.le_refl _)) rfl
      · have hml := tot_le (hsok m) n
        have hSm := hsok m
        have hrd : itS k ps (m + 1) = roundS k ps (itS k ps m) := rfl
        generalize hS : itS k ps m = S at hm hSm hrd hml
        repeat refine zS ?_
        refine zX ?_
        repeat refine zS ?_
        iterate 4 refine zX ?_
        repeat refine zS ?_
        refine Run.loopT (fun y : Nat × Bool => ⟨PT.ofList [(1, .d (.ep [nI k, ga, gb, .sl 1 nms, gd, .sl 2 (ps.map encQ)])), (2, .bp 0 0), (3, .bp 1 0), (4, .d (.bool y.2)), (24, .d (.sl 2 (ps.map encQ))), (25, .d (nI (ps.map encQ).length)), (26, .d (nI y.1))], objT bx0 (tbx k (ga, gb, .sl 1 nms, gd, .sl 2 (ps.map encQ)) n) (roundS k (ps.take y.1) S) n, []⟩)
          (fun y => y.1 ≤ ps.length ∧ (y.2 = true → tot S n < tot (roundS k (ps.take y.1) S) n) ∧ (y.2 = false → roundS k (ps.take y.1) S = S) ∧ tot S n ≤ tot (roundS k (ps.take y.1) S) n ∧ SOK k (roundS k (ps.take y.1) S)) (fun y => ps.length - y.1) (0, false) ⟨Nat.zero_le _, by simp, fun _ => rfl, Nat.le_refl _, hSm⟩ ?_ (fun ⟨j, gr⟩ ⟨i1, i2, i3, i4, i5⟩ => ?_)
        · exact tidy_of _ (objT bx0 (tbx k (ga, gb, .sl 1 nms, gd, .sl 2 (ps.map encQ)) n) S n).length (List.take_length) (Nat.ble_eq_true_of_le (Nat.zero_le _)) ⟨.inl rfl, .inl rfl, .inl rfl, .inl rfl, .inl rfl, .inl rfl, .inl rfl, trivial⟩ ⟨rfl, by simp [refA, Nat.blt_eq, objT_len], by simp [refA, Nat.blt_eq, objT_len], rfl, rfl, rfl, rfl, trivial⟩ (by rw [objT_len]; exact objT_refs rfl (by simp [refOb, tbC, refA, Nat.blt_eq]; omega) (Nat.le_refl _)) rfl
        · simp only at i1 i2 i3 i4 i5
          have hml : (ps.map encQ).length = ps.length := by simp
          rcases Nat.lt_or_ge j ps.length with hjl | hjg
          · obtain ⟨p, hp⟩ := get_ok hjl
            have hpm := List.mem_of_getElem? hp
            have hrn : roundS k (ps.take (j + 1)) S = stepS k (roundS k (ps.take j) S) p := by
              unfold roundS
              rw [List.take_add_one, hp, List.foldl_append]; rfl
            generalize hSj : roundS k (ps.take j) S = Sj at i2 i3 i4 i5 hrn
            repeat refine zS ?_
            refine zV (lt_true (show j < (ps.map encQ).length by omega)) ?_
            repeat refine zS ?_
            have hpe : (ps.map encQ)[j]? = some (encQ p) := by rw [List.getElem?_map, hp]; rfl
            refine oIv w (v := .d (.ep [nI (16 + p.1), .sl 1 (p.2.map nI)])) trivial ?_ (he := by simp [gD, cellsD, encQ, hp])
            iterate 2 refine zX ?_
            refine oV ?_ (hv := evAny_store_last)
            refine RunOps.nil ?_
            refine Run.dropLastD (m := 0) (dl := []) (O := objT bx0 (tbx k (ga, gb, .sl 1 nms, gd, .sl 2 (ps.map encQ)) n) Sj n) (ds := [nI (16 + p.1), .sl 1 (p.2.map nI)]) [(1, .d (.ep [nI k, ga, gb, .sl 1 nms, gd, .sl 2 (ps.map encQ)])), (2, .bp 0 0), (3, .bp 1 0), (4, .d (.bool gr)), (24, .d (.sl 2 (ps.map encQ))), (25, .d (nI (ps.map encQ).length)), (26, .d (nI j)), (6, .d (.ep [nI (16 + p.1), .sl 1 (p.2.map nI)]))] ?_ (Nat.zero_le _) (by rw [objT_len]; exact objT_refs rfl (by simp [refOb, tbC, refA, Nat.blt_eq]; omega) (Nat.le_refl _)) rfl (ofList_cases (by intro q hq; simp only [List.mem_cons, List.not_mem_nil, or_false] at hq; rcases hq with rfl | rfl | rfl | rfl | rfl | rfl | rfl | rfl; exact .inl (by kernel_rfl); exact .inl (by kernel_rfl); exact .inl (by kernel_rfl); exact .inl (by kernel_rfl); exact .inl (by kernel_rfl); exact .inl (by kernel_rfl); exact .inl (by kernel_rfl); exact .inr ⟨0, Nat.zero_le _, by kernel_rfl, rfl⟩)) ⟨rfl, by simp [refA, Nat.blt_eq, objT_len], by simp [refA, Nat.blt_eq, objT_len], rfl, rfl, rfl, rfl, rfl, trivial⟩
            repeat refine zS ?_
            iterate 4 refine zX ?_
            have hlt := hps.lt p hpm
            refine zV (show AV.d (.int .i64 (IntKind.i64.wrap (((16 + p.1 : Nat) : Int) - 16))) = .d (nI p.1) by congr 2; rw [show ((16 + p.1 : Nat) : Int) - 16 = ((p.1 : Nat) : Int) by omega]; exact wrap_nat (by omega)) ?_
            refine zCut (show AV.bp (2 + 3 * n) (0 + ((p.1 : Nat) : Int).toNat * 1) = .bp (2 + 3 * n) p.1 by simp) ?_
            refine oV (v := .mp (3 * p.1 + 3)) ?_ (hv := evAny_loadV rfl rfl rfl rfl (by have := objT_row (x := bx0) (y := tbx k (ga, gb, .sl 1 nms, gd, .sl 2 (ps.map encQ)) n) (S := Sj) (n := n) (X := []); rwa [List.append_nil] at this) (cellsT_at hlt))
            refine zX ?_
            repeat refine zS ?_
            refine oV (v := .agg (tbC k (ga, gb, .sl 1 nms, gd, .sl 2 (ps.map encQ)) (.vs (2 + 3 * n) 1 0 n))) ?_ (hv := evAny_loadAgg rfl rfl rfl rfl rfl rfl) (he := rfl)
            iterate 2 refine zX ?_
            have hol := objT_len bx0 (tbx k (ga, gb, .sl 1 nms, gd, .sl 2 (ps.map encQ)) n) Sj n
            have hor : (objT bx0 (tbx k (ga, gb, .sl 1 nms, gd, .sl 2 (ps.map encQ)) n) Sj n).all (refOb (objT bx0 (tbx k (ga, gb, .sl 1 nms, gd, .sl 2 (ps.map encQ)) n) Sj n).length) = true := by rw [hol]; exact objT_refs rfl (by simp [refOb, tbC, refA, Nat.blt_eq]; omega) (Nat.le_refl _)
            refine oA (ofTA (objT bx0 (tbx k (ga, gb, .sl 1 nms, gd, .sl 2 (ps.map encQ)) n) Sj n) hor k hk1 hk (ga, gb, .sl 1 nms, gd, .sl 2 (ps.map encQ)) (.vs (2 + 3 * n) 1 0 n) n Sj (tbs_obj i5 hn (by rw [hol]; exact Nat.le_refl _)) p.2 (hps.sy p hpm) (hps.len p hpm)) ?_
            have hFk := fst_rt hk (fun a x hx => (i5.rt a x hx).1) emp_rt (hps.sy p hpm) (B := [[]])
            have hFa := fst_asc (k := k) (S := Sj) (l := p.2) emp_asc
            obtain ⟨Z0, hZ0⟩ : ∃ Z0, Z0 = objT bx0 (tbx k (ga, gb, .sl 1 nms, gd, .sl 2 (ps.map encQ)) n) Sj n ++ [Ob.gone, .pm (kvT [[]])] ++ tlF p.2.length (fstF k Sj [[]] p.2) := ⟨_, rfl⟩
            obtain ⟨ix, hix⟩ : ∃ ix, ix = ixO (objT bx0 (tbx k (ga, gb, .sl 1 nms, gd, .sl 2 (ps.map encQ)) n) Sj n).length p.2.length := ⟨_, rfl⟩
            have hx1 : Z0[ix]? = some (.pm (kvT (fstF k Sj [[]] p.2))) := by
              rw [hZ0, hix]
              refine at_ix (by simp) fun h0 => ?_
              rw [List.length_eq_zero_iff.1 h0]
              exact get1
            have hx2 : 3 * n + 3 ≤ ix := by
              rw [hix, hol]; unfold ixO ixF; split <;> omega
            have hx3 : Z0.take (3 * n + 3) = objT bx0 (tbx k (ga, gb, .sl 1 nms, gd, .sl 2 (ps.map encQ)) n) Sj n := by
              rw [hZ0, List.append_assoc, ← hol, List.take_left]
            have hx4 : Z0.all (refOb Z0.length) = true := by
              rw [hZ0, List.all_append, List.all_append, refs_mono (by simp) hor, tlF_refs]; rfl
            have hx5 : ix < Z0.length := (List.getElem?_eq_some_iff.1 hx1).1
            have hx6 : Z0[3 * p.1 + 3]? = some (.pm (kvT (Sj p.1))) := by
              rw [hZ0, List.append_assoc]; exact objT_at hlt
            rw [← hix, ← hZ0]
            generalize hFF : fstF k Sj [[]] p.2 = F at hFk hFa hx1
            have hst : stepS k Sj p = updT Sj p.1 (ascOf (Sj p.1 ++ F)) := by unfold stepS; rw [hFF]
            refine RunOps.openPm ix hx1 fun lF hlF => ?_
            obtain ⟨F', rfl, hpF⟩ := perm_kvT hlF
            refine RunOps.openPm (3 * p.1 + 3) (by rw [List.getElem?_set_ne (by omega)]; exact hx6) fun lA hlA => ?_
            obtain ⟨A', rfl, hpA⟩ := perm_kvT hlA
            obtain ⟨Z, hZ⟩ : ∃ Z, Z = Z0.set ix (.map (kvT F')) := ⟨_, rfl⟩
            have hz1 : Z.length = Z0.length := by rw [hZ, List.length_set]
            have hz2 : Z.all (refOb Z.length) = true := by rw [hz1, hZ]; exact refs_set hx4 rfl
            have hz3 : ∀ a : Ob, (Z.set (3 * p.1 + 3) a)[ix]? = some (.map (kvT F')) := fun a => by
              rw [List.getElem?_set_ne (by omega), hZ, List.getElem?_set_self hx5]
            have hz4 : ∀ X, (Z.set (3 * p.1 + 3) (.pm (kvT X))).take (3 * n + 3) = objT bx0 (tbx k (ga, gb, .sl 1 nms, gd, .sl 2 (ps.map encQ)) n) (updT Sj p.1 X) n := fun X => by
              have e : (objT bx0 (tbx k (ga, gb, .sl 1 nms, gd, .sl 2 (ps.map encQ)) n) Sj n).set ix (.map (kvT F')) = objT bx0 (tbx k (ga, gb, .sl 1 nms, gd, .sl 2 (ps.map encQ)) n) Sj n := List.set_eq_of_length_le (by rw [hol]; exact hx2)
              rw [hZ, List.take_set, List.take_set, hx3, e, objT_set hlt]
            rw [← hZ]
            have hzl : 3 * n + 3 < Z.length := by omega
            have haZ : 3 * p.1 + 3 < Z.length := by omega
            clear hx1 hx3 hx4 hx6 hZ0 hix hZ
            have hkF : (kvT F').length = F'.length := by simp
            have hF' : ∀ x ∈ F', x.length ≤ 4 := fun x hx => ((hFk x (hpF.mem_iff.1 hx)).1).len
            have hA' : A'.Nodup := hpA.nodup_iff.2 (asc_nodup (i5.asc p.1))
            refine oRange Et_ok ?_ (hi := hz3 _)
            repeat refine zS ?_
            refine Run.loopT (fun y : (List (List Nat) × List Nat) × Bool => ⟨PT.ofList [(1, .d (.ep [nI k, ga, gb, .sl 1 nms, gd, .sl 2 (ps.map encQ)])), (2, .bp 0 0), (3, .bp 1 0), (4, .d (.bool y.2)), (24, .d (.sl 2 (ps.map encQ))), (25, .d (nI (ps.map encQ).length)), (26, .d (nI j)), (7, .mp (3 * p.1 + 3)), (41, .bp Z.length 0)], Z.set (3 * p.1 + 3) (.map (kvT y.1.1)) ++ [.mit ix (kvT F').length y.1.2], []⟩)
              (fun y => y.1.1.Nodup ∧ y.1.2.Nodup ∧ (∀ q ∈ y.1.2, q < F'.length) ∧ (∀ z, z ∈ y.1.1 ↔ z ∈ A' ∨ ∃ q ∈ y.1.2, F'[q]? = some z) ∧ (y.2 = true → gr = true ∨ ∃ z ∈ y.1.1, z ∉ A') ∧ (y.2 = false → gr = false ∧ ∀ z ∈ y.1.1, z ∈ A')) (fun y => F'.length - y.1.2.length) ((A', []), gr) ⟨hA', by simp, by simp, by simp, fun h => .inl h, fun h => ⟨h, fun z hz => hz⟩⟩ ?_ (fun ⟨⟨out, seen⟩, b⟩ ⟨o1, o2, o3, o4, o5, o6⟩ => ?_)
            · refine tidy_of _ (Z.length + 1) (List.take_of_length_le (by simp)) (Nat.ble_eq_true_of_le (Nat.zero_le _)) ⟨.inl rfl, .inl rfl, .inl rfl, .inl rfl, .inl rfl, .inl rfl, .inl rfl, .inl rfl, .inl (Eq.trans (b := some (.bp (Z.set (3 * p.1 + 3) (.map (kvT A'))).length 0)) rfl (by rw [List.length_set])), trivial⟩ ⟨rfl, by simp only [refA, Nat.blt_eq]; omega, by simp only [refA, Nat.blt_eq]; omega, rfl, rfl, rfl, rfl, by simp only [refA, Nat.blt_eq]; omega, by simp only [refA, Nat.blt_eq]; omega, trivial⟩ ?_ rfl
              rw [List.all_append, refs_mono (Nat.le_succ _) (refs_set hz2 rfl)]
              simp [refOb, Nat.blt_eq]; omega
            · simp only at o1 o2 o3 o4 o5 o6
              repeat refine zS ?_
              refine oNext (i := ix) (j := Z.length) (kvs := kvT F') (seen := seen) (fun q pp hq hns => ?_) (fun hall => ?_) (hj := getS) (hi := getO (hz3 _))
              · obtain ⟨x, hx, rfl⟩ : ∃ x, F'[q]? = some x ∧ pp = (lk x, .bool true) := by
                  rw [List.getElem?_map] at hq
                  cases e : F'[q]? with
                  | none => rw [e] at hq; cases hq
                  | some x => rw [e] at hq; exact ⟨x, rfl, (Option.some.inj hq).symm⟩
                have hql := (List.getElem?_eq_some_iff.1 hx).1
                have hx4 := hF' x (List.mem_of_getElem? hx)
                have j2 : (seen ++ [q]).Nodup := by
                  rw [List.nodup_append]
                  exact ⟨o2, by simp, fun a ha c hc e => by simp at hc; subst hc; exact hns (e ▸ ha)⟩
                have j3 : ∀ r ∈ seen ++ [q], r < F'.length := fun r hr => by
                  rcases List.mem_append.1 hr with h1 | h1
                  · exact o3 r h1
                  · simp at h1; omega
                have hsl2 := seen_le F'.length (seen ++ [q]) j2 j3
                simp only [List.length_append, List.length_cons, List.length_nil] at hsl2
                have j4 : ∀ out' : List (List Nat), (∀ z, z ∈ out' ↔ z ∈ out ∨ z = x) → ∀ z, z ∈ out' ↔ z ∈ A' ∨ ∃ q' ∈ seen ++ [q], F'[q']? = some z := fun out' ho z => by
                  rw [ho z, o4 z]
                  constructor
                  · rintro ((h1 | ⟨q', h1, h2⟩) | rfl)
                    · exact .inl h1
                    · exact .inr ⟨q', by simp [h1], h2⟩
                    · exact .inr ⟨q, by simp, hx⟩
                  · rintro (h1 | ⟨q', h1, h2⟩)
                    · exact .inl (.inl h1)
                    · rcases List.mem_append.1 h1 with h1 | h1
                      · exact .inl (.inr ⟨q', h1, h2⟩)
                      · simp at h1
                        subst h1
                        rw [hx] at h2; cases h2
                        exact .inr rfl
                have tdy : ∀ (tm : PT AV) (out' : List (List Nat)) (b' : Bool), tm.get? 1 = some (.d (.ep [nI k, ga, gb, .sl 1 nms, gd, .sl 2 (ps.map encQ)])) → tm.get? 2 = some (.bp 0 0) → tm.get? 3 = some (.bp 1 0) → tm.get? 4 = some (.d (.bool b')) → tm.get? 24 = some (.d (.sl 2 (ps.map encQ))) → tm.get? 25 = some (.d (nI (ps.map encQ).length)) → tm.get? 26 = some (.d (nI j)) → tm.get? 7 = some (.mp (3 * p.1 + 3)) → tm.get? 41 = some (.bp Z.length 0) →
                    Tidy 0 ⟨tm, Z.set (3 * p.1 + 3) (.map (kvT out')) ++ [.mit ix (kvT F').length (seen ++ [q])], []⟩ ⟨PT.ofList [(1, .d (.ep [nI k, ga, gb, .sl 1 nms, gd, .sl 2 (ps.map encQ)])), (2, .bp 0 0), (3, .bp 1 0), (4, .d (.bool b')), (24, .d (.sl 2 (ps.map encQ))), (25, .d (nI (ps.map encQ).length)), (26, .d (nI j)), (7, .mp (3 * p.1 + 3)), (41, .bp Z.length 0)], Z.set (3 * p.1 + 3) (.map (kvT out')) ++ [.mit ix (kvT F').length (seen ++ [q])], []⟩ := fun tm out' b' t1 t2 t3 t4 t5 t6 t7 t8 t9 => by
                  refine tidy_of _ (Z.length + 1) (List.take_of_length_le (by simp)) (Nat.ble_eq_true_of_le (Nat.zero_le _)) ⟨.inl t1, .inl t2, .inl t3, .inl t4, .inl t5, .inl t6, .inl t7, .inl t8, .inl t9, trivial⟩ ⟨rfl, by simp only [refA, Nat.blt_eq]; omega, by simp only [refA, Nat.blt_eq]; omega, rfl, rfl, rfl, rfl, by simp only [refA, Nat.blt_eq]; omega, by simp only [refA, Nat.blt_eq]; omega, trivial⟩ ?_ rfl
                  rw [List.all_append, refs_mono (Nat.le_succ _) (refs_set hz2 rfl)]
                  simp [refOb, Nat.blt_eq]; omega
                rw [setS]
                refine zX ?_
                repeat refine zS ?_
                refine oEntry (i := ix) (j := Z.length) (q := q) (kvs := kvT F') (seen := seen) ?_ hq (hj := getS) (hi := getO (hz3 _))
                iterate 2 refine zX ?_
                refine oV ?_ (hv := evAny_store_last)
                refine RunOps.nil ?_
                refine Run.dropLastD (m := 0) (dl := []) (O := Z.set (3 * p.1 + 3) (.map (kvT out)) ++ [.mit ix (kvT F').length (seen ++ [q])]) (ds := lkC x) [(1, .d (.ep [nI k, ga, gb, .sl 1 nms, gd, .sl 2 (ps.map encQ)])), (2, .bp 0 0), (3, .bp 1 0), (4, .d (.bool b)), (24, .d (.sl 2 (ps.map encQ))), (25, .d (nI (ps.map encQ).length)), (26, .d (nI j)), (7, .mp (3 * p.1 + 3)), (41, .bp Z.length 0), (8, .d (.ep (lkC x)))] ?_ (Nat.zero_le _) (by rw [List.all_append, refs_mono (by simp) (refs_set hz2 rfl)]; simp [refOb, Nat.blt_eq]; omega) rfl (ofList_cases (by intro q hq; simp only [List.mem_cons, List.not_mem_nil, or_false] at hq; rcases hq with rfl | rfl | rfl | rfl | rfl | rfl | rfl | rfl | rfl | rfl; exact .inl (by kernel_rfl); exact .inl (by kernel_rfl); exact .inl (by kernel_rfl); exact .inl (by kernel_rfl); exact .inl (by kernel_rfl); exact .inl (by kernel_rfl); exact .inl (by kernel_rfl); exact .inl (by kernel_rfl); exact .inl (by kernel_rfl); exact .inr ⟨0, Nat.zero_le _, by kernel_rfl, rfl⟩)) ⟨rfl, by simp [refA, Nat.blt_eq], by simp [refA, Nat.blt_eq]; omega, rfl, rfl, rfl, rfl, by simp [refA, Nat.blt_eq]; omega, by simp [refA, Nat.blt_eq], rfl, trivial⟩
                repeat refine zS ?_
                iterate 2 refine zX ?_
                by_cases hxo : x ∈ out
                · refine oV (v := .d (.bool true)) ?_ (hv := evAny_hasT (x := x) rfl rfl rfl (getO (by rw [List.getElem?_set_self haZ])) rfl hx4) (he := by rw [decide_eq_true hxo])
                  refine zX ?_
                  repeat refine zS ?_
                  exact ⟨((out, seen ++ [q]), b), ⟨o1, j2, j3, j4 out fun z => ⟨.inl, fun h => h.elim id fun h => h ▸ hxo⟩, o5, o6⟩, by simp only [List.length_append, List.length_cons, List.length_nil]; omega, tdy _ out b rfl rfl rfl rfl rfl rfl rfl rfl rfl⟩
                · refine oV (v := .d (.bool false)) ?_ (hv := evAny_hasT (x := x) rfl rfl rfl (getO (by rw [List.getElem?_set_self haZ])) rfl hx4) (he := by rw [decide_eq_false hxo])
                  refine zX ?_
                  repeat refine zS ?_
                  iterate 2 refine zX ?_
                  refine oV (v := .d .any) (objs' := Z.set (3 * p.1 + 3) (.map (kvT (insT1 out x))) ++ [.mit ix (kvT F').length (seen ++ [q])]) ?_ (hv := evAny_insT (x := x) rfl rfl rfl (getO (by rw [List.getElem?_set_self haZ])) rfl rfl hx4) (ho := by exact setI haZ)
                  refine zX ?_
                  repeat refine zS ?_
                  have hxA : x ∉ A' := fun h => hxo ((o4 x).2 (.inl h))
                  exact ⟨((insT1 out x, seen ++ [q]), true), ⟨nodup_insT1 o1, j2, j3, j4 _ fun z => mem_insT1, fun _ => .inr ⟨x, mem_insT1.2 (.inr rfl), hxA⟩, fun h => by cases h⟩, by simp only [List.length_append, List.length_cons, List.length_nil]; omega, tdy _ _ true rfl rfl rfl rfl rfl rfl rfl rfl rfl⟩
              · have hmem : ∀ z, z ∈ out ↔ z ∈ Sj p.1 ++ F := fun z => by
                  rw [o4 z, List.mem_append, hpA.mem_iff]
                  refine or_congr_right ⟨?_, fun h => ?_⟩
                  · rintro ⟨q, _, h⟩
                    exact hpF.mem_iff.1 (List.mem_of_getElem? h)
                  · obtain ⟨q, h1⟩ := List.getElem?_of_mem (hpF.mem_iff.2 h)
                    exact ⟨q, hall q (by rw [hkF]; exact (List.getElem?_eq_some_iff.1 h1).1), h1⟩
                have hAm : ∀ z, z ∈ A' ↔ z ∈ Sj p.1 := fun z => hpA.mem_iff
                have htt := tot_upd (S := Sj) (X := ascOf (Sj p.1 ++ F)) hlt
                have hle : (Sj p.1).length ≤ (ascOf (Sj p.1 ++ F)).length := nodup_le (asc_nodup (i5.asc p.1)) fun z hz => mem_asc.2 (List.mem_append.2 (.inl hz))
                refine RunOps.closePm (3 * p.1 + 3) (l := kvT out) (kvs := kvT (ascOf (Sj p.1 ++ F))) (getO (by rw [List.getElem?_set_self haZ])) (perm_asc o1 hmem) ?_
                rw [setI haZ]
                refine zX ?_
                repeat refine zS ?_
                iterate 2 refine zX ?_
                refine RunOps.nil ?_
                refine ⟨(j + 1, b), ⟨hjl, ?_, ?_, ?_, ?_⟩, by simp only; omega, ?_⟩
                · intro hb
                  rw [hrn, hst]
                  rcases o5 hb with h | ⟨z, h1, h2⟩
                  · have := i2 h; omega
                  · have h3 := (List.mem_append.1 ((hmem z).1 h1)).resolve_left fun h => h2 ((hAm z).2 h)
                    have h4 := asc_more (i5.asc p.1) h3 fun h => h2 ((hAm z).2 h)
                    omega
                · intro hb
                  obtain ⟨h1, h2⟩ := o6 hb
                  rw [hrn, hst, asc_same (i5.asc p.1) fun z hz => (hAm z).1 (h2 z ((hmem z).2 (List.mem_append.2 (.inr hz)))), upd_same]
                  exact i3 h1
                · rw [hrn, hst]; omega
                · rw [hrn]; exact step_sok hk i5 (hps.sy p hpm)
                · show Tidy 0 _ ⟨PT.ofList _, objT bx0 (tbx k (ga, gb, .sl 1 nms, gd, .sl 2 (ps.map encQ)) n) (roundS k (ps.take (j + 1)) S) n, []⟩
                  rw [hrn, hst]
                  refine tidy_of _ (3 * n + 3) ?_ (Nat.ble_eq_true_of_le (Nat.zero_le _)) ⟨.inl rfl, .inl rfl, .inl rfl, .inl rfl, .inl rfl, .inl rfl, .inl (inc_get rfl (by omega)), trivial⟩ ⟨rfl, by simp [refA, Nat.blt_eq], by simp [refA, Nat.blt_eq], rfl, rfl, rfl, rfl, trivial⟩ (objT_refs rfl (by simp [refOb, tbC, refA, Nat.blt_eq]; omega) (Nat.le_refl _)) rfl
                  rw [List.take_append_of_le_length (by rw [List.length_set]; omega)]
                  exact hz4 _
          · have hje : j = ps.length := by omega
            subst hje
            rw [List.take_length, ← hrd] at i2 i3 i4 i5
            repeat refine zS ?_
            refine zV (lt_false (show (ps.map encQ).length ≤ ps.length by omega)) ?_
            repeat refine zS ?_
            refine zX ?_
            cases gr with
            | true =>
              refine zX ?_
              repeat refine zS ?_
              have h1 := i2 rfl
              have h2 := tot_le (hsok (m + 1)) n
              refine ⟨m + 1, by omega, by omega, ?_⟩
              exact tidy_of _ (3 * n + 3) (by rw [List.take_length, ← hrd]; exact List.take_of_length_le (by rw [objT_len]; exact Nat.le_refl _)) (Nat.ble_eq_true_of_le (Nat.zero_le _)) ⟨.inl rfl, .inl rfl, .inl rfl, trivial⟩ ⟨rfl, by simp [refA, Nat.blt_eq], by simp [refA, Nat.blt_eq], trivial⟩ (objT_refs rfl (by simp [refOb, tbC, refA, Nat.blt_eq]; omega) (Nat.le_refl _)) rfl
            | false =>
              refine zX ?_
              repeat refine zS ?_
              have h1 : setsF k n ps = S := by
                rw [← hS]
                exact sets_of (by rw [i3 rfl, hS]) (by omega)
              rw [List.take_length, ← hrd, i3 rfl, h1]
              refine oV (v := .agg (tbC k (ga, gb, .sl 1 nms, gd, .sl 2 (ps.map encQ)) (.vs (2 + 3 * n) 1 0 n))) ?_ (hv := evAny_loadAgg rfl rfl rfl rfl rfl rfl) (he := rfl)
              refine zX ?_
              repeat refine zS ?_
              refine Run.ret ?_
              exact ⟨trivial, _, _, rfl, rfl, .refl, ⟨.gone, .gone, wk_refl _⟩⟩
theorem cmpFst : CmpFn 54 := fun x y hx hy => by
  have c := compareK x y hx hy
  refine kF Try.func54 [2, 3] fun w => ?_
  repeat' (first
    | refine zW ?_
    | refine zB ?_ ?_ <;> intro h <;> try exact zk h
    | refine zX ?_
    | refine zC (c) ?_
    | rfl
    | fail)
def outQ (b : Nat) : List (List Nat) → AV
  | [] => .d .nilsl
  | _ :: r => .vs (b + r.length) 5 0 (r.length + 1)
theorem outQ_ref {b n : Nat} {D : List (List Nat)} (h : b + D.length ≤ n) : refA 8 n (outQ b D) = true := by
  cases D with
  | nil => rfl
  | cons x r => simp only [outQ, refA, Nat.blt_eq, List.length_cons] at h ⊢; omega
theorem getX {Z : List Ob} {x : List Nat} {r : List (List Nat)} : (Z ++ outX (x :: r))[Z.length + r.length]? = some (vecL (x :: r)) := by
  rw [List.getElem?_append_right (by omega), show Z.length + r.length - Z.length = r.length by omega, outX, List.getElem?_append_right (by simp)]; simp
theorem setX {Z : List Ob} {x y : List Nat} {r : List (List Nat)} : (Z ++ outX (x :: r)).set (Z.length + r.length) .gone ++ [vecL (x :: (r ++ [y]))] = Z ++ outX (x :: (r ++ [y])) := by
  rw [List.set_append_right _ _ (by omega), show Z.length + r.length - Z.length = r.length by omega, List.append_assoc]
  congr 1
  rw [outX, outX, List.set_append_right _ _ (by simp)]
  simp only [List.length_replicate, Nat.sub_self, List.set_cons_zero, List.length_append, List.length_cons, List.length_nil, List.replicate_succ', List.append_assoc]
def IterQ (O : List Ob) (y : Nat) (fv : AV) (E : List (List Nat)) (Pm : List (List Nat) → Prop) : Prop :=
  (refA 8 O.length fv = true ∧ isPan fv = false) ∧ ∃ g a b, (∀ D β v, RepA D β fv v → ∃ u1 u2, v = .func (.func g) u1 u2 ∧ Reps D β a u1 ∧ Reps D β b u2) ∧
    ∀ (Rf Rg : List (List Nat) → List Ob), (∀ D, (Rf D).length = 3) → Rg [] = [] → (∀ D, (Rf D).all (refOb (O.length + 3 + y + (Rg D).length)) = true) → (∀ D, (Rg D).all (refOb (O.length + 3 + y + (Rg D).length)) = true) →
      (∀ O1 Y D x, O1.length = O.length → Y.length = y → O1.all (refOb O.length) = true → Y.all (refOb O.length) = true → x ∈ E → D.length < E.length → AYield Try.prog (O.length + 2) [.d (lk x)] (O1 ++ Rf D ++ Y ++ Rg D) (.d (.bool true)) (O1 ++ Rf (D ++ [x]) ++ Y ++ Rg (D ++ [x]))) →
      ACallQ Try.prog g (a ++ [.yl (O.length + 2)] ++ b) (O ++ Rf []) (fun o r => r = .tup [] ∧ ∃ D Y, Pm D ∧ Y.length = y ∧ Y.all (refOb O.length) = true ∧ o = O ++ Rf D ++ Y ++ Rg D)
theorem gtB {O1 W : List Ob} {a b c : Ob} {n : Nat} (h : O1.length = n) : ((O1 ++ [c]) ++ [a, b] ++ W)[n]? = some c := by
  subst h
  rw [List.append_assoc, List.append_assoc]; exact get0
theorem gtR {O W : List Ob} {c : Ob} {tm : PT AV} {nt : Nat} {frz : List Nat} {qs : Array Tmp} {assign body : Code} {st : LoopState} {pd : Option Code} : (rangeObs (O ++ [c]) tm nt frz qs assign body st pd ++ W)[O.length]? = some c := by
  have := get0 (M := O) (X := [.raw (.deferred (some [])), .loop tm nt frz qs assign body st pd] ++ W) (a := c)
  simpa [rangeObs] using this
theorem stB {O1 W : List Ob} {a b c c' : Ob} {n : Nat} (h : O1.length = n) : ((O1 ++ [c]) ++ [a, b] ++ W).set n c' = (O1 ++ [c']) ++ [a, b] ++ W := by
  subst h
  have := setL0 (M := O1) (X := [a, b] ++ W) (a := c) (c := c')
  simpa using this
theorem leaveR {O W : List Ob} {c : Ob} {tm : PT AV} {nt : Nat} {frz : List Nat} {qs : Array Tmp} {assign body : Code} {st : LoopState} {pd : Option Code} :
    evLeave H0 [.mark (O.length + 1)] none (rangeObs (O ++ [c]) tm nt frz qs assign body st pd ++ W) = some (none, O ++ [c, .raw (.deferred none), .loop tm nt frz qs assign body st pd] ++ W) := by
  have e : rangeObs (O ++ [c]) tm nt frz qs assign body st pd ++ W = O ++ c :: .raw (.deferred (some [])) :: ([.loop tm nt frz qs assign body st pd] ++ W) := by simp [rangeObs]
  rw [e]
  have h1 := get1 (M := O) (X := [.loop tm nt frz qs assign body st pd] ++ W) (a := c) (b := .raw (.deferred (some [])))
  have h2 := setL1 (M := O) (X := [.loop tm nt frz qs assign body st pd] ++ W) (a := c) (b := .raw (.deferred (some []))) (c := .raw (.deferred none))
  simp only [evLeave, h1, h2]
  simp
theorem Run.rangeIterQ {nt m : Nat} {frz : List Nat} {K : Ex → S → Prop} {tm : PT AV} {dl : List Dl} {f : Operand} {qs : Array Tmp} {assign body : Code} {O : List Ob} {y : Nat} {fv : AV} {E : List (List Nat)} {Pm : List (List Nat) → Prop} (hit : IterQ O y fv E Pm) (bx : List (List Nat) → Ob) (X : List (List Nat) → List Ob)
    (hf : rd tm f = fv) (hX0 : X [] = []) (hb : ∀ D, refOb (O.length + 3 + y + (X D).length) (bx D) = true) (hXr : ∀ D, (X D).all (refOb (O.length + 3 + y + (X D).length)) = true) (hT : ∀ n, ptAll (refA 8 (O.length + 3 + n)) tm = true)
    (hround : ∀ O1 Y D x, O1.length = O.length → Y.length = y → O1.all (refOb O.length) = true → Y.all (refOb O.length) = true → x ∈ E → D.length < E.length → AYield Try.prog (O.length + 2) [.d (lk x)] (rangeObs (O1 ++ [bx D]) tm nt frz qs assign body .ready none ++ (Y ++ X D)) (.d (.bool true)) (rangeObs (O1 ++ [bx (D ++ [x])]) tm nt frz qs assign body .ready none ++ (Y ++ X (D ++ [x]))))
    (hend : ∀ D Y, Pm D → Y.length = y → K .normal ⟨tm, rangeObs (O ++ [bx D]) tm nt frz qs assign body .exhausted none ++ (Y ++ X D), .mark (O.length + 1) :: dl⟩) :
    Run Try.prog nt m none (.rangeFunc f qs assign body) ⟨tm, O ++ [bx []], dl⟩ K := by
  obtain ⟨_, g, a, b, hfv, hA⟩ := hit
  have e : ∀ (O1 Y : List Ob) D st, O1 ++ [bx D, .raw (.deferred (some [])), .loop tm nt frz qs assign body st none] ++ Y ++ X D = rangeObs (O1 ++ [bx D]) tm nt frz qs assign body st none ++ (Y ++ X D) := fun O1 Y D st => by simp [rangeObs]
  have hA1 := hA (fun D => [bx D, .raw (.deferred (some [])), .loop tm nt frz qs assign body .ready none]) X (fun _ => rfl) hX0 (fun D => by
    simp only [List.all_cons, List.all_nil, Bool.and_true, hb D, Bool.true_and]
    have h1 := hT (y + (X D).length)
    rw [← Nat.add_assoc] at h1
    simp only [refOb, h1, Bool.and_true]) hXr (fun O1 Y D x h1 h2 h3 h4 h5 h6 => by rw [e, e]; exact hround O1 Y D x h1 h2 h3 h4 h5 h6)
  have hl : (O ++ [bx []]).length = O.length + 1 := by simp
  refine Run.rangeQ (frz := frz) (s := ⟨tm, O ++ [bx []], dl⟩) (G := fun o r => r = .tup [] ∧ ∃ D Y, Pm D ∧ Y.length = y ∧ Y.all (refOb O.length) = true ∧ o = O ++ [bx D, .raw (.deferred (some [])), .loop tm nt frz qs assign body .ready none] ++ Y ++ X D) (fun D β v hv => hfv D β v (by rw [← hf]; exact hv)) ?_ ?_
  · have e2 : rangeObs (O ++ [bx []]) tm nt frz qs assign body .ready none = O ++ [bx [], .raw (.deferred (some [])), .loop tm nt frz qs assign body .ready none] := by simp [rangeObs]
    show ACallQ _ _ (a ++ [.yl ((O ++ [bx []]).length + 1)] ++ b) (rangeObs (O ++ [bx []]) tm nt frz qs assign body .ready none) _
    rw [hl, e2]
    exact hA1
  · rintro o r ⟨_, D, Y, h1, h2, _, rfl⟩
    refine ⟨tm, nt, frz, qs, assign, body, .ready, ?_, by simp, ?_⟩
    · simp only [hl]
      rw [List.append_assoc, List.append_assoc, List.getElem?_append_right (by omega), show O.length + 1 + 1 - O.length = 2 by omega]; rfl
    · have e3 : (O ++ [bx D, .raw (.deferred (some [])), .loop tm nt frz qs assign body .ready none] ++ Y ++ X D).set (O.length + 1 + 1) (.loop tm nt frz qs assign body .exhausted none) = rangeObs (O ++ [bx D]) tm nt frz qs assign body .exhausted none ++ (Y ++ X D) := by
        rw [← e, List.append_assoc, List.append_assoc, List.set_append_right _ _ (by omega), show O.length + 1 + 1 - O.length = 2 by omega, List.append_assoc, List.append_assoc]; rfl
      simp only [hl]
      rw [e3]
      exact hend D Y h1 h2
set_option maxHeartbeats 4000000 in
theorem appSeqQ (O : List Ob) (hO : O.all (refOb O.length) = true) (y : Nat) (fv : AV) (E : List (List Nat)) (Pm : List (List Nat) → Prop) (hit : IterQ O y fv E Pm) (hE : ∀ x ∈ E, x.length ≤ 4) (hl : E.length ≤ 100000) :
    ACallQ Try.prog 51 [.d .nilsl, fv] O (fun o r => ∃ D, Pm D ∧ r = outQ (O.length + 3 + y) D ∧ o = O ++ List.replicate (3 + y) .gone ++ outX D) := by
  have w : Fz [10, 65547] := trivial
  have hit0 := hit
  obtain ⟨⟨hfr, hfp⟩, g, ga, gb, hf, hA⟩ := hit
  refine ACallQ.weak (G := fun o r => ∃ D Y a b c, Pm D ∧ Y.length = y ∧ r = outQ (O.length + 3 + y) D ∧ o = O ++ [a, b, c] ++ Y ++ outX D) ?_ ?_
  · refine acallQ_of_run Et_ok (fnB Try.func51 [10, 65547]) rfl rfl ?_
    have w : Fz [10, 65547] := trivial
    repeat refine zS ?_
    iterate 2 refine zX ?_
    repeat refine zS ?_
    refine oV (v := fv) ?_ (hp := hfp) (he := rfl)
    refine RunOps.nil ?_
    refine Run.tidy (s' := ⟨PT.ofList [(2, .bp O.length 0), (6, fv)], O ++ [.box [.d .nilsl]], []⟩) (tidy_of _ (O.length + 1) (List.take_of_length_le (by simp)) (Nat.ble_eq_true_of_le (Nat.le_succ _)) ⟨.inl rfl, .inl rfl, trivial⟩ ⟨by simp [refA, Nat.blt_eq], refA_mono (Nat.le_succ _) 8 hfr, trivial⟩ (by rw [List.all_append, refs_mono (Nat.le_succ _) hO]; rfl) rfl) ?_
    repeat refine zS ?_
    refine Run.rangeIterQ (frz := [10, 65547]) hit0 (fun D => .box [outQ (O.length + 3 + y) D]) outX rfl rfl (fun D => ?_) (fun D => outX_ref _ D) (fun n => ?_) (fun O1 Y D x h1 h2 h3 h4 h5 h6 => ?_) (fun D Y h1 h2 => ?_)
    · simp only [refOb, List.all_cons, List.all_nil, Bool.and_true]
      exact outQ_ref (by rw [outX_len]; exact Nat.le_refl _)
    · exact ptAll_ofList (l := [(2, .bp O.length 0), (6, fv)]) ⟨by simp only [refA, Nat.blt_eq]; omega, refA_mono (by omega) 8 hfr, trivial⟩
    · have hx4 := hE x h5
      refine ayield_box (L := O.length + 1) (lkC x) [(2, .bp O.length 0), (5, .d (.ep (lkC x)))] rfl rfl (by simp [h1]) (by simp [h1]) ?_ ?_ ?_ ⟨by simp only [refA, Nat.blt_eq]; omega, rfl, trivial⟩ ?_ (fun a b ha hb => ?_)
      · rw [List.all_append, refs_mono (by omega) h3]
        simp only [refOb, List.all_cons, List.all_nil, Bool.and_true, Bool.true_and]
        exact outQ_ref (by simp [outX_len, h2]; omega)
      · rw [List.all_append, refs_mono (by omega) h4, outX_ref]; rfl
      · exact ptAll_ofList (l := [(2, .bp O.length 0), (6, fv)]) ⟨by simp only [refA, Nat.blt_eq]; omega, refA_mono (by omega) 8 hfr, trivial⟩
      · repeat refine zS ?_
        refine zX ?_
        refine oV ?_ (hv := evAny_store_last)
        refine RunOps.nil ?_
        exact ⟨rfl, _, rfl, ofList_cases (by intro q hq; simp only [List.mem_cons, List.not_mem_nil, or_false] at hq; rcases hq with rfl | rfl; exact .inl (by kernel_rfl); exact .inr ⟨0, Nat.zero_le _, by kernel_rfl, rfl⟩)⟩
      · repeat refine zS ?_
        have hZ : ((O1 ++ [Ob.box [outQ (O.length + 3 + y) D]]) ++ [a, b] ++ Y).length = O.length + 3 + y := by simp [h1, h2]; omega
        cases D with
        | nil =>
          refine oV (v := .d .nilsl) ?_ (hv := evAny_loadB rfl rfl rfl rfl (gtB h1) rfl) (he := rfl)
          iterate 2 refine zX ?_
          refine oV (v := .vs (O.length + 3 + y) 5 0 1) (objs' := (O1 ++ [Ob.box [outQ (O.length + 3 + y) []]]) ++ [a, b] ++ (Y ++ [vecL [x]])) ?_ (hv := by rfl) (he := ?_) (ho := ?_)
          · refine oV (objs' := (O1 ++ [Ob.box [outQ (O.length + 3 + y) [x]]]) ++ [a, b] ++ (Y ++ [vecL [x]])) ?_ (hv := evAny_storeB (cs := [outQ (O.length + 3 + y) []]) rfl rfl rfl rfl rfl rfl rfl (gtB h1) Nat.zero_lt_one) (ho := by exact stB h1)
            repeat refine zS ?_
            exact ⟨rfl, rfl⟩
          · rw [← List.append_assoc]
            simp only [outX, List.append_nil]
            exact congrArg (fun n => AV.vs n 5 0 1) hZ
          · show (((O1 ++ [Ob.box [outQ (O.length + 3 + y) []]]) ++ [a, b]) ++ (Y ++ [])) ++ [vecL [x]] = _
            rw [List.append_nil, List.append_assoc]
        | cons z r =>
          refine oV (v := .vs (O.length + 3 + y + r.length) 5 0 (r.length + 1)) ?_ (hv := evAny_loadB rfl rfl rfl rfl (gtB h1) rfl) (he := rfl)
          iterate 2 refine zX ?_
          have hgx : ((O1 ++ [Ob.box [outQ (O.length + 3 + y) (z :: r)]]) ++ [a, b] ++ (Y ++ outX (z :: r)))[O.length + 3 + y + r.length]? = some (vecL (z :: r)) := by
            rw [← List.append_assoc]
            have := getX (Z := (O1 ++ [Ob.box [outQ (O.length + 3 + y) (z :: r)]]) ++ [a, b] ++ Y) (x := z) (r := r)
            rwa [hZ] at this
          have hsx : ((O1 ++ [Ob.box [outQ (O.length + 3 + y) (z :: r)]]) ++ [a, b] ++ (Y ++ outX (z :: r))).set (O.length + 3 + y + r.length) .gone ++ [vecL (z :: (r ++ [x]))] = (O1 ++ [Ob.box [outQ (O.length + 3 + y) (z :: r)]]) ++ [a, b] ++ (Y ++ outX (z :: (r ++ [x]))) := by
            rw [← List.append_assoc ((O1 ++ [Ob.box [outQ (O.length + 3 + y) (z :: r)]]) ++ [a, b]), ← List.append_assoc ((O1 ++ [Ob.box [outQ (O.length + 3 + y) (z :: r)]]) ++ [a, b])]
            have := setX (Z := (O1 ++ [Ob.box [outQ (O.length + 3 + y) (z :: r)]]) ++ [a, b] ++ Y) (x := z) (y := x) (r := r)
            rwa [hZ] at this
          refine oV (v := .vs (O.length + 3 + y + (r ++ [x]).length) 5 0 ((r ++ [x]).length + 1)) (objs' := (O1 ++ [Ob.box [outQ (O.length + 3 + y) (z :: r)]]) ++ [a, b] ++ (Y ++ outX (z :: (r ++ [x])))) ?_ (hv := evAny_appV (D := z :: r) (i := O.length + 3 + y + r.length) (by rfl) (by rfl) (by rfl) (by rfl) (by rfl) (by rfl) hgx (by simp only [List.length_cons] at h6 ⊢; omega)) (he := ?_) (ho := by exact hsx)
          · refine oV (objs' := (O1 ++ [Ob.box [outQ (O.length + 3 + y) (z :: (r ++ [x]))]]) ++ [a, b] ++ (Y ++ outX (z :: (r ++ [x])))) ?_ (hv := evAny_storeB (cs := [outQ (O.length + 3 + y) (z :: r)]) rfl rfl rfl rfl rfl rfl rfl (gtB h1) Nat.zero_lt_one) (ho := by exact stB h1)
            repeat refine zS ?_
            exact ⟨rfl, rfl⟩
          · have e : ((O1 ++ [Ob.box [outQ (O.length + 3 + y) (z :: r)]]) ++ [a, b] ++ (Y ++ outX (z :: r))).length = O.length + 3 + y + (r ++ [x]).length := by
              rw [← List.append_assoc, List.length_append, hZ, outX_len]; simp
            rw [e]; simp
    · repeat refine zS ?_
      have hm : ∀ W : List Ob, (O ++ W)[O.length]? = W[0]? := fun W => by rw [List.getElem?_append_right (Nat.le_refl _), Nat.sub_self]
      refine oV (v := outQ (O.length + 3 + y) D) ?_ (hv := evAny_loadB rfl rfl rfl rfl gtR rfl) (he := rfl) (hp := by cases D <;> rfl)
      refine oV (v := outQ (O.length + 3 + y) D) ?_ (he := rfl) (hp := by cases D <;> rfl)
      refine RunOps.nil ?_
      refine Run.ret ?_
      exact ⟨trivial, _, _, leaveR, rfl, ⟨D, Y, _, _, _, h1, h2, rfl, (List.append_assoc _ _ _).symm⟩, (by cases D <;> rfl)⟩
  · rintro o r ⟨D, Y, a, b, c, h1, h2, rfl, rfl⟩
    refine ⟨_, ⟨D, h1, rfl, rfl⟩, ?_, by simp, ?_, outQ_ref (by simp [outX_len]; omega)⟩
    · have key : ∀ (Y : List Ob) (W : List Ob), WkObs (Y ++ W) (List.replicate Y.length .gone ++ W) := fun Y W => by
        induction Y with
        | nil => exact wk_refl W
        | cons a Y ih => exact ⟨.gone, ih⟩
      have h3 := key ([a, b, c] ++ Y) (outX D)
      rw [show ([a, b, c] ++ Y).length = 3 + y by simp [h2]; omega] at h3
      have k2 : ∀ (O A B : List Ob), WkObs A B → WkObs (O ++ A) (O ++ B) := fun O A B h => by
        induction O with
        | nil => exact h
        | cons a O ih => exact ⟨.refl, ih⟩
      have h4 := k2 O _ _ h3
      simpa [List.append_assoc] using h4
    · rw [List.all_append, List.all_append, refs_mono (by simp) hO, outX_ref]
      simp only [Bool.true_and, Bool.and_true, List.all_eq_true]
      intro x hx
      rw [List.eq_of_mem_replicate hx]; rfl
theorem nodup_at {α : Type} {l : List α} (h : l.Nodup) {i j : Nat} {x : α} (hi : l[i]? = some x) (hj : l[j]? = some x) : i = j := by
  obtain ⟨h1, h2⟩ := List.getElem?_eq_some_iff.1 hi
  obtain ⟨h3, h4⟩ := List.getElem?_eq_some_iff.1 hj
  exact (List.getElem_inj h).1 (h2.trans h4.symm)
set_option maxHeartbeats 4000000 in
theorem keysIt (O : List Ob) (hO : O.all (refOb O.length) = true) (bx ia : Nat) (A : List (List Nat)) (hb : O[bx]? = some (.box [.mp ia])) (hia : O[ia]? = some (.pm (kvT A))) (hA : A.Nodup) (hA4 : ∀ x ∈ A, x.length ≤ 4) :
    IterQ O 1 (.fn (.func 70) [] [.bp bx 0]) A (fun D => D.Perm A) := by
  have w : Fz [] := trivial
  have hbl := (List.getElem?_eq_some_iff.1 hb).1
  have hil := (List.getElem?_eq_some_iff.1 hia).1
  have hne : bx ≠ ia := fun e => by subst e; rw [hb] at hia; cases hia
  refine ⟨⟨by simp [refA, Nat.blt_eq]; exact hbl, rfl⟩, _, _, _, fun D β v hv => fnA_rep hv, fun Rf Rg hRl hRg0 hRr hGr hy => ?_⟩
  refine acallQ_of_run Et_ok (fnB Try.func70 []) rfl rfl ?_
  have w : Fz [] := trivial
  refine Run.openPm ia (getO hia) fun lA hlA => ?_
  obtain ⟨A', rfl, hpA⟩ := perm_kvT hlA
  rw [setO hil]
  obtain ⟨O1, hO1⟩ : ∃ O1, O1 = O.set ia (.map (kvT A')) := ⟨_, rfl⟩
  have hl1 : O1.length = O.length := by rw [hO1, List.length_set]
  have hr1 : O1.all (refOb O.length) = true := by rw [hO1]; exact refs_set hO rfl
  have hb1 : O1[bx]? = some (.box [.mp ia]) := by rw [hO1, List.getElem?_set_ne (Ne.symm hne)]; exact hb
  have hi1 : O1[ia]? = some (.map (kvT A')) := by rw [hO1, List.getElem?_set_self hil]
  have hc1 : O1.set ia (.pm (kvT A)) = O := by rw [hO1, set_back hia]
  have hA' : A'.Nodup := hpA.nodup_iff.2 hA
  have hA4' : ∀ x ∈ A', x.length ≤ 4 := fun x hx => hA4 x (hpA.mem_iff.1 hx)
  have hkA : (kvT A').length = A'.length := by simp
  have hfr : ∀ (D seen : List _) , (O1 ++ Rf D ++ [Ob.mit ia (kvT A').length seen] ++ Rg D).all (refOb (O.length + 3 + 1 + (Rg D).length)) = true := fun D seen => by
    rw [List.all_append, List.all_append, List.all_append, refs_mono (by omega) hr1, hRr, hGr]
    simp [refOb, Nat.blt_eq]; omega
  rw [← hO1]
  clear hO1
  repeat refine zS ?_
  refine oV (v := .mp ia) ?_ (hv := evAny_loadB rfl rfl rfl rfl (getO hb1) rfl) (he := rfl)
  refine oRange Et_ok ?_ (hi := getO hi1)
  repeat refine zS ?_
  refine Run.loopT (fun y : List (List Nat) × List Nat => ⟨PT.ofList [(0, .yl (O.length + 2)), (5, .bp (O.length + 3) 0)], O1 ++ Rf y.1 ++ [.mit ia (kvT A').length y.2] ++ Rg y.1, []⟩)
    (fun y => y.1.Nodup ∧ y.1.length = y.2.length ∧ y.2.Nodup ∧ (∀ q ∈ y.2, q < A'.length) ∧ ∀ z, z ∈ y.1 ↔ ∃ q ∈ y.2, A'[q]? = some z) (fun y => A'.length - y.2.length) ([], []) ⟨by simp, rfl, by simp, by simp, by simp⟩ ?_ (fun ⟨D, seen⟩ ⟨i1, i2, i3, i4, i5⟩ => ?_)
  · have hle : (O1 ++ Rf []).length = O.length + 3 := by rw [List.length_append, hl1, hRl]
    refine tidy_of _ (O.length + 4) ?_ (Nat.ble_eq_true_of_le (by rw [List.length_append, hRl]; omega)) ⟨.inl rfl, .inl (Eq.trans (b := some (.bp (O1 ++ Rf []).length 0)) rfl (by rw [hle])), trivial⟩ ⟨by simp [refA, Nat.blt_eq], by simp [refA, Nat.blt_eq], trivial⟩ ?_ rfl
    · simp only [hRg0, List.append_nil]
      exact List.take_of_length_le (by rw [List.length_append, hle]; simp)
    · have := hfr [] []
      rw [hRg0] at this
      simpa [hRg0] using this
  · simp only at i1 i2 i3 i4 i5
    have hL : ∀ D s, (O1 ++ Rf D ++ [Ob.mit ia (kvT A').length s] ++ Rg D).length = O.length + 3 + 1 + (Rg D).length := fun D s => by simp [hl1, hRl]; omega
    have gM : ∀ D s, (O1 ++ Rf D ++ [Ob.mit ia (kvT A').length s] ++ Rg D)[O.length + 3]? = some (.mit ia (kvT A').length s) := fun D s => by
      have := get0 (M := O1 ++ Rf D) (X := Rg D) (a := Ob.mit ia (kvT A').length s)
      rw [List.length_append, hl1, hRl] at this
      simpa [List.append_assoc] using this
    have sM : ∀ D s s', (O1 ++ Rf D ++ [Ob.mit ia (kvT A').length s] ++ Rg D).set (O.length + 3) (.mit ia (kvT A').length s') = O1 ++ Rf D ++ [Ob.mit ia (kvT A').length s'] ++ Rg D := fun D s s' => by
      have := setL0 (M := O1 ++ Rf D) (X := Rg D) (a := Ob.mit ia (kvT A').length s) (c := Ob.mit ia (kvT A').length s')
      rw [List.length_append, hl1, hRl] at this
      simpa [List.append_assoc] using this
    have gI : ∀ D s, (O1 ++ Rf D ++ [Ob.mit ia (kvT A').length s] ++ Rg D)[ia]? = some (.map (kvT A')) := fun D s => by
      rw [List.append_assoc, List.append_assoc]; exact getO hi1
    repeat refine zS ?_
    refine oNext (i := ia) (j := O.length + 3) (kvs := kvT A') (seen := seen) (fun q pp hq hns => ?_) (fun hall => ?_) (hj := gM _ _) (hi := gI _ _)
    · obtain ⟨x, hx, rfl⟩ : ∃ x, A'[q]? = some x ∧ pp = (lk x, .bool true) := by
        rw [List.getElem?_map] at hq
        cases e : A'[q]? with
        | none => rw [e] at hq; cases hq
        | some x => rw [e] at hq; exact ⟨x, rfl, (Option.some.inj hq).symm⟩
      have hql := (List.getElem?_eq_some_iff.1 hx).1
      have hxm := List.mem_of_getElem? hx
      have j2 : (seen ++ [q]).Nodup := by
        rw [List.nodup_append]
        exact ⟨i3, by simp, fun a ha c hc e => by simp at hc; subst hc; exact hns (e ▸ ha)⟩
      have j3 : ∀ r ∈ seen ++ [q], r < A'.length := fun r hr => by
        rcases List.mem_append.1 hr with h1 | h1
        · exact i4 r h1
        · simp at h1; omega
      have hsl2 := seen_le A'.length (seen ++ [q]) j2 j3
      simp only [List.length_append, List.length_cons, List.length_nil] at hsl2
      have hxD : x ∉ D := fun h => by
        obtain ⟨q', h1, h2⟩ := (i5 x).1 h
        have := nodup_at hA' h2 hx
        subst this
        exact hns h1
      rw [sM]
      refine zX ?_
      repeat refine zS ?_
      refine oEntry (i := ia) (j := O.length + 3) (q := q) (kvs := kvT A') (seen := seen) ?_ hq (hj := gM _ _) (hi := gI _ _)
      iterate 2 refine zX ?_
      refine oV ?_ (hv := evAny_store_last)
      refine RunOps.nil ?_
      refine Run.dropLastD (m := (O ++ Rf []).length) (dl := []) (O := O1 ++ Rf D ++ [Ob.mit ia (kvT A').length (seen ++ [q])] ++ Rg D) (ds := lkC x) [(0, .yl (O.length + 2)), (5, .bp (O.length + 3) 0), (3, .d (.ep (lkC x)))] ?_ (by rw [hL, List.length_append, hRl]; omega) (by rw [hL]; exact hfr _ _) rfl (ofList_cases (by intro q hq; simp only [List.mem_cons, List.not_mem_nil, or_false] at hq; rcases hq with rfl | rfl | rfl; exact .inl (by kernel_rfl); exact .inl (by kernel_rfl); exact .inr ⟨0, Nat.zero_le _, by kernel_rfl, rfl⟩)) ⟨by rw [hL]; simp only [refA, Nat.blt_eq]; omega, by rw [hL]; simp only [refA, Nat.blt_eq]; omega, rfl, trivial⟩
      repeat refine zS ?_
      iterate 2 refine zX ?_
      refine oY (hy O1 [.mit ia (kvT A').length (seen ++ [q])] D x hl1 rfl hr1 (by simp [refOb, Nat.blt_eq]; exact hil) (hpA.mem_iff.1 hxm) (by rw [← hpA.length_eq]; omega)) ?_
      refine zX ?_
      repeat refine zS ?_
      refine ⟨(D ++ [x], seen ++ [q]), ⟨?_, by simp [i2], j2, j3, fun z => ?_⟩, by simp only [List.length_append, List.length_cons, List.length_nil]; omega, ?_⟩
      · rw [List.nodup_append]
        exact ⟨i1, by simp, fun a ha c hc e => by simp at hc; subst hc; exact hxD (e ▸ ha)⟩
      · rw [List.mem_append, i5 z]
        constructor
        · rintro (⟨q', h1, h2⟩ | h1)
          · exact ⟨q', by simp [h1], h2⟩
          · simp at h1; subst h1; exact ⟨q, by simp, hx⟩
        · rintro ⟨q', h1, h2⟩
          rcases List.mem_append.1 h1 with h1 | h1
          · exact .inl ⟨q', h1, h2⟩
          · simp at h1; subst h1
            rw [hx] at h2; cases h2
            exact .inr (by simp)
      · refine tidy_of _ (O.length + 3 + 1 + (Rg (D ++ [x])).length) (List.take_of_length_le (by rw [hL]; exact Nat.le_refl _)) (Nat.ble_eq_true_of_le (by rw [List.length_append, hRl]; omega)) ⟨.inl rfl, .inl rfl, trivial⟩ ⟨by simp only [refA, Nat.blt_eq]; omega, by simp only [refA, Nat.blt_eq]; omega, trivial⟩ (hfr _ _) rfl
    · have hper : D.Perm A := by
        refine (List.Perm.trans ?_ hpA)
        refine (List.perm_ext_iff_of_nodup i1 hA').2 fun z => ?_
        rw [i5 z]
        constructor
        · rintro ⟨q, _, h⟩
          exact List.mem_of_getElem? h
        · intro h
          obtain ⟨q, h1⟩ := List.getElem?_of_mem h
          exact ⟨q, hall q (by rw [hkA]; exact (List.getElem?_eq_some_iff.1 h1).1), h1⟩
      refine RunOps.closePm ia (l := kvT A') (kvs := kvT A) (gI _ _) (hpA.map _) ?_
      rw [List.append_assoc, List.append_assoc, setO (by rw [hl1]; exact hil), hc1]
      refine zX ?_
      repeat refine zS ?_
      refine ⟨trivial, _, _, rfl, rfl, ⟨rfl, D, [.mit ia (kvT A').length seen], hper, rfl, by simp [refOb, Nat.blt_eq]; exact hil, ?_⟩, rfl⟩
      simp [List.append_assoc]
theorem known_arg1 {P : Program} {f : FuncId} {x y : DV} {r : AV} (h : KnownCall P f [y] r) (hn : DvN x y) : KnownCall P f [x] r := by
  intro o
  refine ⟨(h o).1, fun D β w vs hp hv => (h o).2 D β w vs hp ⟨hv.1, fun j c v hc hw => ?_⟩⟩
  match j, hc with
  | 0, hc =>
    simp at hc
    subst hc
    have := hv.2 0 _ v rfl hw
    cases this with
    | d k => exact .d (hn.rep k)
  | j + 1, hc => simp at hc
abbrev valF (L : List (List Nat)) : DV := .fn (.func 73) [] [.ep [lks L]]
theorem valQ (O : List Ob) (L : List (List Nat)) (hO : O.all (refOb O.length) = true) (hl : L.length ≤ 1048576) : IterQ O 0 (.d (valF L)) L (fun D => D = L) := by
  obtain ⟨g, a, b, he, hA⟩ := valuesIt L hl
  refine ⟨⟨rfl, rfl⟩, g, a.map .d, b.map .d, fun D β v hv => fn_rep (show RepA D β (.d (.fn (.func g) a b)) v by rw [← he]; exact hv), fun Rf Rg hRl hRg0 hRr hGr hy => ?_⟩
  have hBl : ∀ k, (O ++ Rf (L.take k) ++ Rg (L.take k)).length = O.length + 3 + (Rg (L.take k)).length := fun k => by simp [hRl]; omega
  have h1 := hA (O.length + 2) (fun k => O ++ Rf (L.take k) ++ Rg (L.take k)) (fun k => by rw [hBl]; omega) (fun k => by rw [hBl, hBl]; simp [hRg0]) (fun k => by
    rw [hBl, List.all_append, List.all_append, refs_mono (by omega) hO]
    have r1 := hRr (L.take k)
    have r2 := hGr (L.take k)
    rw [Nat.add_zero] at r1 r2
    rw [r1, r2]; rfl) (fun k x hx => by
    have hk := (List.getElem?_eq_some_iff.1 hx).1
    have := hy O [] (L.take k) x rfl rfl hO rfl (List.mem_of_getElem? hx) (by simp; omega)
    rw [List.append_nil, List.append_nil] at this
    rw [List.take_add_one, hx]
    exact this)
  simp only [List.take_zero, hRg0, List.append_nil, List.take_length] at h1
  refine (ACallQ.of h1 rfl).mono fun o r ⟨e1, e2⟩ => ⟨e2, L, [], rfl, rfl, rfl, by rw [e1]; simp⟩
set_option maxHeartbeats 4000000 in
theorem collectQ (O : List Ob) (hO : O.all (refOb O.length) = true) (y : Nat) (fv : AV) (E : List (List Nat)) (Pm : List (List Nat) → Prop) (hit : IterQ O y fv E Pm) (hE : ∀ x ∈ E, x.length ≤ 4) (hl : E.length ≤ 100000) :
    ACallQ Try.prog 32 [fv] O (fun o r => ∃ D, Pm D ∧ r = outQ (O.length + 3 + y) D ∧ o = O ++ List.replicate (3 + y) .gone ++ outX D) := by
  have w : Fz [] := trivial
  refine acallQ_of_run Et_ok (fnB Try.func32 []) rfl rfl ?_
  have w : Fz [] := trivial
  repeat refine zS ?_
  refine zX ?_
  repeat refine zS ?_
  refine oV (v := fv) ?_ (hp := hit.1.2) (he := rfl)
  refine oQ (appSeqQ O hO y fv E Pm hit hE hl) fun o' r ⟨D, h1, h2, h3⟩ => ⟨_, rfl, ?_⟩
  subst h2 h3
  refine oV (v := outQ (O.length + 3 + y) D) ?_ (he := rfl) (hp := by cases D <;> rfl)
  refine RunOps.nil ?_
  refine Run.ret ?_
  exact ⟨trivial, _, _, rfl, rfl, ⟨D, h1, rfl, rfl⟩, (by cases D <;> rfl)⟩
theorem collectK (L : List (List Nat)) (hE : ∀ x ∈ L, x.length ≤ 4) (hl : L.length ≤ 100000) : KnownCall Try.prog 32 [valF L] (.d (lks L)) := by
  refine (collectQ [] rfl 0 (.d (valF L)) L _ (valQ [] L rfl (by omega)) hE hl).known fun o x ⟨D, h1, h2, h3⟩ => ?_
  subst h1 h2 h3
  cases D with
  | nil => exact ⟨_, rfl, .d .nil⟩
  | cons z r =>
    have h := getX (Z := ([] : List Ob) ++ List.replicate (3 + 0) .gone) (x := z) (r := r)
    exact ⟨_, close_vec (L := z :: r) h, .d .refl⟩
theorem keysA (O : List Ob) (hO : O.all (refOb O.length) = true) (ia : Nat) (hi : ia < O.length) : ACall Try.prog 52 [.mp ia] O (.fn (.func 70) [] [.bp O.length 0]) (O ++ [.box [.mp ia]]) := by
  have w : Fz [] := trivial
  refine acallG_of_run Et_ok (fnB Try.func52 []) rfl rfl (by simp) ?_ (by simp [refA, Nat.blt_eq]) ?_
  · rw [List.all_append, refs_mono (by simp) hO]; simp [refOb, refA, Nat.blt_eq]; omega
  have w : Fz [] := trivial
  repeat refine zS ?_
  iterate 2 refine zX ?_
  repeat refine zS ?_
  iterate 2 refine zX ?_
  repeat refine zS ?_
  refine Run.ret ?_
  exact ⟨trivial, _, _, rfl, rfl, .refl, wk_refl _⟩
theorem wk_pre : ∀ O W : List Ob, WkObs (O ++ W) O
  | [], W => by cases W <;> trivial
  | _ :: O, W => ⟨.refl, wk_pre O W⟩
set_option maxHeartbeats 4000000 in
theorem sortedA (O : List Ob) (hO : O.all (refOb O.length) = true) (ia : Nat) (A : List (List Nat)) (hia : O[ia]? = some (.pm (kvT A))) (hA : Asc A) (hR : ∀ x ∈ A, Rt x) :
    ACall Try.prog 33 [.mp ia] O (.d (valF A)) O := by
  have w : Fz [] := trivial
  have hil := (List.getElem?_eq_some_iff.1 hia).1
  have hnd := asc_nodup hA
  have hAl := rt_card hnd hR
  have hO1 : (O ++ [Ob.box [.mp ia]]).all (refOb (O ++ [Ob.box [.mp ia]]).length) = true := by
    rw [List.all_append, refs_mono (by simp) hO]; simp [refOb, refA, Nat.blt_eq]; omega
  have hit := keysIt (O ++ [Ob.box [.mp ia]]) hO1 O.length ia A get0 (getO hia) hnd fun x hx => (hR x hx).len
  refine acallG_of_run Et_ok (fnB Try.func33 []) rfl rfl (Nat.le_refl _) hO rfl ?_
  have w : Fz [] := trivial
  repeat refine zS ?_
  refine zX ?_
  repeat refine zS ?_
  refine zX ?_
  refine oA (keysA O hO ia hil) ?_
  refine oQ (collectQ (O ++ [Ob.box [.mp ia]]) hO1 1 _ A _ hit (fun x hx => (hR x hx).len) (by omega)) fun o' r ⟨D, h1, h2, h3⟩ => ⟨_, rfl, ?_⟩
  subst h2 h3
  refine oV (v := outQ ((O ++ [Ob.box [.mp ia]]).length + 3 + 1) D) ?_ (he := rfl) (hp := by cases D <;> rfl)
  repeat refine zS ?_
  cases D with
  | nil =>
    have hA0 : A = [] := h1.symm.eq_nil
    subst hA0
    refine zX ?_
    refine zC sortNil ?_
    repeat refine zS ?_
    refine zX ?_
    refine zC (known_arg1 (valuesK []) .nil) ?_
    refine zX ?_
    repeat refine zS ?_
    refine Run.ret ?_
    refine ⟨trivial, _, _, rfl, rfl, .refl, ?_⟩
    simp only [List.append_assoc]
    exact wk_pre _ _
  | cons z r =>
    obtain ⟨L', hp, hs, hS⟩ := sortA cmpFst (z :: r) (fun x hx => hR x (h1.mem_iff.1 hx)) (by rw [h1.length_eq]; omega)
    have hLA : L' = A := asc_ext (asc_of_sorted hs (hp.nodup_iff.2 (h1.nodup_iff.2 hnd))) hA fun x => (hp.mem_iff).trans h1.mem_iff
    subst hLA
    have hZl : ((O ++ [Ob.box [.mp ia]]) ++ List.replicate (3 + 1) Ob.gone).length = (O ++ [Ob.box [AV.mp ia]]).length + 3 + 1 := by simp
    have hgx := getX (Z := (O ++ [Ob.box [.mp ia]]) ++ List.replicate (3 + 1) Ob.gone) (x := z) (r := r)
    rw [hZl] at hgx
    refine zX ?_
    refine oA (hS _ ((O ++ [Ob.box [.mp ia]]).length + 3 + 1 + r.length) hgx) ?_
    refine RunOps.nil ?_
    have hln : L'.length = r.length + 1 := hp.length_eq
    have hgl := (List.getElem?_eq_some_iff.1 hgx).1
    refine Run.freezeVec ((O ++ [Ob.box [.mp ia]]).length + 3 + 1 + r.length) (es := L'.map lk) (n := r.length + 1) (sz := 5) (ag := true) (T := 38) (tm' := PT.ofList [(3, .d (lks L'))]) ?_ ?_ (by rw [List.length_map, hln]) (fun e he => by obtain ⟨x, _, rfl⟩ := List.mem_map.1 he; rfl) (ofList_cases (by intro q hq; simp only [List.mem_cons, List.not_mem_nil, or_false] at hq; rcases hq with rfl; exact .inr ⟨by kernel_rfl, rfl⟩))
    · repeat refine zS ?_
      refine zX ?_
      refine zC (valuesK L') ?_
      refine zX ?_
      repeat refine zS ?_
      refine Run.ret ?_
      refine ⟨trivial, _, _, rfl, rfl, .refl, ?_⟩
      rw [List.set_set]
      simp only [List.append_assoc]
      rw [List.set_append_right _ _ (by simp; omega)]
      exact wk_pre _ _
    · rw [List.getElem?_set_self hgl, vecL, hln]
theorem sameLq (a b : List (List Nat)) (ha : ∀ x ∈ a, x.length ≤ 4) (hl : a.length ≤ 1048576) : KnownCall Try.prog 14 [lks a, lks b] (.d (.bool (decide (a = b)))) := by
  by_cases hab : a.length = b.length
  · refine kF Try.func14 [] fun w => ?_
    repeat' (first
      | refine zW ?_
      | refine zB ?_ ?_ <;> intro h <;> try exact zk h
      | ((exfalso; first | (simp at h <;> fail) | (simp at h; omega)))
      | fail)
    refine Run.loop (fun i : Nat => ⟨PT.ofList [(0, .d (lks a)), (1, .d (lks b)), (5, .d (.int .i64 i))], [], []⟩) (fun i => i ≤ a.length ∧ a.take i = b.take i) (fun i => a.length - i) 0 ⟨Nat.zero_le _, rfl⟩ (weak_of (by repeat' (first | exact trivial | refine ⟨rfl, ?_⟩))) (fun i hi => ?_)
    rcases Nat.lt_or_ge i a.length with hlt | hge
    · obtain ⟨x, hx⟩ := get_ok hlt
      obtain ⟨y, hy⟩ := get_ok (show i < b.length by omega)
      have hxl := ha x (List.mem_of_getElem? hx)
      by_cases hxy : x = y
      · subst hxy
        have hnx : a.take (i + 1) = b.take (i + 1) := by rw [List.take_add_one, List.take_add_one, hi.2, hx, hy]
        repeat' (first
          | refine zW ?_
          | refine zB ?_ ?_ <;> intro h <;> try exact zk h
          | refine zI w (.d (.ep (lkC x))) hx ?_
          | refine zI w (.d (.ep (lkC x))) hy ?_
          | (exact ⟨i + 1, ⟨hlt, hnx⟩, by omega, weak_of (by repeat' (first | exact trivial | refine ⟨rfl, ?_⟩ | refine ⟨(inc_get (k := i) (by kernel_rfl) (by omega)), ?_⟩))⟩)
          | ((exfalso; first | (simp at h <;> fail) | (simp at h; omega)))
          | fail)
      · have hne : a ≠ b := fun e => by subst e; rw [hx] at hy; cases hy; exact hxy rfl
        rw [decide_eq_false hne]
        repeat' (first
          | refine zW ?_
          | refine zB ?_ ?_ <;> intro h <;> try exact zk h
          | refine zI w (.d (.ep (lkC x))) hx ?_
          | refine zI w (.d (.ep (lkC y))) hy ?_
          | rfl
          | ((exfalso; simp only [Bool.not_eq_eq_eq_not, Bool.not_false, bne, Bool.and_eq_true, beq_iff_eq] at h; exact hxy (lk_inj hxl (by omega) (by omega) (by omega) (by omega) (by omega))))
          | ((exfalso; first | (simp at h <;> fail) | (simp at h; omega)))
          | fail)
    · have hie : i = a.length := by have := hi.1; omega
      have he : a = b := by
        have := hi.2
        rwa [hie, List.take_length, hab, List.take_length] at this
      rw [decide_eq_true he]
      subst hie
      repeat' (first
        | refine zW ?_
        | refine zB ?_ ?_ <;> intro h <;> try exact zk h
        | rfl
        | ((exfalso; first | (simp at h <;> fail) | (simp at h; omega)))
        | fail)
  · have hne : a ≠ b := fun e => hab (by rw [e])
    rw [decide_eq_false hne]
    refine kF Try.func14 [] fun w => ?_
    repeat' (first
      | refine zW ?_
      | refine zB ?_ ?_ <;> intro h <;> try exact zk h
      | rfl
      | ((exfalso; first | (simp at h <;> fail) | (simp at h; omega)))
      | fail)
structure GProd where
  left : Int
  right : List Int
structure Gram where
  k : Int
  tokens : List (List Nat)
  sep : List Nat
  names : List (List Nat)
  start : Int
  prods : List GProd
def encP (p : GProd) : DV := .agg [.int .i64 p.left, ints p.right]
abbrev encG (g : Gram) : DV := .agg [.int .i64 g.k, strs g.tokens, .str g.sep, strs g.names, .int .i64 g.start, .sl 2 (g.prods.map encP)]
structure Fits (g : Gram) : Prop where
  tokens : g.tokens.length ≤ 1048576
  names : g.names.length ≤ 1048576
  prods : g.prods.length ≤ 1048576
  sep : g.sep.length ≤ 1048576
  tokenS : ∀ s ∈ g.tokens, s.length ≤ 1048576
  nameS : ∀ s ∈ g.names, s.length ≤ 1048576
  rights : ∀ p ∈ g.prods, p.right.length ≤ 1048576
def isTerm (g : Gram) (s : Int) : Bool := decide (0 ≤ s) && decide (s < g.tokens.length)
def isNonterm (g : Gram) (s : Int) : Bool := decide (16 ≤ s) && decide (s < 16 + g.names.length)
theorem terminal0 (g : Gram) (s : Int) : ACall Try.prog 67 [.d (encG g), .d (.int .i64 s)] [] (.d (.bool (isTerm g s))) [] := by
  have w : Fz [2] := trivial
  refine acall_of_run Et_ok (fnB Try.func67 [2]) rfl rfl ?_
  by_cases h : 0 ≤ s
  · refine Run.seq (Run.region ?_)
    iterate 2 refine zX ?_
    refine RunOps.nil ?_
    refine Run.seq (Run.region ?_)
    iterate 1 refine zX ?_
    first | refine oV (v := .d (.bool true)) ?_ (he := (by simp [h])) | refine eX (v := .d (.bool true)) ?_ (he := (by simp [h]))
    repeat refine zA ?_
    refine Run.ret ?_
    refine ⟨trivial, rfl, Eq.trans (b := some (.d (.bool (decide (s < ((g.tokens.map DV.str).length : Nat)))))) (by kernel_rfl) ?_⟩
    simp [isTerm, h]
  · refine Run.seq (Run.region ?_)
    iterate 2 refine zX ?_
    refine RunOps.nil ?_
    refine Run.seq (Run.region ?_)
    iterate 1 refine zX ?_
    first | refine oV (v := .d (.bool false)) ?_ (he := (by simp [h])) | refine eX (v := .d (.bool false)) ?_ (he := (by simp [h]))
    iterate 1 refine zX ?_
    iterate 5 refine RunOps.skip (by rfl) (by rfl) ?_
    repeat refine zA ?_
    refine Run.ret ?_
    refine ⟨trivial, rfl, Eq.trans (b := some (.d (.bool false))) (by kernel_rfl) ?_⟩
    simp [isTerm, h]
theorem terminal (g : Gram) (s : Int) : KnownCall Try.prog 67 [encG g, .int .i64 s] (.d (.bool (isTerm g s))) := fun o => pure_call (k := 8) rfl (terminal0 g s) rfl o
theorem allProds0 (ps : List GProd) (hl : ps.length ≤ 1099511627776) (yi L : Nat) (B : Nat → List Ob) (hyi : Nat.blt yi L = true) (hL : ∀ k, (B k).length = L) (hR : ∀ k, (B k).all (refOb L) = true) (n : Nat) (hn : n ≤ ps.length)
    (hy : ∀ k p, k < n → ps[k]? = some p → AYield Try.prog yi [.d (.int .i64 k), .d (encP p)] (B k) (.d (.bool true)) (B (k + 1))) (obs : List Ob)
    (hend : n = ps.length ∧ obs = B n ∨ ∃ p, ps[n]? = some p ∧ AYield Try.prog yi [.d (.int .i64 n), .d (encP p)] (B n) (.d (.bool false)) obs) :
    ACall Try.prog 108 [.yl yi, .d (.ep [.sl 2 (ps.map encP)])] (B 0) (.tup []) obs := by
  have w : Fz [] := trivial
  refine acall_of_run Et_ok (fnB Try.func108 []) rfl rfl ?_
  repeat refine zA ?_
  refine Run.loop (fun k : Nat => ⟨PT.ofList [(0, .yl yi), (5, .d (.sl 2 (ps.map encP))), (6, .d (.int .i64 (ps.map encP).length)), (7, .d (.int .i64 k))], B k, []⟩) (fun k => k ≤ n) (fun k => ps.length - k) 0 (Nat.zero_le _) (weak_of ⟨rfl, rfl, rfl, rfl, trivial⟩) (fun k hk => ?_)
  repeat refine zA ?_
  refine Run.cond (by rfl) (fun h => ?_) (fun h => ?_)
  · have hlt : k < ps.length := by simpa using h
    obtain ⟨p, hp⟩ := get_ok hlt
    repeat refine zA ?_
    first | refine oV (v := .d (.ep [.int .i64 p.left, ints p.right])) ?_ (hf := (by first | (simp [inB] <;> fail) | (simp [inB]; omega))) (he := (by first | (simp [List.getD_eq_getElem?_getD, cellsD, hp, encP] <;> fail) | fail)) | refine eX (v := .d (.ep [.int .i64 p.left, ints p.right])) ?_ (hf := (by first | (simp [inB] <;> fail) | (simp [inB]; omega))) (he := (by first | (simp [List.getD_eq_getElem?_getD, cellsD, hp, encP] <;> fail) | fail))
    repeat refine zA ?_
    refine RunOps.x (frz := []) (v := .d .any) (ob := some (B k ++ [.box [.d (.int .i64 p.left), .d (ints p.right)]])) (fl := true) Et_ok (by rfl)
      (Eq.trans (b := Option.map (fun (p : AV × List Ob × Bool) => (p.1, some p.2.1, p.2.2)) (storeR Et 48 (.bp (B k).length 0) (.d (.agg [.int .i64 p.left, ints p.right])) (B k ++ [.box [.d (.int .i64 0), .d .nilsl]]))) rfl (by rw [store_last (y := ty48) (by rfl) (B k) _ (by rfl) (by rfl) (by rfl)]; rfl)) rfl rfl rfl rfl (by rfl) ?_
    repeat refine zA ?_
    refine RunOps.x (frz := []) (v := .d (.agg [.int .i64 p.left, ints p.right])) (ob := none) (fl := true) Et_ok (by rfl)
      (Eq.trans (b := Option.map (fun (p : AV × List Ob × Bool) => (p.1, none, p.2.2)) (loadR Et 48 (.bp (B k).length 0) (B k ++ [.box [.d (.int .i64 p.left), .d (ints p.right)]]))) rfl (by rw [load_last (y := ty48) (by rfl) (by rfl) (B k) _ (by rfl)]; rfl)) rfl rfl rfl rfl (by rfl) ?_
    have hLk := hL k
    have hb : Nat.blt yi (B k).length = true := by rw [hLk]; exact hyi
    refine RunOps.less (less_of [(5, .d (.sl 2 (ps.map encP))), (6, .d (.int .i64 (ps.map encP).length)), (7, .d (.int .i64 k)), (12, .yl yi), (0, .yl yi), (13, .d (.int .i64 k)), (14, .d (encP p))] (B k).length (List.take_left) (by rw [hL, hL]; exact Nat.ble_eq_true_of_le (Nat.le_refl _))
      ⟨by kernel_rfl, by kernel_rfl, by kernel_rfl, by kernel_rfl, by kernel_rfl, by kernel_rfl, by kernel_rfl, trivial⟩ ⟨rfl, rfl, rfl, hb, hb, rfl, rfl, trivial⟩ (by rw [hLk]; exact hR k) rfl) ?_
    rcases Nat.lt_or_ge k n with hkn | hkn
    · refine RunOps.yield (by rfl) (by rfl) (hy k p hkn hp) (by rfl) (by rfl) ?_
      repeat refine zA ?_
      refine Run.cond (b := false) (by rfl) (fun h => by cases h) (fun _ => ?_)
      repeat refine zA ?_
      exact ⟨k + 1, hkn, by omega, weak_of ⟨(by kernel_rfl), (by kernel_rfl), (by kernel_rfl), (inc_get (k := k) (by kernel_rfl) (by omega)), trivial⟩⟩
    · have hkn : k = n := by omega
      subst hkn
      rcases hend with ⟨h1, _⟩ | ⟨p', hp', hA⟩
      · omega
      · rw [hp] at hp'; cases hp'
        refine RunOps.yield (by rfl) (by rfl) hA (by rfl) (by rfl) ?_
        repeat refine zA ?_
        refine Run.cond (b := true) (by rfl) (fun _ => ?_) (fun h => by cases h)
        refine Run.ret ?_
        exact ⟨trivial, rfl, by kernel_rfl⟩
  · have hge : ps.length ≤ k := by simpa using h
    have hkn : k = n := by omega
    subst hkn
    rcases hend with ⟨_, rfl⟩ | ⟨p', hp', _⟩
    · repeat refine zA ?_
      exact ⟨trivial, rfl, by kernel_rfl⟩
    · rw [List.getElem?_eq_none (by omega)] at hp'; cases hp'
abbrev allProdsF (ps : List GProd) : DV := .fn (.func 108) [] [.ep [.sl 2 (ps.map encP)]]
theorem Run.rangeProds {nt m : Nat} {frz : List Nat} {K : Ex → S → Prop} {tm : PT AV} {dl : List Dl} {f : Operand} {qs : Array Tmp} {assign body : Code} (L : Nat) (Bs : Nat → List Ob) (ps : List GProd) (hl : ps.length ≤ 1099511627776)
    (hf : rd tm f = .d (allProdsF ps)) (hBL : ∀ k, (Bs k).length = L) (hBr : ∀ k, (Bs k).all (refOb (L + 2)) = true) (hT : ptAll (refA 8 (L + 2)) tm = true) (n : Nat) (hn : n ≤ ps.length)
    (hround : ∀ k p, k < n → ps[k]? = some p → AYield Try.prog (L + 1) [.d (.int .i64 k), .d (encP p)] (rangeObs (Bs k) tm nt frz qs assign body .ready none) (.d (.bool true)) (rangeObs (Bs (k + 1)) tm nt frz qs assign body .ready none))
    (hend : (n = ps.length ∧ K .normal ⟨tm, rangeObs (Bs n) tm nt frz qs assign body .exhausted none, .mark L :: dl⟩) ∨
      ∃ p Be, ps[n]? = some p ∧ (Be.length = L) ∧ ((AYield Try.prog (L + 1) [.d (.int .i64 n), .d (encP p)] (rangeObs (Bs n) tm nt frz qs assign body .ready none) (.d (.bool false)) (rangeObs Be tm nt frz qs assign body .done (some .ret)) ∧
          K .ret ⟨tm, rangeObs Be tm nt frz qs assign body .exhausted (some .ret), .mark L :: dl⟩) ∨
        ∃ id, AYield Try.prog (L + 1) [.d (.int .i64 n), .d (encP p)] (rangeObs (Bs n) tm nt frz qs assign body .ready none) (.d (.bool false)) (rangeObs Be tm nt frz qs assign body .done (some (.exit id))) ∧
          K (.exit id) ⟨tm, rangeObs Be tm nt frz qs assign body .exhausted (some (.exit id)), .mark L :: dl⟩)) :
    Run Try.prog nt m none (.rangeFunc f qs assign body) ⟨tm, Bs 0, dl⟩ K := by
  have hlen : ∀ B : List Ob, B.length = L → ∀ st pend, (rangeObs B tm nt frz qs assign body st pend).length = L + 2 := fun B h st pend => by simp [rangeObs, h]
  have hrefs : ∀ k, (rangeObs (Bs k) tm nt frz qs assign body .ready none).all (refOb (L + 2)) = true := fun k => by
    simp only [rangeObs, List.all_append, hBr k, Bool.true_and, List.all_cons, List.all_nil, Bool.and_true]
    simp only [refOb, hT, Bool.and_self]
  have hget : ∀ B : List Ob, B.length = L → ∀ st pend, (rangeObs B tm nt frz qs assign body st pend)[L + 1]? = some (.loop tm nt frz qs assign body st pend) := fun B h st pend => by
    subst h; simp [rangeObs]
  have hset : ∀ B : List Ob, B.length = L → ∀ st pend st' pend', (rangeObs B tm nt frz qs assign body st pend).set (L + 1) (.loop tm nt frz qs assign body st' pend') = rangeObs B tm nt frz qs assign body st' pend' := fun B h st pend st' pend' => by
    subst h
    unfold rangeObs
    rw [List.set_append_right _ _ (by simp)]
    simp
  have hyi : Nat.blt (L + 1) (L + 2) = true := by rw [Nat.blt_eq]; omega
  have hm : Try.prog.follows .mixedOrders = true := by kernel_rfl
  rcases hend with ⟨h1, h2⟩ | ⟨p, Be, hp, hBe, ⟨h1, h2⟩ | ⟨id, h1, h2⟩⟩
  · have hA := allProds0 ps hl (L + 1) (L + 2) (fun k => rangeObs (Bs k) tm nt frz qs assign body .ready none) hyi (fun k => hlen _ (hBL k) _ _) hrefs n hn hround (rangeObs (Bs n) tm nt frz qs assign body .ready none) (.inl ⟨h1, rfl⟩)
    rw [← hBL 0] at hA
    have := Run.range (m := m) (s := ⟨tm, Bs 0, dl⟩) (K := K) Et_ok hm hf hA rfl (by rw [hBL 0]; exact hget _ (hBL n) _ _) (by simp) (by
      simp only [hBL 0]
      rw [hset _ (hBL n)]
      exact h2)
    exact this
  · have hA := allProds0 ps hl (L + 1) (L + 2) (fun k => rangeObs (Bs k) tm nt frz qs assign body .ready none) hyi (fun k => hlen _ (hBL k) _ _) hrefs n hn hround (rangeObs Be tm nt frz qs assign body .done (some .ret)) (.inr ⟨p, hp, h1⟩)
    rw [← hBL 0] at hA
    have := Run.range (m := m) (s := ⟨tm, Bs 0, dl⟩) (K := K) Et_ok hm hf hA rfl (by rw [hBL 0]; exact hget _ hBe _ _) (by simp) (by
      simp only [hBL 0]
      rw [hset _ hBe]
      exact h2)
    exact this
  · have hA := allProds0 ps hl (L + 1) (L + 2) (fun k => rangeObs (Bs k) tm nt frz qs assign body .ready none) hyi (fun k => hlen _ (hBL k) _ _) hrefs n hn hround (rangeObs Be tm nt frz qs assign body .done (some (.exit id))) (.inr ⟨p, hp, h1⟩)
    rw [← hBL 0] at hA
    have := Run.range (m := m) (s := ⟨tm, Bs 0, dl⟩) (K := K) Et_ok hm hf hA rfl (by rw [hBL 0]; exact hget _ hBe _ _) (by simp) (by
      simp only [hBL 0]
      rw [hset _ hBe]
      exact h2)
    exact this
theorem wrap64 {n : Int} (h1 : -9223372036854775808 ≤ n) (h2 : n ≤ 9223372036854775807) : IntKind.i64.wrap n = n := IntWalk.i64_in n ⟨h1, h2⟩
theorem nonterminal (g : Gram) (s : Int) (hf : Fits g) : KnownCall Try.prog 68 [encG g, .int .i64 s] (.d (.bool (isNonterm g s))) := by
  have hn := hf.names
  have hw : IntKind.i64.wrap (16 + (g.names.length : Int)) = 16 + g.names.length := wrap64 (by omega) (by omega)
  refine kF Try.func68 [2] fun w => ?_
  repeat' (first
    | refine zW ?_
    | refine zB ?_ ?_ <;> intro h <;> try exact zk h
    | (show _ = _; first | (simp_all [isNonterm]; done) | (simp_all [isNonterm]; omega))
    | fail)
def letterF (c : Int) : Bool := (decide (97 ≤ c) && decide (c ≤ 122)) || (decide (65 ≤ c) && decide (c ≤ 90))
def digitF (c : Int) : Bool := decide (48 ≤ c) && decide (c ≤ 57)
def badAt (s : List Nat) (i : Nat) : Prop := ∃ c : Nat, s[i]? = some c ∧ letterF c = false ∧ (i = 0 ∨ (digitF c = false ∧ (c : Int) ≠ 95))
open Classical in
def wordF (s : List Nat) : Int := if s = [] then 5 else if ∃ i, badAt s i then 3 else if 12 < s.length then 4 else 0
def wLook : List Nat := [108, 111, 111, 107, 97, 104, 101, 97, 100]
def wToken : List Nat := [116, 111, 107, 101, 110]
def wSep : List Nat := [115, 101, 112, 97, 114, 97, 116, 111, 114]
def wStart : List Nat := [115, 116, 97, 114, 116]
def languageF (s : List Nat) : Bool := decide (s = wLook ∨ s = wToken ∨ s = wSep ∨ s = wStart)
def nameF (s : List Nat) : Int := if wordF s = 0 ∧ languageF s = true then 12 else wordF s
theorem letter (c : Int) : KnownCall Try.prog 112 [.int .i32 c] (.d (.bool (letterF c))) := by
  refine kF Try.func112 [] fun w => ?_
  repeat' (first
    | refine zW ?_
    | refine zB ?_ ?_ <;> intro h <;> try exact zk h
    | (show _ = _; first | (simp_all [letterF]; done) | (simp_all [letterF]; omega))
    | fail)
theorem digit (c : Int) : KnownCall Try.prog 113 [.int .i32 c] (.d (.bool (digitF c))) := by
  refine kF Try.func113 [] fun w => ?_
  repeat' (first
    | refine zW ?_
    | refine zB ?_ ?_ <;> intro h <;> try exact zk h
    | (show _ = _; first | (simp_all [digitF]; done) | (simp_all [digitF]; omega))
    | fail)
theorem wordF_bad {s : List Nat} (hs : s ≠ []) {i : Nat} (h : badAt s i) : wordF s = 3 := by
  unfold wordF
  rw [if_neg hs, if_pos ⟨i, h⟩]
theorem wordF_good {s : List Nat} (hs : s ≠ []) (h : ∀ i, ¬ badAt s i) : wordF s = if 12 < s.length then 4 else 0 := by
  unfold wordF
  rw [if_neg hs, if_neg (fun ⟨i, hi⟩ => h i hi)]
theorem word (s : List Nat) (hl : s.length ≤ 1099511627776) : KnownCall Try.prog 109 [.str s] (.d (.int .i64 (wordF s))) := by
  refine kF Try.func109 [] fun w => ?_
  repeat' (first
    | refine zW ?_
    | refine zB ?_ ?_ <;> intro h <;> try exact zk h
    | (show _ = _; simp_all [wordF])
    | fail)
  have hs : s ≠ [] := by simpa using h
  refine Run.loop (fun i : Nat => ⟨PT.ofList [(0, .d (.str s)), (8, .bp 0 0)], [.sit s i], []⟩) (fun i => i ≤ s.length ∧ ∀ j, j < i → ¬ badAt s j) (fun i => s.length - i) 0 ⟨Nat.zero_le _, fun j hj => by omega⟩ (weak_of ⟨rfl, rfl, trivial⟩) (fun i hi => ?_)
  obtain ⟨hi1, hi2⟩ := hi
  rcases Nat.lt_or_ge i s.length with hlt | hge
  · obtain ⟨c, hc⟩ := get_ok hlt
    have hbad : badAt s i ↔ letterF c = false ∧ (i = 0 ∨ (digitF c = false ∧ (c : Int) ≠ 95)) := ⟨fun ⟨c', h1, h2⟩ => by rw [hc] at h1; cases h1; exact h2, fun h => ⟨c, hc, h⟩⟩
    rcases Nat.lt_or_ge c 128 with h8 | h8
    · have hd := decL_ascii hc h8
      repeat' (first
        | refine zW ?_
        | refine zB ?_ ?_ <;> intro h <;> try exact zk h
        | refine RunOps.next Et_ok (by rfl) (by rfl) (by rfl) hlt hd (by rfl) (by rfl) (by rfl) ?_
        | refine zK (letter _) ?_ ?_ <;> intro h <;> try exact zk h
        | refine zC (letter _) ?_
        | refine zK (digit _) ?_ ?_ <;> intro h <;> try exact zk h
        | refine zC (digit _) ?_
        | (show _ = _; rw [wordF_bad hs (i := i) (hbad.2 (by simp_all))])
        | (exact ⟨i + 1, ⟨by omega, fun j hj => by rcases Nat.lt_succ_iff_lt_or_eq.1 hj with h | h; exact hi2 j h; subst h; rw [hbad]; simp_all⟩, by omega, weak_of' (by rfl) rfl ⟨(by kernel_rfl), (by kernel_rfl), trivial⟩⟩)
        | fail)
    · have hd := decL_high hc h8
      obtain ⟨r, n, hrn⟩ : ∃ r n, decL s i = (r, n) := ⟨_, _, rfl⟩
      rw [hrn] at hd
      have hb : badAt s i := hbad.2 ⟨by simp [letterF]; omega, .inr ⟨by simp [digitF]; omega, by omega⟩⟩
      have hr1 : letterF r = false := by simp [letterF]; simp at hd; omega
      have hr2 : digitF r = false := by simp [digitF]; simp at hd; omega
      have hr3 : (r : Int) ≠ 95 := by simp at hd; omega
      repeat' (first
        | refine zW ?_
        | refine zB ?_ ?_ <;> intro h <;> try exact zk h
        | refine RunOps.next Et_ok (by rfl) (by rfl) (by rfl) hlt hrn (by rfl) (by rfl) (by rfl) ?_
        | refine zK (letter _) ?_ ?_ <;> intro h <;> try exact zk h
        | refine zC (letter _) ?_
        | refine zK (digit _) ?_ ?_ <;> intro h <;> try exact zk h
        | refine zC (digit _) ?_
        | (show _ = _; rw [wordF_bad hs (i := i) hb])
        | (exfalso; simp_all)
        | fail)
  · have hge : i = s.length := by omega
    have hall : ∀ j, ¬ badAt s j := fun j hj => by
      by_cases hlt : j < i
      · exact hi2 j hlt hj
      · obtain ⟨c, h1, _⟩ := hj
        rw [List.getElem?_eq_none (by omega)] at h1; cases h1
    repeat' (first
      | refine zW ?_
      | refine zB ?_ ?_ <;> intro h <;> try exact zk h
      | refine RunOps.nextEnd Et_ok (by rfl) (by rfl) (by rfl) (Nat.le_of_eq hge.symm) (by rfl) (by rfl) ?_
      | (show _ = _; rw [wordF_good hs hall]; first | (simp_all [] <;> fail) | (simp_all []; omega))
      | fail)
theorem all_succ {p : Nat → Prop} {i : Nat} (h : ∀ j, j < i → p j) (h' : p i) : ∀ j, j < i + 1 → p j := fun j hj => by
  rcases Nat.lt_succ_iff_lt_or_eq.1 hj with h1 | h1
  · exact h j h1
  · exact h1 ▸ h'
def findF (l : List (List Nat)) (s : List Nat) : Int := if s ∈ l then (l.idxOf s : Nat) else -1
theorem findF_at {l : List (List Nat)} {s : List Nat} {i : Nat} (h : l[i]? = some s) (hb : ∀ j, j < i → l[j]? ≠ some s) : findF l s = i := by
  have hm : s ∈ l := List.mem_of_getElem? h
  have hi : i < l.length := (List.getElem?_eq_some_iff.1 h).1
  have h1 : l.idxOf s < l.length := List.idxOf_lt_length_iff.2 hm
  have h2 : l[l.idxOf s]? = some s := by rw [List.getElem?_eq_getElem h1, List.getElem_idxOf h1]
  have h3 : ¬ l.idxOf s < i := fun hlt => hb _ hlt h2
  have h4 : ¬ i < l.idxOf s := fun hlt => by
    have := List.not_of_lt_findIdx hlt
    have e : l[i] = s := (List.getElem?_eq_some_iff.1 h).2
    simp [e] at this
  rw [findF, if_pos hm]; omega
theorem findF_none {l : List (List Nat)} {s : List Nat} (hb : ∀ j, j < l.length → l[j]? ≠ some s) : findF l s = -1 := by
  rw [findF, if_neg]
  intro hm
  obtain ⟨i, hi, e⟩ := List.getElem_of_mem hm
  exact hb i hi (by rw [List.getElem?_eq_getElem hi, e])
theorem index (l : List (List Nat)) (s : List Nat) (hl : l.length ≤ 1099511627776) : KnownCall Try.prog 115 [strs l, .str s] (.d (.int .i64 (findF l s))) := by
  refine kF Try.func115 [] fun w => ?_
  repeat' (first
    | refine zW ?_
    | refine zB ?_ ?_ <;> intro h <;> try exact zk h
    | fail)
  refine Run.loop (fun i : Nat => ⟨PT.ofList [(7, .d (.int .i64 ((l.map DV.str).length : Nat))), (0, .d (strs l)), (1, .d (.str s)), (8, .d (.int .i64 i))], [], []⟩) (fun i => i ≤ l.length ∧ ∀ j, j < i → l[j]? ≠ some s) (fun i => l.length - i) 0 ⟨Nat.zero_le _, fun j hj => by omega⟩ (weak_of (by repeat' (first | exact trivial | refine ⟨rfl, ?_⟩))) (fun i hi => ?_)
  obtain ⟨hi1, hi2⟩ := hi
  rcases Nat.lt_or_ge i l.length with hlt | hge
  · obtain ⟨x, hx⟩ := get_ok hlt
    repeat' (first
      | refine zW ?_
      | refine zB ?_ ?_ <;> intro h <;> try exact zk h
      | refine zI w (.d (.ep [.str x])) hx ?_
      | (show _ = _; rw [findF_at (i := i) (by simp_all) hi2])
      | (exact ⟨i + 1, ⟨by omega, all_succ hi2 (by rw [hx]; intro e; simp_all)⟩, by omega, weak_of (by repeat' (first | exact trivial | refine ⟨rfl, ?_⟩ | refine ⟨(inc_get (k := i) (by kernel_rfl) (by omega)), ?_⟩))⟩)
      | fail)
  · have hge : i = l.length := by omega
    repeat' (first
      | refine zW ?_
      | refine zB ?_ ?_ <;> intro h <;> try exact zk h
      | (show _ = _; rw [findF_none (fun j hj => hi2 j (by omega))])
      | fail)
abbrev wordsA : List AV := [.d (.str wLook), .d (.str wToken), .d (.str wSep), .d (.str wStart)]
theorem indexW (s : List Nat) : ACall Try.prog 115 [.bs 0 0 4 4, .d (.str s)] [.box wordsA] (.d (.int .i64 (findF [wLook, wToken, wSep, wStart] s))) [.box wordsA] := by
  have w : Fz [] := trivial
  refine acall_of_run Et_ok (fnB Try.func115 []) rfl rfl ?_
  repeat' (first
    | refine zW ?_
    | refine zB ?_ ?_ <;> intro h <;> try exact zk h
    | fail)
  refine Run.loop (fun i : Nat => ⟨PT.ofList [(0, .bs 0 0 4 4), (1, .d (.str s)), (7, .d (.int .i64 4)), (8, .d (.int .i64 i))], [.box wordsA], []⟩) (fun i => i ≤ 4 ∧ ∀ j, j < i → [wLook, wToken, wSep, wStart][j]? ≠ some s) (fun i => 4 - i) 0 ⟨Nat.zero_le _, fun j hj => by omega⟩ (weak_of (by repeat' (first | exact trivial | refine ⟨rfl, ?_⟩))) (fun i hi => ?_)
  obtain ⟨hi1, hi2⟩ := hi
  have hcase : i = 0 ∨ i = 1 ∨ i = 2 ∨ i = 3 ∨ i = 4 := by omega
  rcases hcase with h | h | h | h | h <;> subst h
  · repeat' (first
      | refine zW ?_
      | refine zB ?_ ?_ <;> intro h <;> try exact zk h
      | (exact ⟨1, ⟨by omega, all_succ hi2 (fun e => by simp at e; subst e; simp at h)⟩, by omega, weak_of (by repeat' (first | exact trivial | refine ⟨rfl, ?_⟩))⟩)
      | fail)
    have hs : s = wLook := by simpa using h
    refine Run.ret ?_
    refine ⟨trivial, rfl, Eq.trans (b := some (.d (.int .i64 0))) (by rfl) ?_⟩
    rw [findF_at (i := 0) (by rw [hs]; rfl) hi2]; rfl
  · repeat' (first
      | refine zW ?_
      | refine zB ?_ ?_ <;> intro h <;> try exact zk h
      | (exact ⟨2, ⟨by omega, all_succ hi2 (fun e => by simp at e; subst e; simp at h)⟩, by omega, weak_of (by repeat' (first | exact trivial | refine ⟨rfl, ?_⟩))⟩)
      | fail)
    have hs : s = wToken := by simpa using h
    refine Run.ret ?_
    refine ⟨trivial, rfl, Eq.trans (b := some (.d (.int .i64 1))) (by rfl) ?_⟩
    rw [findF_at (i := 1) (by rw [hs]; rfl) hi2]; rfl
  · repeat' (first
      | refine zW ?_
      | refine zB ?_ ?_ <;> intro h <;> try exact zk h
      | (exact ⟨3, ⟨by omega, all_succ hi2 (fun e => by simp at e; subst e; simp at h)⟩, by omega, weak_of (by repeat' (first | exact trivial | refine ⟨rfl, ?_⟩))⟩)
      | fail)
    have hs : s = wSep := by simpa using h
    refine Run.ret ?_
    refine ⟨trivial, rfl, Eq.trans (b := some (.d (.int .i64 2))) (by rfl) ?_⟩
    rw [findF_at (i := 2) (by rw [hs]; rfl) hi2]; rfl
  · repeat' (first
      | refine zW ?_
      | refine zB ?_ ?_ <;> intro h <;> try exact zk h
      | (exact ⟨4, ⟨by omega, all_succ hi2 (fun e => by simp at e; subst e; simp at h)⟩, by omega, weak_of (by repeat' (first | exact trivial | refine ⟨rfl, ?_⟩))⟩)
      | fail)
    have hs : s = wStart := by simpa using h
    refine Run.ret ?_
    refine ⟨trivial, rfl, Eq.trans (b := some (.d (.int .i64 3))) (by rfl) ?_⟩
    rw [findF_at (i := 3) (by rw [hs]; rfl) hi2]; rfl
  · repeat' (first
      | refine zW ?_
      | refine zB ?_ ?_ <;> intro h <;> try exact zk h
      | fail)
    refine Run.ret ?_
    refine ⟨trivial, rfl, Eq.trans (b := some (.d (.int .i64 (-1)))) (by rfl) ?_⟩
    rw [findF_none (l := [wLook, wToken, wSep, wStart]) hi2]
theorem containsW (s : List Nat) : ACall Try.prog 114 [.bs 0 0 4 4, .d (.str s)] [.box wordsA] (.d (.bool (languageF s))) [.box wordsA] := by
  have w : Fz [] := trivial
  refine acall_of_run Et_ok (fnB Try.func114 []) rfl rfl ?_
  repeat refine zA ?_
  refine RunOps.call (by rfl) (by rfl) (indexW s) (by rfl) (by rfl) ?_
  repeat refine zA ?_
  refine Run.ret ?_
  refine ⟨trivial, rfl, Eq.trans (b := some (.d (.bool (decide (0 ≤ findF [wLook, wToken, wSep, wStart] s))))) (by kernel_rfl) ?_⟩
  by_cases hm : s ∈ [wLook, wToken, wSep, wStart]
  · simp only [findF, if_pos hm]; simp_all [languageF]
  · simp only [findF, if_neg hm]; simp_all [languageF]
theorem language (s : List Nat) : KnownCall Try.prog 110 [.str s] (.d (.bool (languageF s))) := by
  refine kF Try.func110 [] fun w => ?_
  repeat refine zA ?_
  refine RunOps.call (by rfl) (by rfl) (containsW s) (by rfl) (by rfl) ?_
  repeat' (first
    | refine zW ?_
    | refine zB ?_ ?_ <;> intro h <;> try exact zk h
    | rfl
    | fail)
theorem check03 (s : List Nat) (hl : s.length ≤ 1099511627776) : KnownCall Try.prog 96 [.str s] (.d (.int .i64 (nameF s))) := by
  refine kF Try.func96 [] fun w => ?_
  repeat' (first
    | refine zW ?_
    | refine zB ?_ ?_ <;> intro h <;> try exact zk h
    | refine zK (word _ hl) ?_ ?_ <;> intro h <;> try exact zk h
    | refine zC (word _ hl) ?_
    | refine zK (language _) ?_ ?_ <;> intro h <;> try exact zk h
    | refine zC (language _) ?_
    | (show _ = _; first | (simp_all [nameF] <;> fail) | (simp_all [nameF]; omega))
    | fail)
def smallF (s : List Nat) : Bool := decide (nameF s = 0) && decide (97 ≤ s.getD 0 0)
def capitalF (s : List Nat) : Bool := decide (nameF s = 0) && decide (s.getD 0 0 < 97)
theorem name_first {s : List Nat} (h : nameF s = 0) : ∃ c : Nat, s[0]? = some c ∧ letterF c = true := by
  have hw : wordF s = 0 := by
    unfold nameF at h
    split at h
    · omega
    · exact h
  have hs : s ≠ [] := fun e => by simp [wordF, e] at hw
  obtain ⟨c, hc⟩ := get_ok (l := s) (i := 0) (List.length_pos_iff.2 hs)
  refine ⟨c, hc, ?_⟩
  cases hl : letterF c with
  | true => rfl
  | false => rw [wordF_bad hs ⟨c, hc, hl, .inl rfl⟩] at hw; omega
theorem letter_range {c : Nat} (h : letterF c = true) : (97 ≤ c ∧ c ≤ 122) ∨ (65 ≤ c ∧ c ≤ 90) := by simp [letterF] at h; omega
theorem small (s : List Nat) (hl : s.length ≤ 1099511627776) : KnownCall Try.prog 75 [.str s] (.d (.bool (smallF s))) := by
  refine kF Try.func75 [] fun w => ?_
  by_cases h0 : nameF s = 0
  · obtain ⟨c, hc, hlet⟩ := name_first h0
    have hr := letter_range hlet
    have hlt : 0 < s.length := (List.getElem?_eq_some_iff.1 hc).1
    have hg : s.getD 0 0 = c := by simp [List.getD_eq_getElem?_getD, hc]
    repeat' (first
      | refine zW ?_
      | refine zB ?_ ?_ <;> intro h <;> try exact zk h
      | refine zK (check03 _ hl) ?_ ?_ <;> intro h <;> try exact zk h
      | refine zC (check03 _ hl) ?_
      | refine zI w (.d (.int .u8 c)) hc ?_
      | (show _ = _; first | (simp_all [smallF] <;> fail) | (simp_all [smallF]; omega))
      | fail)
  · repeat' (first
      | refine zW ?_
      | refine zB ?_ ?_ <;> intro h <;> try exact zk h
      | refine zK (check03 _ hl) ?_ ?_ <;> intro h <;> try exact zk h
      | refine zC (check03 _ hl) ?_
      | (show _ = _; first | (simp_all [smallF] <;> fail) | (simp_all [smallF]; omega))
      | fail)
theorem capital (s : List Nat) (hl : s.length ≤ 1099511627776) : KnownCall Try.prog 76 [.str s] (.d (.bool (capitalF s))) := by
  refine kF Try.func76 [] fun w => ?_
  by_cases h0 : nameF s = 0
  · obtain ⟨c, hc, hlet⟩ := name_first h0
    have hr := letter_range hlet
    have hlt : 0 < s.length := (List.getElem?_eq_some_iff.1 hc).1
    have hg : s.getD 0 0 = c := by simp [List.getD_eq_getElem?_getD, hc]
    repeat' (first
      | refine zW ?_
      | refine zB ?_ ?_ <;> intro h <;> try exact zk h
      | refine zK (check03 _ hl) ?_ ?_ <;> intro h <;> try exact zk h
      | refine zC (check03 _ hl) ?_
      | refine zI w (.d (.int .u8 c)) hc ?_
      | (show _ = _; first | (simp_all [capitalF] <;> fail) | (simp_all [capitalF]; omega))
      | fail)
  · repeat' (first
      | refine zW ?_
      | refine zB ?_ ?_ <;> intro h <;> try exact zk h
      | refine zK (check03 _ hl) ?_ ?_ <;> intro h <;> try exact zk h
      | refine zC (check03 _ hl) ?_
      | (show _ = _; first | (simp_all [capitalF] <;> fail) | (simp_all [capitalF]; omega))
      | fail)
def smalls (g : Gram) : List (List Nat) := g.tokens ++ [g.sep]
open Classical in
def namedF (g : Gram) : Int := if (∃ s ∈ smalls g, smallF s = false) ∨ ∃ s ∈ g.names, capitalF s = false then 12 else 0
theorem slicesAll (ps : List GProd) : KnownCall Try.prog 95 [.sl 2 (ps.map encP)] (.d (allProdsF ps)) := by
  refine kF Try.func95 [1] fun w => ?_
  repeat refine zA ?_
  refine Run.ret ?_
  refine ⟨trivial, _, _, by rfl, by rfl, Eq.trans (b := some (.d (allProdsF ps))) (by kernel_rfl) ?_⟩
  rfl
theorem prodsOf (g : Gram) : KnownCall Try.prog 74 [encG g] (.d (allProdsF g.prods)) := by
  refine kF Try.func74 [1] fun w => ?_
  repeat refine zA ?_
  first | refine RunOps.call (by rfl) (by rfl) (slicesAll g.prods _) (by rfl) (by rfl) ?_ | refine EvD.call (by rfl) (by rfl) (by rfl) (slicesAll g.prods) (by rfl) (by rfl) ?_
  repeat refine zA ?_
  refine Run.ret ?_
  refine ⟨trivial, _, _, by rfl, by rfl, Eq.trans (b := some (.d (allProdsF g.prods))) (by kernel_rfl) ?_⟩
  rfl
def manyF (g : Gram) : Int := if 8 < g.tokens.length ∨ 8 < g.names.length ∨ 24 < g.prods.length ∨ ∃ p ∈ g.prods, 6 < p.right.length then 6 else 0
theorem many (g : Gram) (hf : Fits g) : KnownCall Try.prog 56 [encG g] (.d (.int .i64 (manyF g))) := by
  refine kF Try.func56 [1] fun w => ?_
  refine Run.seq (Run.region ?_)
  iterate 2 refine zX ?_
  refine RunOps.nil ?_
  refine Run.seq (Run.seq (Run.region ?_))
  iterate 3 refine zX ?_
  by_cases h1 : 8 < g.tokens.length
  · first | refine oV (v := .d (.bool true)) ?_ (he := (by simp; omega)) | refine eX (v := .d (.bool true)) ?_ (he := (by simp; omega))
    repeat refine zA ?_
    refine Run.cond (b := true) (by rfl) (fun _ => ?_) (fun h => by cases h)
    repeat refine zA ?_
    refine Run.ret ?_
    refine ⟨trivial, _, _, by rfl, by rfl, Eq.trans (b := some (.d (.int .i64 6))) (by kernel_rfl) ?_⟩
    simp [manyF, h1]
  · first | refine oV (v := .d (.bool false)) ?_ (he := (by simp; omega)) | refine eX (v := .d (.bool false)) ?_ (he := (by simp; omega))
    iterate 4 refine zX ?_
    by_cases h2 : 8 < g.names.length
    · first | refine oV (v := .d (.bool true)) ?_ (he := (by simp; omega)) | refine eX (v := .d (.bool true)) ?_ (he := (by simp; omega))
      repeat refine zA ?_
      refine Run.cond (b := true) (by rfl) (fun _ => ?_) (fun h => by cases h)
      repeat refine zA ?_
      refine Run.ret ?_
      refine ⟨trivial, _, _, by rfl, by rfl, Eq.trans (b := some (.d (.int .i64 6))) (by kernel_rfl) ?_⟩
      simp [manyF, h2]
    · first | refine oV (v := .d (.bool false)) ?_ (he := (by simp; omega)) | refine eX (v := .d (.bool false)) ?_ (he := (by simp; omega))
      iterate 5 refine zX ?_
      by_cases h3 : 24 < g.prods.length
      · first | refine oV (v := .d (.bool true)) ?_ (he := (by simp; omega)) | refine eX (v := .d (.bool true)) ?_ (he := (by simp; omega))
        repeat refine zA ?_
        refine Run.cond (b := true) (by rfl) (fun _ => ?_) (fun h => by cases h)
        repeat refine zA ?_
        refine Run.ret ?_
        refine ⟨trivial, _, _, by rfl, by rfl, Eq.trans (b := some (.d (.int .i64 6))) (by kernel_rfl) ?_⟩
        simp [manyF, h3]
      · first | refine oV (v := .d (.bool false)) ?_ (he := (by simp; omega)) | refine eX (v := .d (.bool false)) ?_ (he := (by simp; omega))
        repeat refine zA ?_
        refine Run.cond (b := false) (by rfl) (fun h => by cases h) (fun _ => ?_)
        repeat refine zA ?_
        first | refine RunOps.call (by rfl) (by rfl) (prodsOf g _) (by rfl) (by rfl) ?_ | refine EvD.call (by rfl) (by rfl) (by rfl) (prodsOf g) (by rfl) (by rfl) ?_
        repeat refine zA ?_
        obtain ⟨n, hn⟩ : ∃ n, n = g.prods.findIdx (fun p => decide (6 < p.right.length)) := ⟨_, rfl⟩
        have hidx : n ≤ g.prods.length := by rw [hn]; exact List.findIdx_le_length
        have hcase : n < g.prods.length ∨ n = g.prods.length := by omega
        refine Run.rangeProds (frz := [1]) 1 (fun _ => [.box [.d (.int .i64 0)]]) g.prods (Nat.le_trans hf.prods (by decide)) (by rfl) (fun _ => rfl) (fun _ => rfl) (by kernel_rfl) n hidx (fun k p hk hp => ?_) ?_
        · have hgood : ¬ 6 < p.right.length := by
            rw [hn] at hk
            have := List.not_of_lt_findIdx hk
            have e : g.prods[k] = p := by rw [List.getElem?_eq_some_iff] at hp; exact hp.2
            simpa [e] using this
          refine ayield_of_run (i := 2) (by rfl) (by rfl) (by rfl) ?_
          repeat refine zA ?_
          refine ⟨rfl, _, _, _, _, _, _, _, by rfl, ?_⟩
          refine Run.less ?_
          repeat refine zA ?_
          refine Run.cond (by rfl) (fun h => ?_) (fun h => ?_)
          · simp at h; omega
          · repeat refine zA ?_
            exact ⟨rfl, _, less_of [] 3 rfl (by rfl) trivial trivial (by kernel_rfl) rfl, _, _, _, _, _, _, _, _, by rfl, rfl, by rfl⟩
        · rcases hcase with hlt | hge
          · obtain ⟨p, hp⟩ := get_ok hlt
            have hbad : 6 < p.right.length := by
              rw [hn] at hp hlt
              have := List.findIdx_getElem (p := fun p : GProd => decide (6 < p.right.length)) (xs := g.prods) (w := hlt)
              have e : g.prods[g.prods.findIdx fun p => decide (6 < p.right.length)] = p := by rw [List.getElem?_eq_some_iff] at hp; exact hp.2
              rw [e] at this
              simpa using this
            refine .inr ⟨p, [.box [.d (.int .i64 6)]], hp, rfl, .inl ⟨?_, ?_⟩⟩
            · refine ayield_of_run (i := 2) (by rfl) (by rfl) (by rfl) ?_
              repeat refine zA ?_
              refine ⟨rfl, _, _, _, _, _, _, _, by rfl, ?_⟩
              refine Run.less ?_
              repeat refine zA ?_
              refine Run.cond (by rfl) (fun h => ?_) (fun h => ?_)
              · repeat refine zA ?_
                refine Run.ret ?_
                exact ⟨rfl, _, less_of [] 3 rfl (by rfl) trivial trivial (by kernel_rfl) rfl, _, _, _, _, _, _, _, _, by rfl, rfl, by rfl⟩
              · simp at h; omega
            · refine ⟨trivial, _, _, by rfl, by rfl, Eq.trans (b := some (.d (.int .i64 6))) (by kernel_rfl) ?_⟩
              have hm : manyF g = 6 := by
                unfold manyF
                rw [if_pos (.inr (.inr (.inr ⟨p, List.mem_of_getElem? hp, hbad⟩)))]
              rw [hm]
          · refine .inl ⟨hge, ?_⟩
            repeat refine zA ?_
            refine Run.ret ?_
            refine ⟨trivial, _, _, by rfl, by rfl, Eq.trans (b := some (.d (.int .i64 0))) (by kernel_rfl) ?_⟩
            have hm : manyF g = 0 := by
              unfold manyF
              rw [if_neg]
              rintro (h | h | h | ⟨p, hp, h⟩)
              · exact h1 h
              · exact h2 h
              · exact h3 h
              · have := List.findIdx_lt_length_of_exists (xs := g.prods) (p := fun p => decide (6 < p.right.length)) ⟨p, hp, by simpa using h⟩
                omega
            rw [hm]
section
set_option maxRecDepth 10000
end
def namesF (g : Gram) : Int := if namedF g = 0 ∧ (¬ (smalls g).Nodup ∨ ¬ g.names.Nodup) then 8 else namedF g
theorem named_small {g : Gram} {i : Nat} {s : List Nat} (h : (smalls g)[i]? = some s) (h' : smallF s = false) : namedF g = 12 := if_pos (.inl ⟨s, List.mem_of_getElem? h, h'⟩)
theorem named_capital {g : Gram} {i : Nat} {s : List Nat} (h : g.names[i]? = some s) (h' : capitalF s = false) : namedF g = 12 := if_pos (.inr ⟨s, List.mem_of_getElem? h, h'⟩)
theorem named_no {g : Gram} (h1 : ∀ j : Nat, j < (smalls g).length → ∀ s, (smalls g)[j]? = some s → smallF s = true) (h2 : ∀ j : Nat, j < g.names.length → ∀ s, g.names[j]? = some s → capitalF s = true) : namedF g = 0 := by
  refine if_neg ?_
  rintro (⟨s, hs, h⟩ | ⟨s, hs, h⟩)
  · obtain ⟨j, hj, e⟩ := List.getElem_of_mem hs
    have := h1 j hj s (by rw [List.getElem?_eq_getElem hj, e])
    simp [this] at h
  · obtain ⟨j, hj, e⟩ := List.getElem_of_mem hs
    have := h2 j hj s (by rw [List.getElem?_eq_getElem hj, e])
    simp [this] at h
theorem Fits.small {g : Gram} (hf : Fits g) {i : Nat} {s : List Nat} (h : (smalls g)[i]? = some s) : s.length ≤ 1099511627776 := by
  have := List.mem_of_getElem? h
  simp only [smalls, List.mem_append, List.mem_singleton] at this
  rcases this with h | rfl
  · exact Nat.le_trans (hf.tokenS _ h) (by decide)
  · exact Nat.le_trans hf.sep (by decide)
theorem Fits.name {g : Gram} (hf : Fits g) {i : Nat} {s : List Nat} (h : g.names[i]? = some s) : s.length ≤ 1099511627776 := Nat.le_trans (hf.nameS _ (List.mem_of_getElem? h)) (by decide)
end Go.Av
end

/-
  Parts of the way to the law, joined. Conditions stand at each.
-/
import Derived.Test.YtbhonjkfkdeneaaGreatGb2
import Derived.KernelRfl
import Derived.Carry
import Derived.OpenShut
import Derived.SizedLaws
set_option linter.all false
noncomputable section
namespace Go.Av
open Go
section
variable {P:Program} {E:PT Ty} {frz:List Nat} {nt m:Nat} {ro':Option Nat} {K:Ex->S->Prop} {ops:Array Oper} {l:List Oper} {o:Oper} {tm tm' tm1 tm0:PT AV} {objs objs':List Ob} {dl:List Dl} {b:Bool} {ob:Option (List Ob)} {fl:Bool} {s s0:S} {i:Nat} {acc:List Eff} {G:S->Prop} {g:FuncId} {ds:List DV} {r:AV}
theorem eX {v v':AV} (k:EvD P E frz nt ops s0 (i+1) (acc++[qbS (rd tm) objs o ob]) l ⟨tm',objs',dl⟩ G) (hg:qan ops (rd tm) o=some true:=by rfl) (hv:qax E H0 frz (rd tm) objs o=some (v',ob,fl):=by rfl) (hf:fl=true:=by rfl)
  (he:v'=v:=by first|(conv=>lhs;dsimp only)|rfl) (ho:ob.getD objs=objs':=by first|(conv=>lhs;dsimp only [Option.getD])|rfl) (hp:qba v=false:=by rfl) (ht:qa6 nt tm o.dst v=some tm':=by rfl) :
  EvD P E frz nt ops s0 i acc (o :: l) ⟨tm,objs,dl⟩ G:=EvD.x hg hv hf he ho hp ht k
theorem eB (k1:b=true->EvD P E frz nt ops s0 (i+1) (acc++[qbS (rd tm) objs o ob]) l ⟨tm1,objs',dl⟩ G) (k0:b=false->EvD P E frz nt ops s0 (i+1) (acc++[qbS (rd tm) objs o ob]) l ⟨tm0,objs',dl⟩ G) (hb:qjN o.op=true:=by rfl) (hg:qan ops (rd tm) o=some true:=by rfl)
  (hv:qax E H0 frz (rd tm) objs o=some (.d (.bool b),ob,fl):=by rfl) (hf:fl=true:=by rfl) (ho:ob.getD objs=objs':=by first|(conv=>lhs;dsimp only [Option.getD])|rfl) (ht1:qa6 nt tm o.dst (.d (.bool true))=some tm1:=by rfl) (ht0:qa6 nt tm o.dst (.d (.bool false))=some tm0:=by rfl) :
  EvD P E frz nt ops s0 i acc (o :: l) ⟨tm,objs,dl⟩ G:=EvD.xb hb hg hv hf ho ht1 ht0 k1 k0
theorem oS (k:RunOps P nt m ro' ops l ⟨tm',objs,dl⟩ K) (hg:qan ops (rd tm) o=some false:=by rfl) (ht:qa6 nt tm o.dst (.tup [])=some tm':=by rfl):RunOps P nt m ro' ops (o :: l) ⟨tm,objs,dl⟩ K:=RunOps.sx hg ht k
theorem eS (k:EvD P E frz nt ops s0 (i+1) (acc++[.a none]) l ⟨tm',objs,dl⟩ G) (hg:qan ops (rd tm) o=some false:=by rfl) (ht:qa6 nt tm o.dst (.tup [])=some tm':=by rfl):EvD P E frz nt ops s0 i acc (o :: l) ⟨tm,objs,dl⟩ G:=EvD.sx hg ht k
theorem eN (k:G s) (hd:∀ H',qij E H' frz nt ops qcg qcg s0 acc=true:=by intro _;kernel_rfl):EvD P E frz nt ops s0 i acc [] s G:=EvD.nil hd k
theorem cT {c:Operand} {x y:Code} (k:Run P nt m ro' x s K) (hc:rd s.tm c=.d (.bool true):=by rfl):Run P nt m ro' (.cond c x y) s K:=Run.condT hc k
theorem cF {c:Operand} {x y:Code} (k:Run P nt m ro' y s K) (hc:rd s.tm c=.d (.bool false):=by rfl):Run P nt m ro' (.cond c x y) s K:=Run.condF hc k
theorem oC (hK:qaa P g ds r) (k:RunOps P nt m ro' ops l ⟨tm',objs,dl⟩ K) (hg:qan ops (rd tm) o=some true:=by rfl) (hc:qbd (rd tm) o.op=some (g,ds.map .d):=by rfl)
  (hp:qba r=false:=by rfl) (ht:qa6 nt tm o.dst r=some tm':=by rfl):RunOps P nt m ro' ops (o :: l) ⟨tm,objs,dl⟩ K:=RunOps.kc hK hg hc hp ht k
theorem eC (hK:qaa P g ds r) (k:EvD P E frz nt ops s0 (i+1) (acc++[qbS (rd tm) objs o none]) l ⟨tm',objs,dl⟩ G) (hg:qan ops (rd tm) o=some true:=by rfl) (hc:qbd (rd tm) o.op=some (g,ds.map .d):=by rfl) (hh:qfM o.dst frz=false:=by rfl)
  (hp:qba r=false:=by rfl) (ht:qa6 nt tm o.dst r=some tm':=by rfl):EvD P E frz nt ops s0 i acc (o :: l) ⟨tm,objs,dl⟩ G:=EvD.kc hK hg hc hh hp ht k
theorem oK (hK:qaa P g ds (.d (.bool b))) (k1:b=true->RunOps P nt m ro' ops l ⟨tm1,objs,dl⟩ K) (k0:b=false->RunOps P nt m ro' ops l ⟨tm0,objs,dl⟩ K) (hg:qan ops (rd tm) o=some true:=by rfl) (hc:qbd (rd tm) o.op=some (g,ds.map .d):=by rfl)
  (ht1:qa6 nt tm o.dst (.d (.bool true))=some tm1:=by rfl) (ht0:qa6 nt tm o.dst (.d (.bool false))=some tm0:=by rfl):RunOps P nt m ro' ops (o :: l) ⟨tm,objs,dl⟩ K:=RunOps.kb hK hg hc ht1 ht0 k1 k0
theorem eK (hK:qaa P g ds (.d (.bool b))) (k1:b=true->EvD P E frz nt ops s0 (i+1) (acc++[qbS (rd tm) objs o none]) l ⟨tm1,objs,dl⟩ G) (k0:b=false->EvD P E frz nt ops s0 (i+1) (acc++[qbS (rd tm) objs o none]) l ⟨tm0,objs,dl⟩ G) (hg:qan ops (rd tm) o=some true:=by rfl)
  (hc:qbd (rd tm) o.op=some (g,ds.map .d):=by rfl) (hh:qfM o.dst frz=false:=by rfl) (ht1:qa6 nt tm o.dst (.d (.bool true))=some tm1:=by rfl) (ht0:qa6 nt tm o.dst (.d (.bool false))=some tm0:=by rfl) :
  EvD P E frz nt ops s0 i acc (o :: l) ⟨tm,objs,dl⟩ G:=EvD.kb hK hg hc hh ht1 ht0 k1 k0
abbrev qqa (E:PT Ty) (rv:Array ResultVar) (r:AV):Ex->S->Prop:=fun e s=>(match e with|.normal=>True|.ret=>True|_=>False)/\∃ objs' r0,qaX H0 s.dl none s.objs=some (none,objs')/\qaD E ⟨s.tm,objs',[]⟩ rv=some r0/\qbE objs' 8 r0=some r
variable {rv:Array ResultVar} {r0:AV}
theorem rD (r':AV) (k:r'=r) (h1:qaX H0 s.dl none s.objs=some (none,objs'):=by rfl) (h2:qaD E ⟨s.tm,objs',[]⟩ rv=some r0:=by rfl) (h3:qbE objs' 8 r0=some r':=by rfl):qqa E rv r .ret s :=
 ⟨trivial,_,_,h1,h2,by rw [h3,k]⟩
theorem rB {x:Bool} (k:AV.d (.bool x)=r) (h1:qaX H0 s.dl none s.objs=some (none,objs'):=by rfl) (h2:qaD E ⟨s.tm,objs',[]⟩ rv=some r0:=by rfl) (h3:qbE objs' 8 r0=some (.d (.bool x)):=by rfl):qqa E rv r .ret s:=rD _ k h1 h2 h3
theorem rI {x:IntKind} {y:Int} (k:AV.d (.int x y)=r) (h1:qaX H0 s.dl none s.objs=some (none,objs'):=by rfl) (h2:qaD E ⟨s.tm,objs',[]⟩ rv=some r0:=by rfl) (h3:qbE objs' 8 r0=some (.d (.int x y)):=by rfl):qqa E rv r .ret s:=rD _ k h1 h2 h3
theorem rA {x:List DV} (k:AV.d (.agg x)=r) (h1:qaX H0 s.dl none s.objs=some (none,objs'):=by rfl) (h2:qaD E ⟨s.tm,objs',[]⟩ rv=some r0:=by rfl) (h3:qbE objs' 8 r0=some (.d (.agg x)):=by rfl):qqa E rv r .ret s:=rD _ k h1 h2 h3
theorem rII {x x':IntKind} {y y':Int} (k:AV.tup [.d (.int x y),.d (.int x' y')]=r) (h1:qaX H0 s.dl none s.objs=some (none,objs'):=by rfl) (h2:qaD E ⟨s.tm,objs',[]⟩ rv=some r0:=by rfl) (h3:qbE objs' 8 r0=some (.tup [.d (.int x y),.d (.int x' y')]):=by rfl):qqa E rv r .ret s:=rD _ k h1 h2 h3
theorem rSI {x':IntKind} {y:List Nat} {y':Int} (k:AV.tup [.d (.str y),.d (.int x' y')]=r) (h1:qaX H0 s.dl none s.objs=some (none,objs'):=by rfl) (h2:qaD E ⟨s.tm,objs',[]⟩ rv=some r0:=by rfl) (h3:qbE objs' 8 r0=some (.tup [.d (.str y),.d (.int x' y')]):=by rfl):qqa E rv r .ret s:=rD _ k h1 h2 h3
theorem rT {x:List AV} (k:AV.tup x=r) (h1:qaX H0 s.dl none s.objs=some (none,objs'):=by rfl) (h2:qaD E ⟨s.tm,objs',[]⟩ rv=some r0:=by rfl) (h3:qbE objs' 8 r0=some (.tup x):=by rfl):qqa E rv r .ret s:=rD _ k h1 h2 h3
theorem rS {x:DV} (k:AV.d x=r) (h1:qaX H0 s.dl none s.objs=some (none,objs'):=by rfl) (h2:qaD E ⟨s.tm,objs',[]⟩ rv=some r0:=by rfl) (h3:qbE objs' 8 r0=some (.d x):=by rfl):qqa E rv r .ret s:=rD _ k h1 h2 h3
abbrev qxt (E:PT Ty) (rv:Array ResultVar) (r:AV):Ex->S->Prop:=fun e s=>(match e with|.normal=>True|.ret=>True|_=>False)/\∃ objs' r0 r1,qaX H0 s.dl none s.objs=some (none,objs')/\qaD E ⟨s.tm,objs',[]⟩ rv=some r0/\qbE objs' 8 r0=some r1/\AvTo r1 r
theorem r2 {r1:AV} (k:AvTo r1 r) (h1:qaX H0 s.dl none s.objs=some (none,objs'):=by rfl) (h2:qaD E ⟨s.tm,objs',[]⟩ rv=some r0:=by rfl) (h3:qbE objs' 8 r0=some r1:=by rfl):qxt E rv r .ret s :=
 ⟨trivial,_,_,_,h1,h2,h3,k⟩
theorem qxY (hE:qbp P E) {f:FuncId} {i:FnI} (hF:qmt P f i) {ds:List DV} {r:AV} (h:Run P i.nt 0 none i.body ⟨qb7 0 (ds.map .d) .nil,[],[]⟩ (qqa E i.results r)) (hlen:(ds.map AV.d).length=i.np:=by rfl) (hle:Nat.ble i.np i.nt=true:=by rfl) :
  qaa P f ds r:=qmy hE hF hlen hle h
theorem qf5 (hE:qbp P E) {f:FuncId} {i:FnI} (hF:qmt P f i) {ds:List DV} {r:AV} (h:Run P i.nt 0 none i.body ⟨qb7 0 (ds.map .d) .nil,[],[]⟩ (qxt E i.results r)) (hlen:(ds.map AV.d).length=i.np:=by rfl) (hle:Nat.ble i.np i.nt=true:=by rfl) :
  qaa P f ds r:=qk6 hE hF hlen hle h
theorem qaq {t:Nat} {k:Nat} (h:tm.get? t=some (.d (.int .i64 (IntKind.i64.wrap ((k+1:Nat):Int))))) (hk:k+1<=1099511627776):tm.get? t=some (.d (.int .i64 ((k+1:Nat):Int))) :=
 h.trans (congrArg (fun n=>some (AV.d (.int .i64 n))) (qaT hk))
end
section
variable {E:PT Ty} {H:Hd} {frz:List Nat} {rd:Operand->AV} {objs:List Ob} {o:Oper} {args:Array Operand} {tys:Array TypeId} {a b:Operand} {ts tx e:TypeId} {yts z:Ty} {i n sz szr szx k:Nat} {es ys:List DV}
theorem qnV (hop:o.op=.call ⟨.builtin .append,args,tys⟩:=by rfl) (ha:args.toList=[a,b]:=by rfl) (ht:tys.toList=[ts,tx]:=by rfl)
  (hv:qk2 o.dst frz=false:=by rfl) (h1:E.get? ts=some yts:=by rfl) (h2:yts.desc=.slice e:=by rfl) (h3:E.get? e=some z:=by rfl) (h4:qeK E z tx (rd b) objs=some (szx,ys):=by rfl) (h5:(Nat.ble 1 z.size && Nat.ble 1 z.bytes)=true:=by rfl) (hk:z.size=k:=by rfl)
  (h6:szx=k\/ys=[]:=by first|rfl|(exact Or.inl rfl)|(exact Or.inr rfl))
  (h7:rd a=.sr i sz es:=by rfl) (h8:objs[i]?=some (.room n szr):=by rfl) (h9:szr=k:=by rfl) (h10:sz=k:=by rfl) (h11:Nat.ble z.bytes 65536=true:=by rfl) (hn:n=es.length:=by first|rfl|(simp [qbT,qdQ]<;>fail)|(simp [qbT,qdQ];omega)) (hlen:es.length+ys.length<=16777216:=by first|(simp [qbT,qdQ]<;>fail)|(simp [qbT,qdQ];omega)) :
  qax E H frz rd objs o=some (.sr i k (es++ys),some (objs.set i (.room (n+ys.length) k)),true):=qqC hop ha ht hv h1 h2 h3 h4 h5 hk h6 h7 h8 h9 h10 h11 hn hlen
theorem qAe (hop:o.op=.call ⟨.builtin .append,args,tys⟩:=by rfl) (ha:args.toList=[a,b]:=by rfl) (ht:tys.toList=[ts,tx]:=by rfl)
  (hv:qk2 o.dst frz=false:=by rfl) (h1:E.get? ts=some yts:=by rfl) (h2:yts.desc=.slice e:=by rfl) (h3:E.get? e=some z:=by rfl) (h4:qeK E z tx (rd b) objs=some (szx,ys):=by rfl) (h5:(Nat.ble 1 z.size && Nat.ble 1 z.bytes)=true:=by rfl) (hk:z.size=k:=by rfl)
  (h6:szx=k\/ys=[]:=by first|rfl|(exact Or.inl rfl)|(exact Or.inr rfl))
  (h7:rd a=.d .nilsl:=by rfl) (h11:Nat.ble z.bytes 65536=true:=by rfl) (hlen:ys.length<=16777216:=by first|(simp [qbT,qdQ]<;>fail)|(simp [qbT,qdQ];omega)) :
  qax E H frz rd objs o=some (.sr objs.length k ys,some (objs++[.room ys.length k]),true):=qpA hop ha ht hv h1 h2 h3 h4 h5 hk h6 h7 h11 hlen
end
section
variable {P:Program} {E:PT Ty} {frz:List Nat} {nt m:Nat} {ro':Option Nat} {K:Ex->S->Prop} {ops:Array Oper} {l:List Oper} {o:Oper} {tm tm' tm1 tm0:PT AV} {objs:List Ob} {dl:List Dl} {b:Bool} {s0:S} {i:Nat} {acc:List Eff} {G:S->Prop} {g:FuncId} {ds:List DV} {args:List AV} {r:AV}
theorem oL (hK:qaa P g ds r) (k:RunOps P nt m ro' ops l ⟨tm',objs,dl⟩ K) (hg:qan ops (rd tm) o=some true:=by rfl) (hc:qbd (rd tm) o.op=some (g,args):=by rfl) (hd:qgf (qhS objs 8) args=some ds:=by rfl) (hf:qjb r=true:=by rfl)
  (hp:qba r=false:=by rfl) (ht:qa6 nt tm o.dst r=some tm':=by rfl):RunOps P nt m ro' ops (o :: l) ⟨tm,objs,dl⟩ K:=RunOps.call hg hc (qeZ hd (hK []) hf) hp ht k
theorem eL (hK:qaa P g ds r) (k:EvD P E frz nt ops s0 (i+1) (acc++[qbS (rd tm) objs o (some objs)]) l ⟨tm',objs,dl⟩ G) (hg:qan ops (rd tm) o=some true:=by rfl) (hc:qbd (rd tm) o.op=some (g,args):=by rfl)
  (hd:qgf (qhS objs 8) args=some ds:=by rfl) (hf:qjb r=true:=by rfl) (hh:qfM o.dst frz=false:=by rfl) (hp:qba r=false:=by rfl) (ht:qa6 nt tm o.dst r=some tm':=by rfl):EvD P E frz nt ops s0 i acc (o :: l) ⟨tm,objs,dl⟩ G :=
 EvD.any (qeA (objs:=objs) (ob:=some objs) (fun o' h=>by cases h;exact qeZ hd (hK []) hf) (fun h=>by cases h)) hg (qc7 hc hh) hp ht k
theorem oLb (hK:qaa P g ds (.d (.bool b))) (k1:b=true->RunOps P nt m ro' ops l ⟨tm1,objs,dl⟩ K) (k0:b=false->RunOps P nt m ro' ops l ⟨tm0,objs,dl⟩ K) (hg:qan ops (rd tm) o=some true:=by rfl) (hc:qbd (rd tm) o.op=some (g,args):=by rfl)
  (hd:qgf (qhS objs 8) args=some ds:=by rfl) (ht1:qa6 nt tm o.dst (.d (.bool true))=some tm1:=by rfl) (ht0:qa6 nt tm o.dst (.d (.bool false))=some tm0:=by rfl):RunOps P nt m ro' ops (o :: l) ⟨tm,objs,dl⟩ K:=by
 cases b with
 |true=>exact oL hK (k1 rfl) hg hc hd rfl rfl ht1
 |false=>exact oL hK (k0 rfl) hg hc hd rfl rfl ht0
theorem eLb (hK:qaa P g ds (.d (.bool b))) (k1:b=true->EvD P E frz nt ops s0 (i+1) (acc++[qbS (rd tm) objs o (some objs)]) l ⟨tm1,objs,dl⟩ G) (k0:b=false->EvD P E frz nt ops s0 (i+1) (acc++[qbS (rd tm) objs o (some objs)]) l ⟨tm0,objs,dl⟩ G)
  (hg:qan ops (rd tm) o=some true:=by rfl) (hc:qbd (rd tm) o.op=some (g,args):=by rfl) (hd:qgf (qhS objs 8) args=some ds:=by rfl) (hh:qfM o.dst frz=false:=by rfl)
  (ht1:qa6 nt tm o.dst (.d (.bool true))=some tm1:=by rfl) (ht0:qa6 nt tm o.dst (.d (.bool false))=some tm0:=by rfl):EvD P E frz nt ops s0 i acc (o :: l) ⟨tm,objs,dl⟩ G:=by
 cases b with
 |true=>exact eL hK (k1 rfl) hg hc hd rfl hh rfl ht1
 |false=>exact eL hK (k0 rfl) hg hc hd rfl hh rfl ht0
end
section
variable {P:Program} {E:PT Ty} {nt m:Nat} {ro':Option Nat} {K:Ex->S->Prop} {ops:Array Oper} {l:List Oper} {o:Oper} {tm tm1 tm0:PT AV} {objs:List Ob} {dl:List Dl}
theorem qnz {w:World} {t e:TypeId} (hu:P.underlying t=some (.slice e)) (a:Option Addr) (n c:Nat) (dd:Nat):(Op.equalIn (dd+1) t (.slice a n c) (.slice none 0 0)).run P w=.ok a.isNone w:=by
 cases a<;>simp [Op.equalIn,run_underlying hu]
theorem qnr {w:World} {t e:TypeId} (hu:P.underlying t=some (.slice e)) (xo yo:Operand) (a:Option Addr) (n c:Nat) :
  (do eqGuard .eql t xo yo (.slice a n c) (.slice none 0 0);binOp .eql t (.slice a n c) (.slice none 0 0)).run P w=.ok (.bool a.isNone) w:=by
 have he:(Op.equal t (.slice a n c) (.slice none 0 0)).run P w=.ok a.isNone w:=by
  exact qnz hu a n c 9999
 have hg:(eqGuard .eql t xo yo (.slice a n c) (.slice none 0 0)).run P w=.ok () w:=by simp [eqGuard]
 have hb:(binOp .eql t (.slice a n c) (.slice none 0 0)).run P w=.ok (.bool a.isNone) w:=by
  unfold binOp;simp [he]
 simp only [Sem.run_bind,hg,Result.andThen_ok,hb]
theorem qAK (hE:qbp P E) {t e:TypeId} {yt:TypeId} {x y:Operand} {d:Ty} {sz:Nat} {es:List DV} (k1:es=[]->RunOps P nt m ro' ops l ⟨tm1,objs,dl⟩ K) (k0:RunOps P nt m ro' ops l ⟨tm0,objs,dl⟩ K)
  (hg:qan ops (rd tm) o=some true:=by rfl) (hop:o.op=.binOp .eql t x y yt:=by rfl) (hd:E.get? t=some d:=by rfl) (hds:d.desc=.slice e:=by rfl) (hx:rd tm x=.d (.sl sz es):=by rfl) (hy:rd tm y=.d .nilsl:=by rfl)
  (ht1:qa6 nt tm o.dst (.d (.bool true))=some tm1:=by rfl) (ht0:qa6 nt tm o.dst (.d (.bool false))=some tm0:=by rfl):RunOps P nt m ro' ops (o :: l) ⟨tm,objs,dl⟩ K:=by
 intro D0 β0 o0 w0 hb0 ro Q a w i hro hl hK hs;have hs0:=hs;obtain⟨D,β,h1,h2,h3⟩:=hs0;have hu:P.underlying t=some (.slice e):=by rw [(hE.ty t d hd).und,hds]
 have hrx:=h2.rd x;have hry:=h2.rd y;simp only at hrx hry;rw [hx] at hrx;rw [hy] at hry;have hi:ops[i]?=some o:=by have:=hl 0 (by simp);simpa using this
 have hl':∀ k:Nat,k<l.length->ops[i+1+k]?=l[k]?:=fun k hk=>by
  have:=hl (k+1) (by simp;omega);rw [show i+1+k=i+(k+1) by omega];simpa using this
 cases hrx with
 |d hrx =>
  cases hry with
  |d hry =>
   generalize hvx:a.eval x=vx at hrx;generalize hvy:a.eval y=vy at hry;cases hry;cases hrx with
   |@sl _ _ ad cap vs g1 g2 g3 g4 g5 g6 g7 =>
    have hrun:qnk P a.eval o w (.bool ad.isNone) w:=.inl (by
     obtain⟨dst,op,ty,pos,after,guard⟩:=o;simp only at hop;subst hop;have:=qnr (w:=w) hu x y ad es.length cap;simp only [execOp,hvx,hvy];simp only [Sem.run_bind] at this |-;simp [this])
    have hgo:∀ b:Bool,b=ad.isNone->∀ tm',qa6 nt tm o.dst (.d (.bool b))=some tm'->RunOps P nt m ro' ops l ⟨tm',objs,dl⟩ K ->
      wpOpsIn (FW ro) 0 P ops Q (List.range' i (o :: l).length) a w:=fun b hb tm' ht k=>by
     subst hb;simp only [List.length_cons,List.range'_succ,wpOpsIn,hi];rw [qdg (fun x=>h2.rd x) hg];simp only [if_true];have hnd:∀ c,o.op≠.defer c:=fun c e=>by rw [hop] at e;cases e
     refine⟨fun _ _=>trivial,?_⟩;rw [Oper.semAt_eq _ _ _ hnd];rcases hrun with hrun|⟨_,h⟩
     .rw [hrun]
      exact k D0 β0 o0 w0 hb0 ro Q _ _ (i+1) hro hl' hK (Sim.put h1 h2 h3 (Step.refl h1.heap) (.d .bool) ht)
     .cases ad<;>cases h
    cases ad with
    |none=>exact hgo true rfl _ ht1 (k1 (g4 rfl).1)
    |some ad=>exact hgo false rfl _ ht0 k0
end
theorem qsU {P:Program} {f:FuncId} {args:List AV} {ty:TypeId} {ag:Bool} {sz n:Nat} {cs:List AV} (h:ACall P f args [] (.vs 0 sz 0 0) [.vec ty ag sz n cs]):ACall P f args [] (.sr 0 sz []) [.room 0 sz]:=by
 refine⟨h.1,fun D β w vs hp hr=>(h.2 D β w vs hp hr).mono fun e w' he=>?_⟩;obtain rfl:β=[]:=List.length_eq_zero_iff.1 hp.len;rcases he with⟨v,D',β',rfl,hs,hv⟩|⟨x,v,D',β',hx,_⟩
 .left
  obtain⟨bi,rfl⟩:∃ bi,β'=[bi]:=by
   have:=hs.heap.len;cases β' with
   |nil=>simp at this
   |cons b l=>cases l with
    |nil=>exact⟨b,rfl⟩
    |cons c l=>simp at this
  obtain⟨a,cap,k1,k2,k3,k4,k5,k6⟩:=hs.heap.hold 0 bi _ rfl rfl;cases hv with
  |@vs _ _ _ _ cap' c bi' a' ad hb hh hc hm hn hx =>
   simp only [List.getElem?_cons_zero,Option.some.injEq] at hb;subst hb;rw [k1] at hh;simp only [Option.some.injEq,Prod.mk.injEq] at hh;obtain⟨rfl,rfl⟩:=hh;obtain⟨hx1,hx2⟩:=hx (.inl rfl)
   let bi2:Bi:=⟨0,fun m=>if m=0 then some (ad,c) else none⟩
   have hcc:c=cap:=by omega
   have hroom:HoldsOb D' [bi2] w' bi2 (.room 0 sz):=by
    refine⟨ad,c,rfl,fun m hm=>by simp only [bi2];rw [if_neg (by omega)],Nat.zero_le _,hm,hn.2.1,fun ad' e=>?_⟩;cases a with
    |none=>rw [e] at hx1;cases hx1
    |some a0 =>
     rw [e] at hx1;simp only [Option.map_some,Option.some.injEq] at hx1;subst hx1;obtain⟨_,vs',T,⟨g1,_⟩,g2,g3,g4,g5⟩:=k6 a0 rfl;refine⟨.inr rfl,fun _=>⟨vs',T,g1,by simp only;rw [hcc];omega,g4,fun j _=>g5 _ rfl⟩⟩
   refine⟨_,D',[bi2],rfl,⟨hs.dsub,hs.dnew,fun i x hx=>by simp at hx,⟨hs.heap.dh,rfl,fun i b ob h1 h2=>?_,fun i j bi bj oi oj b h1 h2 h3 h4 h5 h6=>?_⟩,hs.size,hs.keep,hs.os,hs.tape,hs.output,fun b hb=>?_⟩,.sr (bi:=bi2) rfl rfl ?_⟩
   .cases i with
    |zero=>simp at h1 h2;subst h1 h2;exact hroom
    |succ i=>simp at h1
   .cases i with
    |zero=>cases j with
     |zero=>rfl
     |succ j=>simp at h2
    |succ i=>simp at h1
   .obtain⟨i,b',ob,h1,h2,h3⟩:=hb
    cases i with
    |succ i=>simp at h1
    |zero =>
     simp at h1 h2;subst h1 h2;simp only [qar,bi2,if_pos,Option.bind_some] at h3;refine hs.ownn b ⟨0,bi,_,rfl,rfl,?_⟩;simp only [qar,k1,Option.bind_some];cases hble:Nat.ble c 0 with
     |true=>rw [hble] at h3;cases h3
     |false =>
      rw [hble] at h3;simp only at h3;cases a with
      |none=>rw [hx1] at h3;cases h3
      |some a0 =>
       obtain⟨g0,_⟩:=k6 a0 rfl;rw [hx1] at h3;subst g0;simpa using h3
   .exact .sl (es:=[]) [] (Nat.zero_le _) hm (by simp) (fun e=>⟨rfl,hn.2.1 e⟩) rfl (fun ad' e=>⟨.inr (hn.2.2 ad' e),by simp⟩) (by simp)
 .cases hx
theorem qtI {P:Program} {f:FuncId} {args:List AV} {sz:Nat} (h:ACall P f args [] (.d .nilsl) []):ACall P f args [] (.sr 0 sz []) [.room 0 sz]:=by
 refine⟨h.1,fun D β w vs hp hr=>(h.2 D β w vs hp hr).mono fun e w' he=>?_⟩;rcases he with⟨v,D',β',rfl,hs,hv⟩|⟨x,v,D',β',hx,_⟩
 .left
  cases hv with
  |d hv =>
   cases hv;obtain⟨β2,st,hr2⟩:=qgC hs.heap (sz:=sz) (es:=[]) (A:=none) (.sl (es:=[]) [] (Nat.le_refl _) (Nat.zero_le _) (by simp) (fun _=>⟨rfl,rfl⟩) rfl (fun ad e=>by cases e) (by simp));exact⟨_,D',β2,rfl,hs.trans st,hr2⟩
 .cases hx
theorem Run.mkRoom {P:Program} {nt m:Nat} {ro':Option Nat} {K:Ex->S->Prop} {c:Code} {tm:PT AV} {objs:List Ob} {dl:List Dl} (t sz:Nat) (l:List (Nat × AV)) (ht:tm.get? t=some (.d .nilsl)) (hl:∀ t' v,(PT.ofList l).get? t'=some v->(t'=t/\v=.sr objs.length sz [])\/tm.get? t'=some v)
  (h:Run P nt m ro' c ⟨PT.ofList l,objs++[.room 0 sz],dl⟩ K):Run P nt m ro' c ⟨tm,objs,dl⟩ K:=by
 intro D0 β0 o0 w0 hb0 ro Q a w hro hK hs;obtain⟨D,β,h1,h2,h3⟩:=hs;obtain⟨β2,st,hr2⟩:=qgC h1.heap (sz:=sz) (es:=[]) (A:=none) (.sl (es:=[]) [] (Nat.le_refl _) (Nat.zero_le _) (by simp) (fun _=>⟨rfl,rfl⟩) rfl (fun ad e=>by cases e) (by simp));refine h D0 β0 o0 w0 hb0 ro Q a w hro hK ⟨D,β2,h1.trans st,?_,h3.mono st.dsub st.bext⟩;have h2m:=h2.mono st.dsub st.bext;refine⟨h2.1,fun t'=>?_⟩;cases hv:(PT.ofList l).get? t' with
 |none=>exact .d .any
 |some v =>
  rcases hl t' v hv with⟨rfl,rfl⟩|ho
  .have:=h2.2 t'
   simp only at this;rw [ht] at this;cases this with
   |d this =>
    generalize a.tmps.getD t' undef=x at this |-;cases this;exact hr2
  .have:=h2m.2 t'
   simp only at this;rw [ho] at this;exact this
section
variable {P:Program} {E:PT Ty} {frz:List Nat} {nt m:Nat} {ro':Option Nat} {K:Ex->S->Prop} {ops:Array Oper} {l:List Oper} {o:Oper} {tm tm':PT AV} {objs objs':List Ob} {dl:List Dl} {s0:S} {i:Nat} {acc:List Eff} {G:S->Prop} {g:FuncId} {args:List AV} {r:AV}
theorem oA (hA:ACall P g args objs r objs') (k:RunOps P nt m ro' ops l ⟨tm',objs',dl⟩ K) (hg:qan ops (rd tm) o=some true:=by rfl) (hc:qbd (rd tm) o.op=some (g,args):=by rfl)
  (hp:qba r=false:=by rfl) (ht:qa6 nt tm o.dst r=some tm':=by rfl):RunOps P nt m ro' ops (o :: l) ⟨tm,objs,dl⟩ K:=RunOps.call hg hc hA hp ht k
theorem eA (hA:ACall P g args objs r objs') (k:EvD P E frz nt ops s0 (i+1) (acc++[qbS (rd tm) objs o (some objs')]) l ⟨tm',objs',dl⟩ G) (hg:qan ops (rd tm) o=some true:=by rfl) (hc:qbd (rd tm) o.op=some (g,args):=by rfl)
  (hh:qfM o.dst frz=false:=by rfl) (hp:qba r=false:=by rfl) (ht:qa6 nt tm o.dst r=some tm':=by rfl):EvD P E frz nt ops s0 i acc (o :: l) ⟨tm,objs,dl⟩ G :=
 EvD.any (qeA (objs:=objs) (ob:=some objs') (fun o' h=>by cases h;exact hA) (fun h=>by cases h)) hg (qc7 hc hh) hp ht k
end
def dvS:AV->Option DV
 |.d x=>some x
 |.sr _ sz es=>some (.sl sz es)
 |_=>none
theorem qlx {P:Program} {f:FuncId} {args:List AV} {objs:List Ob} {ds:List DV} {r:AV} (hd:qgf dvS args=some ds) (h:qaa P f ds r):ACall P f args objs r objs:=by
 refine⟨(h objs).1,fun D β w vs hp hv=>(h objs).2 D β w vs hp ?_⟩;obtain⟨l1,l2⟩:=qhf hd;refine⟨by rw [hv.1];simp [l1],fun j c v hc hv'=>?_⟩;simp only [List.getElem?_map,Option.map_eq_some_iff] at hc;obtain⟨d,hd',rfl⟩:=hc;obtain⟨x,hx,hfx⟩:=l2 j d hd';have hr:=hv.2 j x v hx hv';cases x<;>simp only [dvS,Option.some.injEq,reduceCtorEq] at hfx
 .subst hfx;exact hr
 .subst hfx;exact qgW hr
section
variable {P:Program} {E:PT Ty} {frz:List Nat} {nt m:Nat} {ro':Option Nat} {K:Ex->S->Prop} {ops:Array Oper} {l:List Oper} {o:Oper} {tm tm':PT AV} {objs:List Ob} {dl:List Dl} {s0:S} {i:Nat} {acc:List Eff} {G:S->Prop} {g:FuncId} {ds:List DV} {args:List AV} {r:AV}
theorem oM (hK:qaa P g ds r) (k:RunOps P nt m ro' ops l ⟨tm',objs,dl⟩ K) (hg:qan ops (rd tm) o=some true:=by rfl) (hc:qbd (rd tm) o.op=some (g,args):=by rfl) (hd:qgf dvS args=some ds:=by rfl)
  (hp:qba r=false:=by rfl) (ht:qa6 nt tm o.dst r=some tm':=by rfl):RunOps P nt m ro' ops (o :: l) ⟨tm,objs,dl⟩ K:=RunOps.call hg hc (qlx hd hK) hp ht k
theorem eM (hK:qaa P g ds r) (k:EvD P E frz nt ops s0 (i+1) (acc++[qbS (rd tm) objs o (some objs)]) l ⟨tm',objs,dl⟩ G) (hg:qan ops (rd tm) o=some true:=by rfl) (hc:qbd (rd tm) o.op=some (g,args):=by rfl)
  (hd:qgf dvS args=some ds:=by rfl) (hh:qfM o.dst frz=false:=by rfl) (hp:qba r=false:=by rfl) (ht:qa6 nt tm o.dst r=some tm':=by rfl):EvD P E frz nt ops s0 i acc (o :: l) ⟨tm,objs,dl⟩ G :=
 EvD.any (qeA (objs:=objs) (ob:=some objs) (fun o' h=>by cases h;exact qlx hd hK) (fun h=>by cases h)) hg (qc7 hc hh) hp ht k
end
theorem Run.nilRow {P:Program} {nt m:Nat} {ro':Option Nat} {K:Ex->S->Prop} {c:Code} {tm:PT AV} {objs:List Ob} {dl:List Dl} (t sz:Nat) (l:List (Nat × AV)) (ht:tm.get? t=some (.d .nilsl)) (hl:∀ t' v,(PT.ofList l).get? t'=some v->(t'=t/\v=.d (.sl sz []))\/tm.get? t'=some v)
  (h:Run P nt m ro' c ⟨PT.ofList l,objs,dl⟩ K):Run P nt m ro' c ⟨tm,objs,dl⟩ K:=by
 intro D0 β0 o0 w0 hb0 ro Q a w hro hK hs;obtain⟨D,β,h1,h2,h3⟩:=hs;refine h D0 β0 o0 w0 hb0 ro Q a w hro hK ⟨D,β,h1,⟨h2.1,fun t'=>?_⟩,h3⟩;cases hv:(PT.ofList l).get? t' with
 |none=>exact .d .any
 |some v =>
  have h2t:=h2.2 t';simp only at h2t;rcases hl t' v hv with⟨rfl,rfl⟩|ho
  .rw [ht] at h2t
   cases h2t with
   |d h2t=>exact .d (DvTo.nil.rep h2t)
  .rw [ho] at h2t
   exact h2t
theorem RunOps.nilRow {P:Program} {nt m:Nat} {ro':Option Nat} {K:Ex->S->Prop} {ops:Array Oper} {lo:List Oper} {tm:PT AV} {objs:List Ob} {dl:List Dl} (t sz:Nat) (l:List (Nat × AV)) (ht:tm.get? t=some (.d .nilsl)) (hl:∀ t' v,(PT.ofList l).get? t'=some v->(t'=t/\v=.d (.sl sz []))\/tm.get? t'=some v)
  (h:RunOps P nt m ro' ops lo ⟨PT.ofList l,objs,dl⟩ K):RunOps P nt m ro' ops lo ⟨tm,objs,dl⟩ K:=by
 intro D0 β0 o0 w0 hb0 ro Q a w i hro hlo hK hs;obtain⟨D,β,h1,h2,h3⟩:=hs;refine h D0 β0 o0 w0 hb0 ro Q a w i hro hlo hK ⟨D,β,h1,⟨h2.1,fun t'=>?_⟩,h3⟩;cases hv:(PT.ofList l).get? t' with
 |none=>exact .d .any
 |some v =>
  have h2t:=h2.2 t';simp only at h2t;rcases hl t' v hv with⟨rfl,rfl⟩|ho
  .rw [ht] at h2t
   cases h2t with
   |d h2t=>exact .d (DvTo.nil.rep h2t)
  .rw [ho] at h2t
   exact h2t
theorem qbW {l:List (Nat × AV)} {Q:Nat->AV->Prop} (h:∀ p ∈ l,Q p.1 p.2):∀ t v,(PT.ofList l).get? t=some v->Q t v:=fun t v hv=>h (t,v) (qcW hv)
def qf9 (w:World):qay:=fun ad=>match w.cell? ad with
 |some v=>if v.oneCell'=true/\ad.spot=none then some v else none
 |none=>none
theorem qjU {w:World} {ad:Addr} {v:Value}:qf9 w ad=some v ↔ w.cell? ad=some v/\v.oneCell'=true/\ad.spot=none:=by
 unfold qf9;cases w.cell? ad with
 |none=>simp
 |some u =>
  by_cases h:u.oneCell'=true/\ad.spot=none
  .simp only [if_pos h,Option.some.injEq]
   refine⟨fun e=>by subst e;exact⟨rfl,h⟩,fun e=>e.1⟩
  .simp only [if_neg h,Option.some.injEq]
   constructor
   .intro e;cases e
   .rintro⟨rfl,h2⟩;exact absurd h2 h
theorem qpj (w:World):Heap (qf9 w) [] [] w :=
 ⟨fun ad v h=>by obtain⟨h1,h2,h3⟩:=qjU.1 h;exact⟨h3,h2,h1⟩,rfl,fun i bi ob hb=>by simp at hb,fun i j bi bj oi oj b hb=>by simp at hb⟩
theorem qlb {D D':qay} {β':List Bi} {objs':List Ob} {w w':World} (h:Step D [] [] w D' β' objs' w'):RowKit.Below w.heap.size w w' :=
 ⟨h.os,h.tape,h.output,h.size,fun k hk=>h.keep k hk qbv⟩
theorem calls_with {P:Program} {f:FuncId} {ds:List DV} (h:qaa P f ds (.d (.bool true))) (w:World) (args:Array Value) (hn:args.size=ds.length)
  (hr:∀ (j:Nat) c v,ds[j]?=some c->args[j]?=some v->RepD (qf9 w) c v) :
  Calls P f args w fun e w'=>e=.returned (.bool true)/\(∀ may,w.keptBut w' may)/\RowKit.Below w.heap.size w w':=by
 have h1:=(h []).2 (qf9 w) [] w args (qpj w) ⟨by simpa using hn,fun j c v hc hv=>by
  simp only [List.getElem?_map,Option.map_eq_some_iff] at hc;obtain⟨c',hc',rfl⟩:=hc;exact .d (hr j c' v hc' hv)⟩
 refine(CallsIn.calls h1 ?_).mono fun e w' he=>?_
 .exact fun _ d hd=>(by cases hd)
 .obtain⟨v,D',β',rfl,hs,hv⟩:=he.ret rfl
  cases hv with
  |d hv=>cases hv;exact⟨rfl,fun may=>ql8 hs may,qlb hs⟩
structure CellsRep (D:qay) (x:DV) (cs:List Value):Prop where
 len:(qam x).length=cs.length
 one:∀ v ∈ cs,v.oneCell'=true
 rep:∀ (j:Nat) c v,(qam x)[j]?=some c->cs[j]?=some v->RepD D c v
section
variable {H:Type} {enc:TypeId × Value->H} {P:Program} {w:World} {spare:Nat->Bool} {held:Bool} {fuel:Nat} {t:TypeId} {cs:List Value} {x:DataW H × List MemPlace}
theorem CellsRep.leaf {D:qay} {x:DV} {v:Value} (hx:qam x=[x]) (hv:v.oneCell'=true) (h:RepD D x v):CellsRep D x [v] :=
 ⟨by rw [hx];rfl,fun u hu=>by simp only [List.mem_singleton] at hu;subst hu;exact hv,fun j c u hc hu=>by
  rw [hx] at hc;cases j with
  |zero=>simp at hc hu;subst hc hu;exact h
  |succ j=>simp at hc⟩
theorem qwI {k:IntKind} (ht:P.underlying t=some (.int k)) (h:DataW.trod enc P w 0 spare held fuel t cs=some x):∃ n,CellsRep (qf9 w) (.int k n) cs/\(Lit.int k n).wf=true:=by
 obtain⟨n,rfl,_,hw⟩:=DataW.trod_int ht h;exact⟨n,.leaf rfl rfl .int,hw⟩
theorem qlT {a:Addr} {n:Nat} {r:List Value} (h:w.cells? 0 a n=some r):r.length=n/\∀ j,j<n->w.cell? (a.add j)=r[j]?:=by
 unfold World.cells? at h;rw [if_pos (Nat.zero_le _)] at h;exact⟨by simpa using mapM_some_length h,fun j hj=>mapM_some_get h j j (by simp [hj])⟩
theorem qm2 {a:Addr} {v:Value} (h:w.cell? a=some v):a.spot=none:=(qig h).elim fun _ h=>h.elim fun _ h=>h.elim fun _ h=>h.2.2
theorem qtV {α:Type} (f:α->DV) {e:TypeId} {sz:Nat} (Q:α->Prop) (ht:P.underlying t=some (.slice e)) (hsz:P.cellsOf e=sz) (h1:1<=sz) (hsp:∀ b,spare b=true)
  (elem:∀ (n:Nat) (cs':List Value) (y:DataW H × List MemPlace),cs'.length=sz->DataW.trod enc P w 0 spare held n e cs'=some y->∃ d,CellsRep (qf9 w) (f d) cs'/\Q d)
  (h:DataW.trod enc P w 0 spare held fuel t cs=some x):∃ l:List α,CellsRep (qf9 w) (.sl sz (l.map f)) cs/\l.length<=maxLen/\∀ d ∈ l,Q d:=by
 rcases DataW.trod_slice ht h with⟨rfl,_⟩|⟨a,len,cap,elems,rest,n,rfl,rfl,_,_,hlc,hcm,hel,hget,hrest,_⟩
 .refine⟨[],.leaf rfl rfl ?_,Nat.zero_le _,by simp⟩
  exact .sl (es:=[]) [] (Nat.le_refl _) (Nat.zero_le _) (by simp) (fun _=>⟨rfl,rfl⟩) rfl (fun ad e=>by cases e) (by simp)
 .subst hsz
  have hspot:cap=0\/a.spot=none:=by
   rcases Nat.eq_zero_or_pos cap with h0|h0
   .exact .inl h0
   .right
    have hex:∃ r,w.cells? 0 (a.add 0) (P.cellsOf e)=some r:=by
     rcases Nat.eq_zero_or_pos len with hl|hl
     .obtain⟨hr1,hr2⟩:=hrest (hsp _)
      have h2:=hr2 0 (by omega);rw [List.getElem?_eq_getElem (by omega),show(len+0)*P.cellsOf e=0 from by simp [hl]] at h2;simp only [Option.bind_eq_some_iff] at h2;obtain⟨r,hr,_⟩:=h2;exact⟨r,hr⟩
     .have h2:=hget 0 hl
      rw [List.getElem?_eq_getElem (by omega)] at h2;simp only [Option.bind_eq_some_iff,Nat.zero_mul] at h2;obtain⟨r,hr,_⟩:=h2;exact⟨r,hr⟩
    obtain⟨r,hr⟩:=hex;obtain⟨g1,g2⟩:=qlT hr;have g3:=g2 0 (by omega);rw [List.getElem?_eq_getElem (by omega)] at g3;have:=qm2 g3;simpa [Addr.add] using this
  have hone:∀ i,i<len->∃ d r,CellsRep (qf9 w) (f d) r/\Q d/\r.length=P.cellsOf e/\∀ j,j<P.cellsOf e->w.cell? ((a.add (i*P.cellsOf e)).add j)=r[j]?:=by
   intro i hi;have h2:=hget i hi;rw [List.getElem?_eq_getElem (by omega)] at h2;simp only [Option.bind_eq_some_iff] at h2;obtain⟨r,hr,hy⟩:=h2;obtain⟨g1,g2⟩:=qlT hr;obtain⟨d,hd,hq⟩:=elem n r _ g1 hy;exact⟨d,r,hd,hq,g1,g2⟩
  have hlist:∀ m,m<=len->∃ (l:List α) (vs:List Value),l.length=m/\(∀ d ∈ l,Q d)/\(∀ d ∈ l,(qam (f d)).length=P.cellsOf e)/\vs.length=m*P.cellsOf e/\(qav (l.map f)).length=vs.length /\
    (∀ v ∈ vs,v.oneCell'=true)/\(∀ (j:Nat) v,vs[j]?=some v->w.cell? ⟨a.block,a.off+j,none⟩=some v)/\(∀ (j:Nat) c v,(qav (l.map f))[j]?=some c->vs[j]?=some v->RepD (qf9 w) c v):=by
   intro m
   induction m with
   |zero=>exact fun _=>⟨[],[],rfl,by simp,by simp,by simp,rfl,by simp,by simp,by simp⟩
   |succ m ih =>
    intro hm;obtain⟨l,vs,i1,i2,i3,i4,i5,i6,i7,i8⟩:=ih (by omega);obtain⟨d,r,k1,k2,k3,k4⟩:=hone m (by omega);have hsp0:a.spot=none:=hspot.resolve_left (by omega);have hfl:qav ((l++[d]).map f)=qav (l.map f)++qam (f d):=by simp [qav]
    refine⟨l++[d],vs++r,by simp [i1],?_,?_,by rw [List.length_append,i4,k3,Nat.succ_mul],by rw [hfl,List.length_append,List.length_append,i5,k1.len],?_,?_,?_⟩
    .intro q hq
     rcases List.mem_append.1 hq with hq|hq
     .exact i2 q hq
     .simp only [List.mem_singleton] at hq;subst hq;exact k2
    .intro q hq
     rcases List.mem_append.1 hq with hq|hq
     .exact i3 q hq
     .simp only [List.mem_singleton] at hq;subst hq;rw [k1.len,k3]
    .intro v hv
     rcases List.mem_append.1 hv with hv|hv
     .exact i6 v hv
     .exact k1.one v hv
    .intro j v hv
     rcases Nat.lt_or_ge j vs.length with hj|hj
     .rw [List.getElem?_append_left hj] at hv;exact i7 j v hv
     .rw [List.getElem?_append_right hj] at hv
      have hjr:j-vs.length<r.length:=(List.getElem?_eq_some_iff.1 hv).1;have:=k4 (j-vs.length) (by omega);rw [qaJ hsp0,qaJ rfl,hv] at this;simp only at this;rw [<- this];have:a.off+m*P.cellsOf e+(j-vs.length)=a.off+j:=by omega
      rw [this]
    .intro j c v hc hv
     rw [hfl] at hc;rcases Nat.lt_or_ge j vs.length with hj|hj
     .rw [List.getElem?_append_left hj] at hv
      rw [List.getElem?_append_left (by omega)] at hc;exact i8 j c v hc hv
     .rw [List.getElem?_append_right hj] at hv
      rw [List.getElem?_append_right (by omega),i5] at hc;exact k1.rep _ c v hc hv
  obtain⟨l,vs,i1,i2,i3,i4,i5,i6,i7,i8⟩:=hlist len (Nat.le_refl _);refine⟨l,.leaf rfl rfl ?_,by omega,i2⟩;subst i1;rw [<- List.length_map (as:=l) f];refine .sl vs (by simpa using hlc) hcm (fun y hy=>?_) (fun e=>by cases e) i5.symm (fun ad e=>?_) i8
  .obtain⟨d,hd,rfl⟩:=List.mem_map.1 hy
   exact i3 d hd
  .cases e
   refine⟨hspot,fun j v hj=>qjU.2 ⟨i7 j v hj,i6 v (List.mem_of_getElem? hj),rfl⟩⟩
theorem qsO {D:qay} {x:DV} {v:Value} (hx:qam x=[x]) (h:CellsRep D x [v]):RepD D x v:=h.rep 0 x v (by rw [hx];rfl) rfl
theorem arg_int {r:Reach} {b0:Nat} {k:IntKind} {v:Value} {d:DataW H} {ps:List MemPlace} (ht:P.underlying t=some (.int k)) (hval:Value.okWide P w r b0 t v) (h:DataW.Trod enc P w 0 spare held t v d ps) :
  ∃ n,RepD (qf9 w) (.int k n) v/\(Lit.int k n).wf=true:=by
 obtain⟨n,rfl,_,_,hw⟩:=ChangeShapes.open_int ht hval h;exact⟨n,.int,hw⟩
theorem qpQ {desc:TypeDesc} {r:Reach} {b0:Nat} {v:Value} (ht:P.underlying t=some desc) (hd:desc=.string\/∃ e,desc=.slice e) (hval:Value.okWide P w r b0 t v):v.cells.toList=[v]:=by
 cases v with
 |agg cs=>rcases hd with rfl|⟨e,rfl⟩<;>simp [Value.okWide,ht,Cell.okWide,Cell.ok] at hval
 |_=>rfl
theorem qru {r:Reach} {b0:Nat} {v:Value} {d:DataW H} {ps:List MemPlace} {e:TypeId} {R:List DV->Prop} {sz:Nat} (ht:P.underlying t=some (.slice e)) (hval:Value.okWide P w r b0 t v) (h:DataW.Trod enc P w 0 spare held t v d ps)
  (hc:∀ n x,DataW.trod enc P w 0 spare held n t [v]=some x->∃ es,CellsRep (qf9 w) (.sl sz es) [v]/\R es):∃ es,RepD (qf9 w) (.sl sz es) v/\R es:=by
 obtain⟨n,h⟩:=h;rw [qpQ ht (.inr ⟨e,rfl⟩) hval] at h;obtain⟨es,hs,h1⟩:=hc n _ h;exact⟨es,qsO rfl hs,h1⟩
theorem trodAll_below {W W':World} (hl:laidOutB P=true) (hb:RowKit.Below W.heap.size W W'):∀ {ts:List TypeId} {vs:List Value} {ds:List (DataW H)} {ps:List MemPlace},(ts.all fun t=>P.readableRec t && decide (t<P.types.size))=true ->
  DataW.TrodAll enc P W 0 (fun _=>true) true ts vs ds ps->(∀ p ∈ ps,p.block<W.heap.size)->DataW.TrodAll enc P W' 0 (fun b=>decide (b<W.heap.size)) true ts vs ds ps
 |[],[],[],_,_,h,_=>h
 |t :: ts,v :: vs,d :: ds,_,ht,⟨p,q,h1,h2,e⟩,hlt=>by
  simp only [List.all_cons,Bool.and_eq_true,decide_eq_true_eq] at ht;exact⟨p,q,RowKit.Below.trod hl ht.1.1 ht.1.2 h1 hb (fun y hy=>hlt y (by rw [e];exact List.mem_append_left _ hy)),trodAll_below hl hb ht.2 h2 (fun y hy=>hlt y (by rw [e];exact List.mem_append_right _ hy)),e⟩
end
section
variable {H:Type} {enc:TypeId × Value->H} {P:Program} {w:World} {spare:Nat->Bool} {held:Bool} {fuel:Nat} {t:TypeId} {cs:List Value} {x:DataW H × List MemPlace} {B:Nat}
end
def reA (ρ:Nat->Nat):Nat->AV->AV
 |0,_=>.d .any
 |_+1,.d x=>.d x
 |_+1,.bp i off=>.bp (ρ i) off
 |_+1,.sr i sz es=>.sr (ρ i) sz es
 |_+1,.bs i off len cap=>.bs (ρ i) off len cap
 |_+1,.mp i=>.mp (ρ i)
 |k+1,.agg cs=>.agg (cs.map (reA ρ k))
 |k+1,.tup cs=>.tup (cs.map (reA ρ k))
 |_+1,.vs i sz lo len=>.vs (ρ i) sz lo len
 |_+1,_=>.d .any
def reO (ρ:Nat->Nat):Ob->Ob
 |.box cs=>.box (cs.map (reA ρ 8))
 |.room m sz=>.room m sz
 |.map kvs=>.map kvs
 |.raw o=>.raw o
 |.sit s p=>.sit s p
 |.vec t ag sz m cs=>.vec t ag sz m (cs.map (reA ρ 8))
 |.tb t cs=>.tb t (cs.map (reA ρ 8))
 |_=>.gone
def okA (n:Nat):Nat->AV->Bool
 |0,_=>false
 |_+1,.d _=>true
 |_+1,.bp i _=>Nat.blt i n
 |_+1,.sr i _ _=>Nat.blt i n
 |_+1,.bs i _ _ _=>Nat.blt i n
 |_+1,.mp i=>Nat.blt i n
 |_+1,.vs i _ _ _=>Nat.blt i n
 |k+1,.agg cs=>cs.all (okA n k)
 |_+1,_=>false
def okO (n:Nat):Ob->Bool
 |.box cs=>cs.all (okA n 8)
 |.tb _ cs=>cs.all (okA n 8)
 |.vec _ _ _ _ cs=>cs.all (okA n 8)
 |.loop ..=>false
 |_=>true
theorem qum {D:qay} {β β2:List Bi} {ρ:Nat->Nat} (look:∀ i x,β[i]?=some x->β2[ρ i]?=some x):∀ (k:Nat) {x:AV} {v:Value},RepA D β x v->RepA D β2 (reA ρ k x) v:=by
 intro k
 induction k with
 |zero=>exact fun _=>.d .any
 |succ k ih =>
  intro x v h;cases h with
  |d h=>exact .d h
  |bp h=>exact .bp (look _ _ h)
  |sr h hh hd=>exact .sr (look _ _ h) hh hd
  |bs h=>exact .bs (look _ _ h)
  |mp h=>exact .mp (look _ _ h)
  |fn=>exact .d .any
  |agg h h1 hr =>
   refine .agg (by simp [h]) h1 fun j c v hc hv=>?_;simp only [List.getElem?_map,Option.map_eq_some_iff] at hc;obtain⟨y,hy,rfl⟩:=hc;exact ih (hr j y v hy hv)
  |tup h hr =>
   refine .tup (by simp [h]) fun j c v hc hv=>?_;simp only [List.getElem?_map,Option.map_eq_some_iff] at hc;obtain⟨y,hy,rfl⟩:=hc;exact ih (hr j y v hy hv)
  |yl h=>exact .d .any
  |vs h hh hc hm hn hx=>exact .vs (look _ _ h) hh hc hm hn hx
theorem qll {D:qay} {β β2:List Bi} {ρ:Nat->Nat} {n:Nat} (look:∀ i,i<n->β[i]?=β2[ρ i]?):∀ (k:Nat) {x:AV} {v:Value},okA n k x=true->RepA D β2 (reA ρ k x) v->RepA D β x v:=by
 have lk:∀ {i:Nat} {bi:Bi},Nat.blt i n=true->β2[ρ i]?=some bi->β[i]?=some bi:=fun h1 h2=>by
  rw [Nat.blt_eq] at h1;rw [look _ h1];exact h2
 intro k
 induction k with
 |zero=>intro x v h;cases h
 |succ k ih =>
  intro x v ho h;cases x with
  |d x=>cases h with|d h=>exact .d h
  |bp i off=>cases h with|bp h=>exact .bp (lk ho h)
  |sr i sz es=>cases h with|sr h hh hd=>exact .sr (lk ho h) hh hd
  |bs i off len cap=>cases h with|bs h=>exact .bs (lk ho h)
  |mp i=>cases h with|mp h=>exact .mp (lk ho h)
  |vs i sz lo len=>cases h with|vs h hh hc hm hn hx=>exact .vs (lk ho h) hh hc hm hn hx
  |agg cs =>
   simp only [okA,List.all_eq_true] at ho;cases h with
   |agg h h1 hr =>
    refine .agg (by simpa using h) h1 fun j c v hc hv=>?_;exact ih (ho c (List.mem_of_getElem? hc)) (hr j _ v (by simp [hc]) hv)
  |_=>cases ho
theorem qiq {ρ:Nat->Nat} {bi:Bi} {ob:Ob} {b:Nat} (h:qar bi (reO ρ ob)=some b):qar bi ob=some b:=by
 cases ob<;>first|exact h|(simp only [reO,qar] at h |-;exact h)|(simp only [reO,qar] at h;cases h)
theorem qfA {ρ:Nat->Nat} {n:Nat} {bi:Bi} {ob:Ob} {b:Nat} (ho:okO n ob=true) (h:qar bi ob=some b):qar bi (reO ρ ob)=some b:=by
 cases ob<;>first|exact h|(simp only [reO,qar] at h |-;exact h)|cases ho
theorem qxb {D:qay} {β β2:List Bi} {ρ:Nat->Nat} {w:World} {bi:Bi} {ob:Ob} (look:∀ i x,β[i]?=some x->β2[ρ i]?=some x) (h:HoldsOb D β w bi ob):HoldsOb D β2 w bi (reO ρ ob):=by
 have cell:∀ {cs:List AV} {vs:Array Value},(∀ (j:Nat) c v,cs[j]?=some c->vs[j]?=some v->RepA D β c v)->∀ (j:Nat) c v,(cs.map (reA ρ 8))[j]?=some c->vs[j]?=some v->RepA D β2 c v:=by
  intro cs vs h j c v hc hv;simp only [List.getElem?_map,Option.map_eq_some_iff] at hc;obtain⟨y,hy,rfl⟩:=hc;exact qum look 8 (h j y v hy hv)
 cases ob with
 |box cs=>obtain⟨vs,T,g1,g2,g3,g4,g5⟩:=h;exact⟨vs,T,g1,by simp [g2],cell g3,g4,g5⟩
 |tb ty cs=>obtain⟨vs,T,g1,g2,g3,g4,g5⟩:=h;exact⟨vs,T,g1,by simp [g2],cell g3,g4,g5⟩
 |vec ty ag sz m cs =>
  obtain⟨a,cap,g1,g2,g3,g4,g5,g6⟩:=h;refine⟨a,cap,g1,g2,g3,by simp [g4],g5,fun ad e=>?_⟩;obtain⟨k1,vs,T,k2,k3,k4,k5,k6⟩:=g6 ad e;exact⟨k1,vs,T,k2,k3,cell k4,k5,k6⟩
 |loop=>trivial
 |gone=>trivial
 |_=>exact h
theorem qo1 {D:qay} {β β2:List Bi} {ρ:Nat->Nat} {n:Nat} {w:World} {bi:Bi} {ob:Ob} (look:∀ i,i<n->β[i]?=β2[ρ i]?) (ho:okO n ob=true) (h:HoldsOb D β2 w bi (reO ρ ob)):HoldsOb D β w bi ob:=by
 have cell:∀ {cs:List AV} {vs:Array Value},cs.all (okA n 8)=true->(∀ (j:Nat) c v,(cs.map (reA ρ 8))[j]?=some c->vs[j]?=some v->RepA D β2 c v)->∀ (j:Nat) c v,cs[j]?=some c->vs[j]?=some v->RepA D β c v:=by
  intro cs vs ho h j c v hc hv;simp only [List.all_eq_true] at ho;exact qll look 8 (ho c (List.mem_of_getElem? hc)) (h j _ v (by simp [hc]) hv)
 cases ob with
 |box cs=>obtain⟨vs,T,g1,g2,g3,g4,g5⟩:=h;exact⟨vs,T,g1,by simpa using g2,cell ho g3,g4,g5⟩
 |tb ty cs=>obtain⟨vs,T,g1,g2,g3,g4,g5⟩:=h;exact⟨vs,T,g1,by simpa using g2,cell ho g3,g4,g5⟩
 |vec ty ag sz m cs =>
  obtain⟨a,cap,g1,g2,g3,g4,g5,g6⟩:=h;refine⟨a,cap,g1,g2,g3,by simpa using g4,g5,fun ad e=>?_⟩;obtain⟨k1,vs,T,k2,k3,k4,k5,k6⟩:=g6 ad e;exact⟨k1,vs,T,k2,k3,cell ho k4,k5,k6⟩
 |loop=>cases ho
 |gone=>trivial
 |_=>exact h
theorem qp1 {n k:Nat} {p:Nat->Bool} (hk:k<n) (h1:p k=true) (h2:∀ i,i<n->p i=true->i=k):(List.range n).find? p=some k:=by
 cases hf:(List.range n).find? p with
 |none=>rw [List.find?_eq_none] at hf;exact absurd h1 (hf k (List.mem_range.2 hk))
 |some j =>
  have h3:=List.find?_some hf;have h4:=List.mem_of_find?_eq_some hf;rw [h2 j (List.mem_range.1 h4) h3]
def qfP (pos:List Nat) (m:Nat) (k:Nat):Nat:=match pos[k]? with|some p=>p|none=>m+(k-pos.length)
def reR (ρ:Nat->Nat):AV->AV
 |.pan x=>.pan x
 |r=>reA ρ 8 r
theorem quq {ρ:Nat->Nat} {r:AV} (h:qba r=false):reR ρ r=reA ρ 8 r:=by cases r<;>first|rfl|cases h
theorem ACall.embedR {P:Program} {f:FuncId} {args:List AV} {A A':List Ob} {r:AV} (h:ACall P f args A r A') {Big Big':List Ob} {pos:List Nat} (hl:pos.length=A.length) (hnd:pos.Nodup)
  (hB:∀ (k:Nat) ob,A[k]?=some ob->∃ p,pos[k]?=some p/\Big[p]?=some (reO (qfP pos Big.length) ob)) (hok:A.all (okO A.length)=true) (hargs:args.all (okA A.length 8)=true)
  (h1:Big'.length+A.length=Big.length+A'.length) (h2:∀ p,p<Big.length->p ∉ pos->Big'[p]?=Big[p]?)
  (h3:∀ (k:Nat) ob,A'[k]?=some ob->Big'[qfP pos Big.length k]?=some (reO (qfP pos Big.length) ob)) :
  ACall P f (args.map (reA (qfP pos Big.length) 8)) Big (reR (qfP pos Big.length) r) Big':=by
 generalize hρ:qfP pos Big.length=ρ at *;refine⟨h.1,fun D β w vs hh hv=>?_⟩
 let z:Bi:=⟨0,fun _=>none⟩
 have hpos:∀ (k p:Nat),pos[k]?=some p->p<Big.length:=fun k p hk=>by
  have hkl:k<A.length:=by rw [<- hl];exact(List.getElem?_eq_some_iff.1 hk).1
  obtain⟨p',e1,e2⟩:=hB k A[k] (by simp [hkl]);rw [hk] at e1;cases e1;exact(List.getElem?_eq_some_iff.1 e2).1
 have ρlow:∀ (k p:Nat),pos[k]?=some p->ρ k=p:=fun k p hk=>by subst hρ;simp [qfP,hk]
 have ρhigh:∀ k:Nat,A.length<=k->ρ k=Big.length+(k-A.length):=fun k hk=>by
  subst hρ;simp only [qfP];rw [List.getElem?_eq_none (by omega),hl]
 have posAt:∀ k:Nat,k<A.length->∃ p,pos[k]?=some p/\ρ k=p/\p<Big.length:=fun k hk=>by
  have hk':k<pos.length:=by omega
  refine⟨pos[k],by simp [hk'],ρlow _ _ (by simp [hk']),hpos k _ (by simp [hk'])⟩
 have ρinj:∀ i j:Nat,ρ i=ρ j->i=j:=fun i j e=>by
  rcases Nat.lt_or_ge i A.length with hi|hi<;>rcases Nat.lt_or_ge j A.length with hj|hj
  .obtain⟨p,a1,a2,a3⟩:=posAt i hi
   obtain⟨q,b1,b2,b3⟩:=posAt j hj;have e':p=q:=by omega
   subst e';exact(List.getElem?_inj (by omega) hnd).1 (by rw [a1,b1])
  .obtain⟨p,a1,a2,a3⟩:=posAt i hi
   have:=ρhigh j hj;omega
  .obtain⟨p,a1,a2,a3⟩:=posAt j hj
   have:=ρhigh i hi;omega
  .have:=ρhigh i hi
   have:=ρhigh j hj;omega
 have hβl:=hh.len
 let βs:List Bi:=pos.map fun p=>β.getD p z
 have βsAt:∀ i,i<A.length->βs[i]?=β[ρ i]?:=fun i hi=>by
  obtain⟨p,a1,a2,a3⟩:=posAt i hi;have hpβ:p<β.length:=by omega
  simp only [βs,List.getElem?_map,a1,a2,Option.map_some,List.getD_eq_getElem?_getD];simp [hpβ]
 have hβs:βs.length=A.length:=by simp [βs,hl]
 have okAt:∀ (k:Nat) ob,A[k]?=some ob->okO A.length ob=true:=fun k ob hk=>by
  simp only [List.all_eq_true] at hok;exact hok ob (List.mem_of_getElem? hk)
 have small:Heap D βs A w:=by
  refine⟨hh.dh,hβs,fun i bi ob a b=>?_,fun i j bi bj oi oj b a1 a2 b1 b2 c1 c2=>?_⟩
  .have hi:i<A.length:=(List.getElem?_eq_some_iff.1 b).1
   rw [βsAt i hi] at a;obtain⟨p,e1,e2⟩:=hB i ob b;rw [ρlow _ _ e1] at a;exact qo1 βsAt (okAt i ob b) (hh.hold p bi _ a e2)
  .have hi:i<A.length:=(List.getElem?_eq_some_iff.1 b1).1
   have hj:j<A.length:=(List.getElem?_eq_some_iff.1 b2).1;rw [βsAt i hi] at a1;rw [βsAt j hj] at a2;obtain⟨p,e1,e2⟩:=hB i oi b1;obtain⟨q,f1,f2⟩:=hB j oj b2;rw [ρlow _ _ e1] at a1;rw [ρlow _ _ f1] at a2;have:=hh.disj p q bi bj _ _ b a1 a2 e2 f2 (qfA (okAt i oi b1) c1) (qfA (okAt j oj b2) c2);exact ρinj i j (by rw [ρlow _ _ e1,ρlow _ _ f1,this])
 have ownUp:∀ b,Own βs A b->∃ (i p:Nat),∃ bi ob,i<A.length/\ρ i=p/\β[p]?=some bi/\A[i]?=some ob/\Big[p]?=some (reO ρ ob)/\qar bi (reO ρ ob)=some b:=by
  rintro b ⟨i,bi,ob,a,b',c⟩;have hi:i<A.length:=(List.getElem?_eq_some_iff.1 b').1;rw [βsAt i hi] at a;obtain⟨p,e1,e2⟩:=hB i ob b';rw [ρlow _ _ e1] at a;exact⟨i,p,bi,ob,hi,ρlow _ _ e1,a,b',e2,qfA (okAt i ob b') c⟩
 refine(h.2 D βs w vs small ⟨by simpa using hv.1,fun j c v hc hw=>?_⟩).mono fun e w' he=>?_
 .have:=hv.2 j (reA ρ 8 c) v (by simp [hc]) hw
  simp only [List.all_eq_true] at hargs;exact qll βsAt 8 (hargs c (List.mem_of_getElem? hc)) this
 obtain⟨D',β',hs,fin⟩:∃ D' β',Step D βs A w D' β' A' w'/\∀ β2:List Bi,(∀ i x,β'[i]?=some x->β2[ρ i]?=some x)->Step D β Big w D' β2 Big' w'->EndOK D β Big w (reR ρ r) Big' e w':=by
  rcases he with⟨v,D',β',rfl,hs,hrv⟩|⟨x,v,D',β',rfl,rfl,hs,hrv⟩
  .exact⟨D',β',hs,fun β2 look st=>.inl ⟨v,D',β2,rfl,st,by rw [quq hrv.noPan];exact qum look 8 hrv⟩⟩
  .exact⟨D',β',hs,fun β2 look st=>.inr ⟨x,v,D',β2,rfl,rfl,st,hrv⟩⟩
 have hl':=hs.heap.len;have hge:A.length<=A'.length:=by
  rcases Nat.lt_or_ge A'.length A.length with hlt|hge
  .obtain⟨y,hy,_⟩:=hs.bext A'.length (βs[A'.length]'(by omega)) (by simp)
   have:=(List.getElem?_eq_some_iff.1 hy).1;omega
  .exact hge
 let β2:List Bi:=(List.range Big'.length).map fun p=>match (List.range A'.length).find? (fun k=>ρ k == p) with|some k=>β'.getD k z|none=>β.getD p z
 have β2len:β2.length=Big'.length:=by simp [β2]
 have ρltB:∀ k,k<A'.length->ρ k<Big'.length:=fun k hk=>by
  rcases Nat.lt_or_ge k A.length with h'|h'
  .obtain⟨p,a1,a2,a3⟩:=posAt k h';omega
  .have:=ρhigh k h';omega
 have β2at:∀ k,k<A'.length->β2[ρ k]?=β'[k]?:=fun k hk=>by
  have hk':k<β'.length:=by omega
  have hf:(List.range A'.length).find? (fun k'=>ρ k' == ρ k)=some k:=qp1 hk (by simp) fun i _ e'=>ρinj _ _ (by simpa using e');simp only [β2,List.getElem?_map,List.getElem?_range (ρltB k hk),Option.map_some,hf,List.getD_eq_getElem?_getD];simp [hk']
 have β2old:∀ p,p<Big.length->p ∉ pos->β2[p]?=β[p]?:=fun p hp' hn=>by
  have hpl:p<Big'.length:=by omega
  have hf:(List.range A'.length).find? (fun k=>ρ k == p)=none:=by
   rw [List.find?_eq_none];intro k hk;simp only [List.mem_range] at hk;simp only [beq_iff_eq];intro e';rcases Nat.lt_or_ge k A.length with h'|h'
   .obtain⟨q,a1,a2,a3⟩:=posAt k h'
    exact hn (by rw [show p=q by omega];exact List.mem_of_getElem? a1)
   .have:=ρhigh k h';omega
  simp only [β2,List.getElem?_map,List.getElem?_range hpl,Option.map_some,hf,List.getD_eq_getElem?_getD];have:p<β.length:=by omega
  simp [this]
 have look2:∀ i x,β'[i]?=some x->β2[ρ i]?=some x:=fun i x hx=>by
  rw [β2at i (by have:=(List.getElem?_eq_some_iff.1 hx).1;omega)];exact hx
 have cut:∀ (p:Nat) bi ob,β2[p]?=some bi->Big'[p]?=some ob->(p<Big.length/\p ∉ pos/\β[p]?=some bi/\Big[p]?=some ob)\/(∃ k o,ρ k=p/\β'[k]?=some bi/\A'[k]?=some o/\ob=reO ρ o):=by
  intro p bi ob a b;have hpl:p<Big'.length:=(List.getElem?_eq_some_iff.1 b).1;have few:∀ k,k<A'.length->ρ k=p->∃ k o,ρ k=p/\β'[k]?=some bi/\A'[k]?=some o/\ob=reO ρ o:=fun k hk e'=>by
   refine⟨k,A'[k],e',by rw [<- β2at k hk,e'];exact a,by simp [hk],?_⟩;have:=h3 k A'[k] (by simp [hk]);rw [e',b] at this;exact Option.some.inj this
  rcases Nat.lt_or_ge p Big.length with hp'|hp'
  .by_cases hm:p ∈ pos
   .obtain⟨k,hk,e'⟩:=List.getElem_of_mem hm
    exact .inr (few k (by omega) (ρlow k p (by rw [List.getElem?_eq_getElem hk,e'])))
   .exact .inl ⟨hp',hm,by rw [<- β2old p hp' hm];exact a,by rw [<- h2 p hp' hm];exact b⟩
  .exact .inr (few (A.length+(p-Big.length)) (by omega) (by rw [ρhigh _ (by omega)];omega))
 have other:∀ (p:Nat) bi ob b,p<Big.length->p ∉ pos->β[p]?=some bi->Big[p]?=some ob->qar bi ob=some b->¬ Own βs A b:=by
  intro p bi ob b h1 hn a1 a2 a3 ho;obtain⟨i,q,bj,oj,c0,c1,c2,_,c3,c4⟩:=ownUp b ho;have:=hh.disj p q bi bj _ _ b a1 c2 a2 c3 a3 c4;obtain⟨q',d1,d2,_⟩:=posAt i c0;exact hn (by rw [show p=q' by omega];exact List.mem_of_getElem? d1)
 have upOwn:∀ b,Own βs A b->Own β Big b:=fun b ho=>by
  obtain⟨i,q,bj,oj,c0,c1,c2,_,c3,c4⟩:=ownUp b ho;exact⟨q,bj,_,c2,c3,c4⟩
 have few2:∀ (k:Nat) bi o b,β'[k]?=some bi->A'[k]?=some o->qar bi o=some b->Own βs A b\/w.heap.size<=b:=fun k bi o b a1 a2 a3=>hs.ownn b ⟨k,bi,o,a1,a2,a3⟩;have st:Step D β Big w D' β2 Big' w':=by
  refine⟨hs.dsub,fun ad v a b=>(hs.dnew ad v a b).imp (upOwn _) id,fun p x hx=>?_,⟨hs.heap.dh,by rw [β2len],fun p bi ob a b=>?_,fun p q bi bj oi oj b a1 a2 b1 b2 c1 c2=>?_⟩,hs.size,fun k hk hn=>hs.keep k hk (fun ho=>hn (upOwn k ho)),
   hs.os,hs.tape,hs.output,?_⟩
  .have hpb:p<Big.length:=by have:=(List.getElem?_eq_some_iff.1 hx).1;omega
   by_cases hm:p ∈ pos
   .obtain⟨k,hk,e'⟩:=List.getElem_of_mem hm
    have hkp:ρ k=p:=ρlow k p (by rw [List.getElem?_eq_getElem hk,e']);obtain⟨y,hy,hxy⟩:=hs.bext k x (by rw [βsAt k (by omega),hkp];exact hx);exact⟨y,by rw [<- hkp];exact look2 k y hy,hxy⟩
   .exact⟨x,by rw [β2old p hpb hm];exact hx,BiExt.refl x⟩
  .rcases cut p bi ob a b with⟨p1,p2,p3,p4⟩|⟨k,o,e',k1,k2,rfl⟩
   .refine(hh.hold p bi ob p3 p4).mono hs.dsub (fun q x hx=>?_) (fun ad v h5 h6 h7=>?_) (fun b' hb'=>?_)
    .have hpb:q<Big.length:=by have:=(List.getElem?_eq_some_iff.1 hx).1;omega
     by_cases hm:q ∈ pos
     .obtain⟨k,hk,e'⟩:=List.getElem_of_mem hm
      have hkp:ρ k=q:=ρlow k q (by rw [List.getElem?_eq_getElem hk,e']);obtain⟨y,hy,hxy⟩:=hs.bext k x (by rw [βsAt k (by omega),hkp];exact hx);exact⟨y,by rw [<- hkp];exact look2 k y hy,hxy⟩
     .exact⟨x,by rw [β2old q hpb hm];exact hx,BiExt.refl x⟩
    .rcases hs.dnew ad v h5 h6 with h8|h8
     .exact other p bi ob _ p1 p2 p3 p4 h7 h8
     .have:=hh.own_lt ⟨p,bi,ob,p3,p4,h7⟩;omega
    .exact hs.keep b' (hh.own_lt ⟨p,bi,ob,p3,p4,hb'⟩) (other p bi ob b' p1 p2 p3 p4 hb')
   .exact qxb look2 (hs.heap.hold k bi o k1 k2)
  .rcases cut p bi oi a1 b1 with⟨p1,p2,p3,p4⟩|⟨k,o,e',k1,k2,rfl⟩<;>rcases cut q bj oj a2 b2 with⟨q1,q2,q3,q4⟩|⟨k',o',e'',k1',k2',rfl⟩
   .exact hh.disj p q bi bj oi oj b p3 q3 p4 q4 c1 c2
   .exfalso
    rcases few2 k' bj o' b k1' k2' (qiq c2) with h8|h8
    .exact other p bi oi b p1 p2 p3 p4 c1 h8
    .have:=hh.own_lt ⟨p,bi,oi,p3,p4,c1⟩;omega
   .exfalso
    rcases few2 k bi o b k1 k2 (qiq c1) with h8|h8
    .exact other q bj oj b q1 q2 q3 q4 c2 h8
    .have:=hh.own_lt ⟨q,bj,oj,q3,q4,c2⟩;omega
   .have:=hs.heap.disj k k' bi bj o o' b k1 k1' k2 k2' (qiq c1) (qiq c2)
    rw [<- e',<- e'',this]
  .rintro b ⟨p,bi,ob,a1,a2,a3⟩
   rcases cut p bi ob a1 a2 with⟨p1,p2,p3,p4⟩|⟨k,o,e',k1,k2,rfl⟩
   .exact .inl ⟨p,bi,ob,p3,p4,a3⟩
   .exact(few2 k bi o b k1 k2 (qiq a3)).imp (upOwn b) id
 exact fin β2 look2 st
theorem ACall.embed {P:Program} {f:FuncId} {args:List AV} {A A':List Ob} {r:AV} (h:ACall P f args A r A') (hp:qba r=false) {Big Big':List Ob} {pos:List Nat} (hl:pos.length=A.length) (hnd:pos.Nodup)
  (hB:∀ (k:Nat) ob,A[k]?=some ob->∃ p,pos[k]?=some p/\Big[p]?=some (reO (qfP pos Big.length) ob)) (hok:A.all (okO A.length)=true) (hargs:args.all (okA A.length 8)=true)
  (h1:Big'.length+A.length=Big.length+A'.length) (h2:∀ p,p<Big.length->p ∉ pos->Big'[p]?=Big[p]?)
  (h3:∀ (k:Nat) ob,A'[k]?=some ob->Big'[qfP pos Big.length k]?=some (reO (qfP pos Big.length) ob)) :
  ACall P f (args.map (reA (qfP pos Big.length) 8)) Big (reA (qfP pos Big.length) 8 r) Big':=by
 rw [<- quq hp];exact h.embedR hl hnd hB hok hargs h1 h2 h3
def qjG (pos:List Nat) (k:Nat):Nat:=match pos[k]? with|some p=>p|none=>0
def qlt (ρ:Nat->Nat) (n:Nat) (tm:PT AV):List (Nat × AV)->Prop
 |[]=>True
 |(t,v) :: r=>(okA n 8 v=true/\tm.get? t=some (reA ρ 8 v))/\qlt ρ n tm r
theorem qmz {ρ:Nat->Nat} {n:Nat} {tm:PT AV}:∀ {l:List (Nat × AV)},qlt ρ n tm l->∀ {t:Nat} {v:AV},(t,v) ∈ l->okA n 8 v=true/\tm.get? t=some (reA ρ 8 v)
 |[],_,t,v,h=>by cases h
 |(n,u) :: r,ha,t,v,h=>by
  rcases List.mem_cons.1 h with e|h
  .cases e;exact ha.1
  .exact qmz ha.2 h
def qhU (m:Nat) (s s':S):Prop:=∃ (l:List (Nat × AV)) (pos:List Nat) (objs':List Ob),s.dl=[]/\s'=⟨PT.ofList l,objs',[]⟩/\pos.length=objs'.length/\pos.Nodup/\(∀ k,k<m->pos[k]?=some k) /\
 (∀ (k:Nat) ob,objs'[k]?=some ob->okO objs'.length ob=true/\∃ p,pos[k]?=some p/\s.objs[p]?=some (reO (qjG pos) ob))/\qlt (qjG pos) objs'.length s.tm l
theorem Sim.relab {nt:Nat} {D0:qay} {β0:List Bi} {o0:List Ob} {w0:World} {s s':S} {a:Act} {w:World} {m:Nat} (hn:β0.length<=m) (hl:qhU m s s') (h:Sim D0 β0 o0 w0 nt s a w):Sim D0 β0 o0 w0 nt s' a w:=by
 obtain⟨l,pos,objs',hdl,rfl,hpl,hnd,hm,hob,htm⟩:=hl;obtain⟨D,β,h1,h2,h3⟩:=h
 let z:Bi:=⟨0,fun _=>none⟩
 have hh:=h1.heap;have hβl:=hh.len
 let β':List Bi:=pos.map fun p=>β.getD p z
 have hβ':β'.length=objs'.length:=by simp [β',hpl]
 have posAt:∀ k,k<objs'.length->∃ p,pos[k]?=some p/\qjG pos k=p/\p<β.length:=fun k hk=>by
  obtain⟨_,p,e1,e2⟩:=hob k objs'[k] (by simp [hk]);exact⟨p,e1,by simp [qjG,e1],by rw [hβl];exact(List.getElem?_eq_some_iff.1 e2).1⟩
 have βat:∀ i,i<objs'.length->β'[i]?=β[qjG pos i]?:=fun i hi=>by
  obtain⟨p,a1,a2,a3⟩:=posAt i hi;simp only [β',List.getElem?_map,a1,a2,Option.map_some,List.getD_eq_getElem?_getD];simp [a3]
 have heap:Heap D β' objs' w:=by
  refine⟨hh.dh,hβ',fun i bi ob e1 e2=>?_,fun i j bi bj oi oj b e1 e2 e3 e4 e5 e6=>?_⟩
  .have hi:i<objs'.length:=(List.getElem?_eq_some_iff.1 e2).1
   rw [βat i hi] at e1;obtain⟨ho,p,f1,f2⟩:=hob i ob e2;have hp:qjG pos i=p:=by simp [qjG,f1]
   rw [hp] at e1;exact qo1 βat ho (hh.hold p bi _ e1 f2)
  .have hi:i<objs'.length:=(List.getElem?_eq_some_iff.1 e3).1
   have hj:j<objs'.length:=(List.getElem?_eq_some_iff.1 e4).1;rw [βat i hi] at e1;rw [βat j hj] at e2;obtain⟨ho,p,f1,f2⟩:=hob i oi e3;obtain⟨ho',q,g1,g2⟩:=hob j oj e4;have hp:qjG pos i=p:=by simp [qjG,f1]
   have hq:qjG pos j=q:=by simp [qjG,g1]
   rw [hp] at e1;rw [hq] at e2;have hpq:=hh.disj p q bi bj _ _ b e1 e2 f2 g2 (qfA ho e5) (qfA ho' e6);subst hpq;exact(List.getElem?_inj (by omega) hnd).1 (by rw [f1,g1])
 refine⟨D,β',⟨h1.dsub,h1.dnew,fun i x hx=>?_,heap,h1.size,h1.keep,h1.os,h1.tape,h1.output,?_⟩,⟨h2.1,fun t=>?_⟩,?_⟩
 .obtain⟨y,hy,hxy⟩:=h1.bext i x hx
  have hi:i<β0.length:=(List.getElem?_eq_some_iff.1 hx).1;have hpi:=hm i (by omega);have hil:i<objs'.length:=by rw [<- hpl];exact(List.getElem?_eq_some_iff.1 hpi).1
  refine⟨y,?_,hxy⟩;rw [βat i hil,show qjG pos i=i by simp [qjG,hpi]];exact hy
 .rintro b ⟨i,bi,ob,e1,e2,e3⟩
  have hi:i<objs'.length:=(List.getElem?_eq_some_iff.1 e2).1;rw [βat i hi] at e1;obtain⟨ho,p,f1,f2⟩:=hob i ob e2;have hp:qjG pos i=p:=by simp [qjG,f1]
  rw [hp] at e1;exact h1.ownn b ⟨p,bi,_,e1,f2,qfA ho e3⟩
 .show RepA D β' (((PT.ofList l).get? t).getD (.d .any)) _
  cases ht:(PT.ofList l).get? t with
  |none=>exact .d .any
  |some v =>
   obtain⟨k1,k2⟩:=qmz htm (qcW ht);have:=h2.2 t;rw [k2] at this;exact qll βat 8 k1 this
 .rw [hdl] at h3
  cases hd:a.defers with
  |nil=>exact trivial
  |cons x r=>rw [hd] at h3;exact h3.elim
section
variable {P:Program} {frz:List Nat} {nt m:Nat} {ro':Option Nat} {K:Ex->S->Prop} {s:S} {ops:Array Oper} {l:List Oper}
theorem Run.relab {c:Code} {s':S} (ht:qhU m s s') (h:Run P nt m ro' c s' K):Run P nt m ro' c s K :=
 fun D0 β0 o0 w0 hb0 ro Q a w hro hK hs=>h D0 β0 o0 w0 hb0 ro Q a w hro hK (hs.relab hb0 ht)
theorem RunOps.relab {s':S} (ht:qhU m s s') (h:RunOps P nt m ro' ops l s' K):RunOps P nt m ro' ops l s K :=
 fun D0 β0 o0 w0 hb0 ro Q a w i hro hops hK hs=>h D0 β0 o0 w0 hb0 ro Q a w i hro hops hK (hs.relab hb0 ht)
theorem Run.loopR {α:Type} (St:α->S) (I:α->Prop) (mu:α->Nat) {b:Code} (x0:α) (h0:I x0) (hs0:qhU m s (St x0))
  (h:∀ x,I x->Run P nt m ro' b (St x) (fun e s1=>match e with|.normal=>∃ x',I x'/\mu x'<mu x/\qhU m s1 (St x')|e=>K e s1)):Run P nt m ro' (.loop b) s K:=by
 intro D0 β0 o0 w0 hb0 ro Q a w hro hK hs;refine qeF (fun k a w=>∃ x,I x/\mu x=k/\Sim D0 β0 o0 w0 nt (St x) a w) (k:=mu x0) ⟨x0,h0,rfl,hs.relab hb0 hs0⟩ (fun k a w hJ=>?_);obtain⟨x,hx,hm,hs⟩:=hJ;refine h x hx D0 β0 o0 w0 hb0 ro _ a w hro (fun e s1 hk=>?_) hs;cases e with
 |normal =>
  obtain⟨x',h1,h2,h3⟩:=hk;exact⟨fun a w _ hs=>⟨mu x',by omega,x',h1,rfl,hs.relab hb0 h3⟩,fun x hx=>by cases hx⟩
 |_=>exact qlj (hK _ _ hk) (fun x a w hx h=>by cases x<;>first|exact absurd rfl hx|exact h) (by simp)
theorem EvD.callO {E:PT Ty} {o:Oper} {s0:S} {i:Nat} {acc:List Eff} {G:S->Prop} {g:FuncId} {args:List AV} {r:AV} {objs':List Ob} {tm:PT AV} (hg:qan ops (rd s.tm) o=some true) (hc:qbd (rd s.tm) o.op=some (g,args)) (hh:qfM o.dst frz=false)
  (hA:ACall P g args s.objs r objs') (hp:qba r=false) (ht:qa6 nt s.tm o.dst r=some tm) (k:EvD P E frz nt ops s0 (i+1) (acc++[qbS (rd s.tm) s.objs o (some objs')]) l ⟨tm,objs',s.dl⟩ G):EvD P E frz nt ops s0 i acc (o :: l) s G :=
 EvD.any (qeA (objs:=s.objs) (ob:=some objs') (fun _ h=>by cases h;exact hA) (fun h=>by cases h)) hg (qc7 hc hh) hp ht k
end
inductive DvN:DV->DV->Prop
 |refl {x:DV}:DvN x x
 |nil {sz:Nat}:DvN .nilsl (.sl sz [])
 |agg {xs ys:List DV} (hl:xs.length=ys.length) (h:∀ (j:Nat) x y,xs[j]?=some x->ys[j]?=some y->DvN x y):DvN (.agg xs) (.agg ys)
 |sl {sz:Nat} {xs ys:List DV} (hn:xs.length=ys.length) (hl:(qav xs).length=(qav ys).length) (hs:∀ e ∈ ys,(qam e).length=sz)
   (h:∀ (j:Nat) x y,(qav xs)[j]?=some x->(qav ys)[j]?=some y->DvN x y):DvN (.sl sz xs) (.sl sz ys)
theorem DvN.rep {D:qay} {x y:DV} (h:DvN x y):∀ {v:Value},RepD D x v->RepD D y v:=by
 induction h with
 |refl=>exact fun h=>h
 |nil=>exact fun h=>DvTo.nil.rep h
 |agg hl _ ih =>
  intro v h;cases h with
  |agg h h1 hr =>
   refine .agg (by rw [h,hl]) h1 fun j c v hc hv=>?_;have hj:=(List.getElem?_eq_some_iff.1 hc).1;rw [<- hl] at hj;exact ih j _ c (List.getElem?_eq_getElem hj) hc (hr j _ v (List.getElem?_eq_getElem hj) hv)
 |sl hn hl hs _ ih =>
  intro v h;cases h with
  |sl vs hc hm hsz hno hv hD hr =>
   rw [hn];refine .sl vs (by omega) hm hs (fun e=>⟨List.length_eq_zero_iff.1 (by rw [<- hn,(hno e).1];rfl),(hno e).2⟩) (by rw [hv,hl]) hD fun j c v hc hv'=>?_;have hj:=(List.getElem?_eq_some_iff.1 hc).1;rw [<- hl] at hj;exact ih j _ c (List.getElem?_eq_getElem hj) hc (hr j _ v (List.getElem?_eq_getElem hj) hv')
theorem DvN.map {α:Type} {f g:α->DV} {n:Nat} (hf:∀ a,(qam (f a)).length=n) (hg:∀ a,(qam (g a)).length=n) (l:List α) (h:∀ a ∈ l,∀ (i:Nat) x y,(qam (f a))[i]?=some x->(qam (g a))[i]?=some y->DvN x y):DvN (.sl n (l.map f)) (.sl n (l.map g)):=by
 have hlen:∀ (k:α->DV),(∀ a,(qam (k a)).length=n)->∀ l:List α,(qav (l.map k)).length=l.length*n:=fun k hk l=>by
  induction l with
  |nil=>simp [qav]
  |cons a l ih =>
   simp only [List.map_cons,qav,List.flatMap_cons,List.length_append,List.length_cons] at ih |-;rw [hk,ih,Nat.succ_mul];omega
 have hget:∀ (l:List α) (j:Nat) x y,(∀ a ∈ l,∀ (i:Nat) x y,(qam (f a))[i]?=some x->(qam (g a))[i]?=some y->DvN x y)->(qav (l.map f))[j]?=some x->(qav (l.map g))[j]?=some y->DvN x y:=by
  intro l
  induction l with
  |nil=>intro j x y _ hx;simp [qav] at hx
  |cons a l ih =>
   intro j x y h hx hy;simp only [List.map_cons,qav,List.flatMap_cons] at hx hy ih;rcases Nat.lt_or_ge j n with hj|hj
   .rw [List.getElem?_append_left (by rw [hf];exact hj)] at hx
    rw [List.getElem?_append_left (by rw [hg];exact hj)] at hy;exact h a (List.mem_cons_self ..) j x y hx hy
   .rw [List.getElem?_append_right (by rw [hf];exact hj),hf] at hx
    rw [List.getElem?_append_right (by rw [hg];exact hj),hg] at hy;exact ih _ x y (fun b hb=>h b (List.mem_cons_of_mem _ hb)) hx hy
 exact .sl (by simp) (by rw [hlen f hf,hlen g hg]) (fun e he=>by obtain⟨a,_,rfl⟩:=List.mem_map.1 he;exact hg a) fun j x y hx hy=>hget l j x y h hx hy
inductive AvD:AV->DV->Prop
 |any {x:AV}:AvD x .any
 |d {x y:DV} (h:DvN x y):AvD (.d x) y
 |sr {i sz:Nat} {es:List DV} {y:DV} (h:DvN (.sl sz es) y):AvD (.sr i sz es) y
 |agg {xs:List AV} {ys:List DV} (hl:xs.length=ys.length) (h:∀ (j:Nat) x y,xs[j]?=some x->ys[j]?=some y->AvD x y):AvD (.agg xs) (.agg ys)
 |dagg {xs ys:List DV} (hl:xs.length=ys.length) (h:∀ (j:Nat) x y,xs[j]?=some x->ys[j]?=some y->AvD (.d x) y):AvD (.d (.agg xs)) (.agg ys)
theorem AvD.rep {D:qay} {β:List Bi} {x:AV} {y:DV} (h:AvD x y):∀ {v:Value},RepA D β x v->RepD D y v:=by
 induction h with
 |any=>exact fun _=>.any
 |d h =>
  intro v hr;cases hr with
  |d hr=>exact h.rep hr
 |sr h =>
  intro v hr;have hr:=qgW hr;cases hr with
  |d hr=>exact h.rep hr
 |agg hl _ ih =>
  intro v hr;cases hr with
  |agg g1 g2 g3 =>
   refine .agg (by rw [g1,hl]) g2 fun j c v hc hv=>?_;have hj:=(List.getElem?_eq_some_iff.1 hc).1;rw [<- hl] at hj;exact ih j _ c (List.getElem?_eq_getElem hj) hc (g3 j _ v (List.getElem?_eq_getElem hj) hv)
 |dagg hl _ ih =>
  intro v hr;cases hr with
  |d hr =>
   cases hr with
   |agg g1 g2 g3 =>
    refine .agg (by rw [g1,hl]) g2 fun j c v hc hv=>?_;have hj:=(List.getElem?_eq_some_iff.1 hc).1;rw [<- hl] at hj;exact ih j _ c (List.getElem?_eq_getElem hj) hc (.d (g3 j _ v (List.getElem?_eq_getElem hj) hv))
def AvDs:List AV->List DV->Prop
 |[],[]=>True
 |x :: xs,y :: ys=>AvD x y/\AvDs xs ys
 |_,_=>False
theorem AvDs.len:∀ {xs:List AV} {ys:List DV},AvDs xs ys->xs.length=ys.length
 |[],[],_=>rfl
 |_ :: _,_ :: _,h=>by simp [AvDs.len h.2]
theorem AvDs.get:∀ {xs:List AV} {ys:List DV},AvDs xs ys->∀ (j:Nat) x y,xs[j]?=some x->ys[j]?=some y->AvD x y
 |[],[],_,j,x,y,hx,_=>by simp at hx
 |_ :: _,_ :: _,h,0,x,y,hx,hy=>by simp at hx hy;subst hx hy;exact h.1
 |_ :: _,_ :: _,h,j+1,x,y,hx,hy=>AvDs.get h.2 j x y (by simpa using hx) (by simpa using hy)
theorem AvD.aggs {xs:List AV} {ys:List DV} (h:AvDs xs ys):AvD (.agg xs) (.agg ys):=.agg h.len h.get
theorem AvD.daggs {xs ys:List DV} (h:AvDs (xs.map .d) ys):AvD (.d (.agg xs)) (.agg ys) :=
 .dagg (by have:=h.len;simpa using this) fun j x y hx hy=>h.get j (.d x) y (by simp [hx]) hy
theorem qna {P:Program} {f:FuncId} {args:List AV} {objs:List Ob} {ds:List DV} {r:AV} (hd:AvDs args ds) (h:qaa P f ds r):ACall P f args objs r objs:=by
 refine⟨(h objs).1,fun D β w vs hp hv=>(h objs).2 D β w vs hp ?_⟩;refine⟨by rw [hv.1];simp [hd.len],fun j c v hc hv'=>?_⟩;simp only [List.getElem?_map,Option.map_eq_some_iff] at hc;obtain⟨d,hd',rfl⟩:=hc;have hj:=(List.getElem?_eq_some_iff.1 hd').1;rw [<- hd.len] at hj;exact .d ((hd.get j _ d (List.getElem?_eq_getElem hj) hd').rep (hv.2 j _ v (List.getElem?_eq_getElem hj) hv'))
section
variable {P:Program} {E:PT Ty} {frz:List Nat} {nt m:Nat} {ro':Option Nat} {K:Ex->S->Prop} {ops:Array Oper} {l:List Oper} {o:Oper} {tm tm':PT AV} {objs:List Ob} {dl:List Dl} {s0:S} {i:Nat} {acc:List Eff} {G:S->Prop} {g:FuncId} {ds:List DV} {args:List AV} {r:AV}
theorem oW (hK:qaa P g ds r) (k:RunOps P nt m ro' ops l ⟨tm',objs,dl⟩ K) (hg:qan ops (rd tm) o=some true:=by rfl) (hc:qbd (rd tm) o.op=some (g,args):=by rfl)
  (hd:AvDs args ds:=by repeat' (first|exact trivial|exact .any|exact .sr .refl|exact .d .refl|refine .aggs ?_|refine .daggs ?_|refine⟨?_,?_⟩))
  (hp:qba r=false:=by rfl) (ht:qa6 nt tm o.dst r=some tm':=by rfl):RunOps P nt m ro' ops (o :: l) ⟨tm,objs,dl⟩ K:=RunOps.call hg hc (qna hd hK) hp ht k
theorem eW (hK:qaa P g ds r) (k:EvD P E frz nt ops s0 (i+1) (acc++[qbS (rd tm) objs o none]) l ⟨tm',objs,dl⟩ G) (hg:qan ops (rd tm) o=some true:=by rfl) (hc:qbd (rd tm) o.op=some (g,args):=by rfl)
  (hd:AvDs args ds:=by repeat' (first|exact trivial|exact .any|exact .sr .refl|exact .d .refl|refine .aggs ?_|refine .daggs ?_|refine⟨?_,?_⟩)) (hh:qfM o.dst frz=false:=by rfl) (hp:qba r=false:=by rfl) (ht:qa6 nt tm o.dst r=some tm':=by rfl):EvD P E frz nt ops s0 i acc (o :: l) ⟨tm,objs,dl⟩ G :=
 EvD.call hg hc hh (fun _=>qna hd hK) hp ht k
end
theorem Step.retell {D:qay} {β:List Bi} {objs:List Ob} {w:World} (h:Heap D β objs w) {i:Nat} {bi:Bi} {ob ob':Ob} (hb:β[i]?=some bi) (ho:objs[i]?=some ob)
  (hown:∀ b,qar bi ob'=some b->qar bi ob=some b) (hnew:HoldsOb D β w bi ob'):Step D β objs w D β (objs.set i ob') w:=by
 have key:∀ (j:Nat) bj oj b,β[j]?=some bj->(objs.set i ob')[j]?=some oj->qar bj oj=some b->∃ oj',objs[j]?=some oj'/\qar bj oj'=some b:=by
  intro j bj oj b hj h2 h3;by_cases hij:i=j
  .subst hij
   rw [hb] at hj;cases hj;rw [List.getElem?_set_self (List.getElem?_eq_some_iff.1 ho).1] at h2;cases h2;exact⟨ob,ho,hown b h3⟩
  .rw [List.getElem?_set_ne hij] at h2
   exact⟨oj,h2,h3⟩
 refine⟨fun _ _ h=>h,fun _ _ h1 h2=>(by rw [h2] at h1;cases h1),fun i x hx=>⟨x,hx,BiExt.refl x⟩,⟨h.dh,by simp [h.len],fun j bj oj h1 h2=>?_,fun j k bj bk oj ok b h1 h2 h3 h4 h5 h6=>?_⟩,Nat.le_refl _,fun _ _ _=>rfl,rfl,rfl,rfl,?_⟩
 .by_cases hij:i=j
  .subst hij
   rw [hb] at h1;cases h1;rw [List.getElem?_set_self (List.getElem?_eq_some_iff.1 ho).1] at h2;cases h2;exact hnew
  .rw [List.getElem?_set_ne hij] at h2;exact h.hold j bj oj h1 h2
 .obtain⟨oj',a1,a2⟩:=key j bj oj b h1 h3 h5
  obtain⟨ok',b1,b2⟩:=key k bk ok b h2 h4 h6;exact h.disj j k bj bk oj' ok' b h1 h2 a1 b1 a2 b2
 .rintro b ⟨j,bj,oj,h1,h2,h3⟩
  obtain⟨oj',a1,a2⟩:=key j bj oj b h1 h2 h3;exact .inl ⟨j,bj,oj',h1,a1,a2⟩
theorem qlN {D:qay} {β:List Bi} {objs:List Ob} {w:World} (h:Heap D β objs w) {i j:Nat} {cs:List AV} (sz:Nat) (hi:objs[i]?=some (.box cs)) (hj:cs[j]?=some (.d .nilsl)) :
  ∃ β',Step D β objs w D β' (objs.set i (.box (cs.set j (.sr objs.length sz [])))++[.room 0 sz]) w:=by
 obtain⟨β2,st,hr2⟩:=qgC h (sz:=sz) (es:=[]) (A:=none) (.sl (es:=[]) [] (Nat.le_refl _) (Nat.zero_le _) (by simp) (fun _=>⟨rfl,rfl⟩) rfl (fun ad e=>by cases e) (by simp));simp only [List.length_nil] at st hr2;have hil:=(List.getElem?_eq_some_iff.1 hi).1;have hi2:(objs++[Ob.room 0 sz])[i]?=some (.box cs):=by rw [List.getElem?_append_left hil];exact hi
 have hbl:i<β2.length:=by rw [st.heap.len];simp;omega
 have hb2:β2[i]?=some β2[i]:=List.getElem?_eq_getElem hbl;obtain⟨vs,T,g1,g2,g3,g4,g5⟩:=st.heap.hold i _ _ hb2 hi2;have st2:=Step.retell st.heap (ob':=.box (cs.set j (.sr objs.length sz []))) hb2 hi2 (fun b hb=>hb) ⟨vs,T,g1,by simp [g2],fun k c v hc hv=>by
  by_cases hk:j=k
  .subst hk
   rw [List.getElem?_set_self (List.getElem?_eq_some_iff.1 hj).1] at hc;cases hc;have:=g3 j _ v hj hv;cases this with
   |d this=>cases this;exact hr2
  .rw [List.getElem?_set_ne hk] at hc
   exact g3 k c v hc hv,g4,g5⟩
 have e:(objs++[Ob.room 0 sz]).set i (.box (cs.set j (.sr objs.length sz [])))=objs.set i (.box (cs.set j (.sr objs.length sz [])))++[.room 0 sz]:=List.set_append_left _ _ hil;rw [e] at st2;exact⟨β2,st.trans st2⟩
theorem Run.cellRoom {P:Program} {nt m:Nat} {ro':Option Nat} {K:Ex->S->Prop} {c:Code} {tm:PT AV} {objs objs':List Ob} {dl:List Dl} (i j sz:Nat) {cs:List AV}
  (h:Run P nt m ro' c ⟨tm,objs',dl⟩ K) (hi:objs[i]?=some (.box cs):=by rfl) (hj:cs[j]?=some (.d .nilsl):=by rfl) (he:objs.set i (.box (cs.set j (.sr objs.length sz [])))++[.room 0 sz]=objs':=by rfl) :
  Run P nt m ro' c ⟨tm,objs,dl⟩ K:=by
 subst he;intro D0 β0 o0 w0 hb0 ro Q a w hro hK hs;obtain⟨D,β,h1,h2,h3⟩:=hs;obtain⟨β2,st⟩:=qlN h1.heap sz hi hj;exact h D0 β0 o0 w0 hb0 ro Q a w hro hK ⟨D,β2,h1.trans st,h2.mono st.dsub st.bext,h3.mono st.dsub st.bext⟩
theorem RunOps.cellRoom {P:Program} {nt m:Nat} {ro':Option Nat} {K:Ex->S->Prop} {ops:Array Oper} {lo:List Oper} {tm:PT AV} {objs objs':List Ob} {dl:List Dl} (i j sz:Nat) {cs:List AV}
  (h:RunOps P nt m ro' ops lo ⟨tm,objs',dl⟩ K) (hi:objs[i]?=some (.box cs):=by rfl) (hj:cs[j]?=some (.d .nilsl):=by rfl) (he:objs.set i (.box (cs.set j (.sr objs.length sz [])))++[.room 0 sz]=objs':=by rfl) :
  RunOps P nt m ro' ops lo ⟨tm,objs,dl⟩ K:=by
 subst he;intro D0 β0 o0 w0 hb0 ro Q a w n hro hlo hK hs;obtain⟨D,β,h1,h2,h3⟩:=hs;obtain⟨β2,st⟩:=qlN h1.heap sz hi hj;exact h D0 β0 o0 w0 hb0 ro Q a w n hro hlo hK ⟨D,β2,h1.trans st,h2.mono st.dsub st.bext,h3.mono st.dsub st.bext⟩
def shA (n:Nat):Nat->AV->AV
 |0,_=>.d .any
 |_+1,.d x=>.d x
 |_+1,.bp i off=>.bp (n+i) off
 |_+1,.sr i sz es=>.sr (n+i) sz es
 |_+1,.bs i off len cap=>.bs (n+i) off len cap
 |_+1,.mp i=>.mp (n+i)
 |k+1,.agg cs=>.agg (cs.map (shA n k))
 |k+1,.tup cs=>.tup (cs.map (shA n k))
 |_+1,.vs i sz lo len=>.vs (n+i) sz lo len
 |_+1,_=>.d .any
def shO (n:Nat):Ob->Ob
 |.box cs=>.box (cs.map (shA n 8))
 |.room m sz=>.room m sz
 |.map kvs=>.map kvs
 |.raw o=>.raw o
 |.sit s p=>.sit s p
 |.vec t ag sz m cs=>.vec t ag sz m (cs.map (shA n 8))
 |.tb t cs=>.tb t (cs.map (shA n 8))
 |_=>.gone
theorem qoR {D:qay} {β0 β:List Bi}:∀ (k:Nat) {x:AV} {v:Value},RepA D β x v->RepA D (β0++β) (shA β0.length k x) v:=by
 have look:∀ {i:Nat} {bi:Bi},β[i]?=some bi->(β0++β)[β0.length+i]?=some bi:=fun h=>by
  rw [List.getElem?_append_right (by omega),Nat.add_sub_cancel_left];exact h
 intro k
 induction k with
 |zero=>exact fun _=>.d .any
 |succ k ih =>
  intro x v h;cases h with
  |d h=>exact .d h
  |bp h=>exact .bp (look h)
  |sr h hh hd=>exact .sr (look h) hh hd
  |bs h=>exact .bs (look h)
  |mp h=>exact .mp (look h)
  |fn=>exact .d .any
  |agg h h1 hr =>
   refine .agg (by simp [h]) h1 fun j c v hc hv=>?_;simp only [List.getElem?_map,Option.map_eq_some_iff] at hc;obtain⟨y,hy,rfl⟩:=hc;exact ih (hr j y v hy hv)
  |tup h hr =>
   refine .tup (by simp [h]) fun j c v hc hv=>?_;simp only [List.getElem?_map,Option.map_eq_some_iff] at hc;obtain⟨y,hy,rfl⟩:=hc;exact ih (hr j y v hy hv)
  |yl h=>exact .d .any
  |vs h hh hc hm hn hx=>exact .vs (look h) hh hc hm hn hx
theorem qik {n:Nat} {bi:Bi} {ob:Ob} {b:Nat} (h:qar bi (shO n ob)=some b):qar bi ob=some b:=by
 cases ob<;>first|exact h|(simp only [shO,qar] at h |-;exact h)|(simp only [shO,qar] at h;cases h)
theorem qxU {D:qay} {β0 β:List Bi} {w:World} {bi:Bi} {ob:Ob} (h:HoldsOb D β w bi ob):HoldsOb D (β0++β) w bi (shO β0.length ob):=by
 cases ob with
 |box cs =>
  obtain⟨vs,T,g1,g2,g3,g4,g5⟩:=h;refine⟨vs,T,g1,by simp [g2],fun j c v hc hv=>?_,g4,g5⟩;simp only [List.getElem?_map,Option.map_eq_some_iff] at hc;obtain⟨y,hy,rfl⟩:=hc;exact qoR 8 (g3 j y v hy hv)
 |tb ty cs =>
  obtain⟨vs,T,g1,g2,g3,g4,g5⟩:=h;refine⟨vs,T,g1,by simp [g2],fun j c v hc hv=>?_,g4,g5⟩;simp only [List.getElem?_map,Option.map_eq_some_iff] at hc;obtain⟨y,hy,rfl⟩:=hc;exact qoR 8 (g3 j y v hy hv)
 |vec ty ag sz m cs =>
  obtain⟨a,cap,g1,g2,g3,g4,g5,g6⟩:=h;refine⟨a,cap,g1,g2,g3,by simp [g4],g5,fun ad e=>?_⟩;obtain⟨k1,vs,T,k2,k3,k4,k5,k6⟩:=g6 ad e;refine⟨k1,vs,T,k2,k3,fun j c v hc hv=>?_,k5,k6⟩;simp only [List.getElem?_map,Option.map_eq_some_iff] at hc;obtain⟨y,hy,rfl⟩:=hc;exact qoR 8 (k4 j y v hy hv)
 |loop=>trivial
 |gone=>trivial
 |_=>exact h
theorem Step.lift {D D':qay} {β β':List Bi} {objs objs':List Ob} {w w':World} (hp:Heap D β objs w) (h:Step D [] [] w D' β' objs' w'):Step D β objs w D' (β++β') (objs++objs'.map (shO objs.length)) w':=by
 have hb:=h.bare hp;have hl:=hp.len;have hl':=h.heap.len;have cut:∀ (i:Nat) bi ob,(β++β')[i]?=some bi->(objs++objs'.map (shO objs.length))[i]?=some ob->(β[i]?=some bi/\objs[i]?=some ob)\/(objs.length<=i/\β'[i-objs.length]?=some bi/\∃ ob',objs'[i-objs.length]?=some ob'/\ob=shO objs.length ob'):=by
  intro i bi ob h1 h2;rcases Nat.lt_or_ge i objs.length with hi|hi
  .rw [List.getElem?_append_left (by omega)] at h1
   rw [List.getElem?_append_left hi] at h2;exact .inl ⟨h1,h2⟩
  .rw [List.getElem?_append_right (by omega),hl] at h1
   rw [List.getElem?_append_right hi,List.getElem?_map,Option.map_eq_some_iff] at h2;obtain⟨o,h2,e⟩:=h2;exact .inr ⟨hi,h1,o,h2,e.symm⟩
 have new:∀ (i:Nat) bi ob b,β'[i]?=some bi->objs'[i]?=some ob->qar bi ob=some b->w.heap.size<=b:=fun i bi ob b h1 h2 h3=>(h.ownn b ⟨i,bi,ob,h1,h2,h3⟩).elim (fun h=>absurd h qbv) id;refine⟨h.dsub,hb.dnew,fun i x hx=>⟨x,?_,BiExt.refl x⟩,⟨h.heap.dh,by simp [hl,hl'],fun i bi ob h1 h2=>?_,fun i j bi bj oi oj b h1 h2 h3 h4 h5 h6=>?_⟩,h.size,hb.keep,h.os,h.tape,h.output,?_⟩
 .rw [List.getElem?_append_left (List.getElem?_eq_some_iff.1 hx).1];exact hx
 .rcases cut i bi ob h1 h2 with⟨a,b⟩|⟨a,b,o,c,rfl⟩
  .refine(hb.heap.hold i bi ob a b).mono (fun _ _ h=>h) (fun k x hx=>⟨x,?_,BiExt.refl x⟩) (fun ad v h3 h4=>by rw [h3] at h4;cases h4) (fun _ _=>rfl)
   rw [List.getElem?_append_left (List.getElem?_eq_some_iff.1 hx).1];exact hx
  .have:=qxU (β0:=β) (h.heap.hold _ bi o b c)
   rwa [hl] at this
 .rcases cut i bi oi h1 h3 with⟨a1,b1⟩|⟨a1,b1,o1,c1,rfl⟩<;>rcases cut j bj oj h2 h4 with⟨a2,b2⟩|⟨a2,b2,o2,c2,rfl⟩
  .exact hp.disj i j bi bj oi oj b a1 a2 b1 b2 h5 h6
  .have:=hp.own_lt ⟨i,bi,oi,a1,b1,h5⟩
   have:=new _ _ _ _ b2 c2 (qik h6);omega
  .have:=hp.own_lt ⟨j,bj,oj,a2,b2,h6⟩
   have:=new _ _ _ _ b1 c1 (qik h5);omega
  .have:=h.heap.disj _ _ bi bj o1 o2 b b1 b2 c1 c2 (qik h5) (qik h6)
   omega
 .rintro b ⟨i,bi,ob,h1,h2,h3⟩
  rcases cut i bi ob h1 h2 with⟨a1,b1⟩|⟨a1,b1,o1,c1,rfl⟩
  .exact .inl ⟨i,bi,ob,a1,b1,h3⟩
  .exact .inr (new _ _ _ _ b1 c1 (qik h3))
theorem ACall.lift {P:Program} {f:FuncId} {ds:List DV} {r:AV} {objs':List Ob} (h:ACall P f (ds.map .d) [] r objs') (hp:qba r=false) (objs:List Ob):ACall P f (ds.map .d) objs (shA objs.length 8 r) (objs++objs'.map (shO objs.length)):=by
 refine⟨h.1,fun D β w vs hh hv=>(h.2 D [] w vs hh.bare ⟨hv.1,fun j c v hc hw=>?_⟩).mono fun e w' he=>?_⟩
 .have:=hv.2 j c v hc hw
  simp only [List.getElem?_map,Option.map_eq_some_iff] at hc;obtain⟨d,_,rfl⟩:=hc;cases this with
  |d this=>exact .d this
 .rcases he with⟨v,D',β',rfl,hs,hv⟩|⟨x,v,D',β',hx,_⟩
  .have:=qoR (β0:=β) 8 hv
   rw [hh.len] at this;exact .inl ⟨v,D',β++β',rfl,hs.lift hh,this⟩
  .rw [hx] at hp;cases hp
open Classical in
noncomputable def quS (D:qay) (b n:Nat) (w:World):qay:=fun ad=>if ad.block=b/\ad.spot=none/\ad.off<n then w.cell? ad else D ad
theorem qpB {D:qay} {β:List Bi} {objs:List Ob} {w:World} (h:Heap D β objs w) {i:Nat} {bi:Bi} {ds:List DV} (hb:β[i]?=some bi) (ho:objs[i]?=some (.box (ds.map .d))) :
  Step D β objs w (quS D bi.blk ds.length w) β (objs.set i .gone) w/\∀ off,off<=ds.length->RepD (quS D bi.blk ds.length w) (.ep (ds.drop off)) (.pointer (some ⟨bi.blk,off,none⟩)):=by
 obtain⟨vs,T,g1,g2,g3,g4,g5⟩:=h.hold i bi _ hb ho;rw [List.length_map] at g2;have cell:∀ ad:Addr,ad.block=bi.blk->ad.spot=none->ad.off<ds.length->∃ v,w.cell? ad=some v/\vs[ad.off]?=some v/\v.oneCell'=true:=by
  rintro⟨b,o,sp⟩ h1 h2 h3
  simp only at h1 h2 h3;subst h1 h2;have hlt:o<vs.size:=by omega
  refine⟨vs[o],?_,by simp [hlt],g4 o _ (by simp [hlt])⟩;rw [qaO g1];simp [hlt]
 have sub:∀ ad v,D ad=some v->quS D bi.blk ds.length w ad=some v:=fun ad v hd=>by
  unfold quS;rw [if_neg (fun hv=>by rw [g5 ad hv.1] at hd;cases hd)];exact hd
 have new:∀ ad v,quS D bi.blk ds.length w ad=some v->D ad=none->(ad.block=bi.blk/\ad.spot=none/\ad.off<ds.length)/\w.cell? ad=some v:=fun ad v h1 h2=>by
  unfold quS at h1;split at h1
  .rename_i hv;exact⟨hv,h1⟩
  .rw [h2] at h1;cases h1
 have get:∀ (j:Nat) o,(objs.set i .gone)[j]?=some o->(j=i/\o=.gone)\/(j≠i/\objs[j]?=some o):=fun j o hj=>by
  by_cases hij:i=j
  .subst hij
   rw [List.getElem?_set_self (List.getElem?_eq_some_iff.1 ho).1] at hj;cases hj;exact .inl ⟨rfl,rfl⟩
  .rw [List.getElem?_set_ne hij] at hj;exact .inr ⟨fun e=>hij e.symm,hj⟩
 refine⟨⟨sub,fun ad v h1 h2=>.inl ⟨i,bi,_,hb,ho,by rw [(new ad v h1 h2).1.1];rfl⟩,fun i x hx=>⟨x,hx,BiExt.refl x⟩,⟨fun ad v hv=>?_,by simp [h.len],fun j bj o h1 h2=>?_,fun j k bj bk oj ok b h1 h2 h3 h4 h5 h6=>?_⟩,
  Nat.le_refl _,fun _ _ _=>rfl,rfl,rfl,rfl,?_⟩,fun off hoff=>?_⟩
 .cases h0:D ad with
  |some u =>
   have:=sub ad u h0;rw [this] at hv;cases hv;exact h.dh ad _ h0
  |none =>
   obtain⟨⟨e1,e2,e3⟩,hv2⟩:=new ad v hv h0;obtain⟨u,k1,_,k3⟩:=cell ad e1 e2 e3;rw [k1] at hv2;cases hv2;exact⟨e2,k3,k1⟩
 .rcases get j o h2 with⟨rfl,rfl⟩|⟨hne,h2⟩
  .trivial
  .refine(h.hold j bj o h1 h2).mono sub (fun i x hx=>⟨x,hx,BiExt.refl x⟩) (fun ad v h3 h4 h5=>?_) (fun b _=>rfl)
   exact hne (h.disj j i bj bi o _ ad.block h1 hb h2 ho h5 (by rw [(new ad v h3 h4).1.1];rfl))
 .rcases get j oj h3 with⟨rfl,rfl⟩|⟨_,h3⟩
  .cases h5
  .rcases get k ok h4 with⟨rfl,rfl⟩|⟨_,h4⟩
   .cases h6
   .exact h.disj j k bj bk oj ok b h1 h2 h3 h4 h5 h6
 .rintro b ⟨j,bj,oj,h1,h2,h3⟩
  rcases get j oj h2 with⟨rfl,rfl⟩|⟨_,h2⟩
  .cases h3
  .exact .inl ⟨j,bj,oj,h1,h2,h3⟩
 .refine .ep (vs.toList.drop off) rfl (by simp;omega) (fun j v hj=>?_) (fun j c v hc hv=>?_)
  .rw [List.getElem?_drop] at hj
   have hj:vs[off+j]?=some v:=by simpa using hj
   have hlt:off+j<ds.length:=by have:=(Array.getElem?_eq_some_iff.1 hj).1;omega
   obtain⟨u,k1,k2,_⟩:=cell ⟨bi.blk,off+j,none⟩ rfl rfl hlt;simp only at k2;rw [hj] at k2;cases k2;unfold quS;rw [if_pos ⟨rfl,rfl,hlt⟩];exact k1
  .rw [List.getElem?_drop] at hc hv
   have:=g3 (off+j) (.d c) v (by simp [hc]) (by simpa using hv);cases this with
   |d this=>exact this.mono sub
section
variable {P:Program} {nt m:Nat} {ro':Option Nat} {K:Ex->S->Prop} {c:Code} {tm tm':PT AV} {objs objs':List Ob} {dl:List Dl}
theorem Run.freeze (i:Nat) {ds:List DV} (h:Run P nt m ro' c ⟨tm',objs',[]⟩ K) (hi:objs[i]?=some (.box (ds.map .d))) (he:objs.set i .gone=objs')
  (ht:∀ t v,tm'.get? t=some v->tm.get? t=some v\/∃ off,off<=ds.length/\tm.get? t=some (.bp i off)/\v=.d (.ep (ds.drop off))):Run P nt m ro' c ⟨tm,objs,[]⟩ K:=by
 subst he;intro D0 β0 o0 w0 hb0 ro Q a w hro hK hs;obtain⟨D,β,h1,h2,h3⟩:=hs;have hil:=(List.getElem?_eq_some_iff.1 hi).1;obtain⟨bi,hb⟩:∃ bi,β[i]?=some bi:=⟨β[i]'(by rw [h1.heap.len];exact hil),by simp [h1.heap.len,hil]⟩
 obtain⟨st,hr⟩:=qpB h1.heap hb hi;refine h D0 β0 o0 w0 hb0 ro Q a w hro hK ⟨_,β,h1.trans st,⟨h2.1,fun t=>?_⟩,h3.mono st.dsub st.bext⟩;cases hv:tm'.get? t with
 |none=>exact .d .any
 |some v =>
  rcases ht t v hv with e|⟨off,h4,h5,rfl⟩
  .have:=h2.2 t
   rw [e] at this;exact st.repA this
  .have:=h2.2 t
   rw [h5] at this;simp only [Option.getD_some] at this |-;generalize a.tmps.getD t undef=u at this |-;cases this with
   |bp hb'=>rw [hb] at hb';cases hb';exact .d (hr off h4)
theorem qtb {D:qay} {β:List Bi} {objs:List Ob} {w:World} (h:Heap D β objs w) {i j:Nat} {cs:List AV} (T:TypeId) (ag:Bool) (sz:Nat) (hi:objs[i]?=some (.box cs)) (hj:cs[j]?=some (.d .nilsl)) :
  ∃ β',Step D β objs w D β' (objs.set i (.box (cs.set j (.vs objs.length sz 0 0)))++[.vec T ag sz 0 []]) w:=by
 obtain⟨nb,hnb⟩:∃ nb:Bi,nb=⟨0,fun n=>if n=0 then some (none,0) else none⟩:=⟨_,rfl⟩
 have hh:nb.hist 0=some (none,0):=by rw [hnb];rfl
 have st:Step D β objs w D (β++[nb]) (objs++[.vec T ag sz 0 []]) w:=by
  have get:∀ (k:Nat) (x:Bi) o,(β++[nb])[k]?=some x->(objs++[Ob.vec T ag sz 0 []])[k]?=some o->(β[k]?=some x/\objs[k]?=some o)\/(k=objs.length/\x=nb/\o=.vec T ag sz 0 []):=fun k x o h1 h2=>by
   rcases Nat.lt_or_ge k objs.length with hk|hk
   .rw [List.getElem?_append_left (by rw [h.len];exact hk)] at h1
    rw [List.getElem?_append_left hk] at h2;exact .inl ⟨h1,h2⟩
   .rw [List.getElem?_append_right hk] at h2
    rw [List.getElem?_append_right (by rw [h.len];exact hk),h.len] at h1
    match hd:k-objs.length with
    |0=>rw [hd] at h1 h2;cases h1;cases h2;exact .inr ⟨by omega,rfl,rfl⟩
    |d+1=>rw [hd] at h1;cases h1
  have own0:∀ b,qar nb (.vec T ag sz 0 [])=some b->False:=fun b hb=>by simp [qar,hh] at hb
  have ext:∀ (k:Nat) x,β[k]?=some x->∃ y,(β++[nb])[k]?=some y/\BiExt x y:=fun k x hx=>⟨x,by rw [List.getElem?_append_left (List.getElem?_eq_some_iff.1 hx).1];exact hx,BiExt.refl x⟩
  refine⟨fun _ _ h=>h,fun _ _ h1 h2=>(by rw [h2] at h1;cases h1),ext,⟨h.dh,by simp [h.len],fun k x o h1 h2=>?_,fun k l bk bl ok ol b h1 h2 h3 h4 h5 h6=>?_⟩,Nat.le_refl _,fun _ _ _=>rfl,rfl,rfl,rfl,?_⟩
  .rcases get k x o h1 h2 with⟨h1,h2⟩|⟨rfl,rfl,rfl⟩
   .exact(h.hold k x o h1 h2).mono (fun _ _ h=>h) ext (fun ad v h3 h4 _=>by rw [h4] at h3;cases h3) (fun b _=>rfl)
   .exact⟨none,0,hh,Nat.le_refl _,Nat.zero_le _,by simp,fun _=>rfl,fun ad e=>by cases e⟩
  .rcases get k bk ok h1 h3 with⟨h1,h3⟩|⟨rfl,rfl,rfl⟩
   .rcases get l bl ol h2 h4 with⟨h2,h4⟩|⟨rfl,rfl,rfl⟩
    .exact h.disj k l bk bl ok ol b h1 h2 h3 h4 h5 h6
    .exact(own0 b h6).elim
   .exact(own0 b h5).elim
  .rintro b ⟨k,bk,ok,h1,h2,h3⟩
   rcases get k bk ok h1 h2 with⟨h1,h2⟩|⟨rfl,rfl,rfl⟩
   .exact .inl ⟨k,bk,ok,h1,h2,h3⟩
   .exact(own0 b h3).elim
 have hil:=(List.getElem?_eq_some_iff.1 hi).1;have hi2:(objs++[Ob.vec T ag sz 0 []])[i]?=some (.box cs):=by rw [List.getElem?_append_left hil];exact hi
 obtain⟨bi,hb⟩:∃ bi,(β++[nb])[i]?=some bi:=⟨(β++[nb])[i]'(by simp [h.len];omega),by simp⟩
 obtain⟨vs,U,g1,g2,g3,g4,g5⟩:=st.heap.hold i _ _ hb hi2;have hrep:RepA D (β++[nb]) (.vs objs.length sz 0 0) (.slice none 0 0) :=
  .vs (bi:=nb) (a:=none) (cap:=0) (by rw [List.getElem?_append_right (by rw [h.len];exact Nat.le_refl _),h.len];simp) hh (Nat.le_refl _) (Nat.zero_le _) ⟨fun _=>rfl,fun _=>rfl,fun x e=>by cases e⟩ (fun _=>⟨rfl,rfl⟩)
 have st2:=Step.retell st.heap (ob':=.box (cs.set j (.vs objs.length sz 0 0))) hb hi2 (fun b hb=>hb) ⟨vs,U,g1,by simp [g2],fun k c v hc hv=>by
  by_cases hk:j=k
  .subst hk
   rw [List.getElem?_set_self (List.getElem?_eq_some_iff.1 hj).1] at hc;cases hc;have:=g3 j _ v hj hv;cases this with
   |d this=>cases this;exact hrep
  .rw [List.getElem?_set_ne hk] at hc
   exact g3 k c v hc hv,g4,g5⟩
 have e:(objs++[Ob.vec T ag sz 0 []]).set i (.box (cs.set j (.vs objs.length sz 0 0)))=objs.set i (.box (cs.set j (.vs objs.length sz 0 0)))++[.vec T ag sz 0 []]:=List.set_append_left _ _ hil;rw [e] at st2;exact⟨_,st.trans st2⟩
theorem Run.cellVec (i j:Nat) (T:TypeId) (ag:Bool) (sz:Nat) {cs:List AV} (h:Run P nt m ro' c ⟨tm,objs',dl⟩ K) (hi:objs[i]?=some (.box cs):=by rfl) (hj:cs[j]?=some (.d .nilsl):=by rfl)
  (he:objs.set i (.box (cs.set j (.vs objs.length sz 0 0)))++[.vec T ag sz 0 []]=objs':=by rfl):Run P nt m ro' c ⟨tm,objs,dl⟩ K:=by
 subst he;intro D0 β0 o0 w0 hb0 ro Q a w hro hK hs;obtain⟨D,β,h1,h2,h3⟩:=hs;obtain⟨β2,st⟩:=qtb h1.heap T ag sz hi hj;exact h D0 β0 o0 w0 hb0 ro Q a w hro hK ⟨D,β2,h1.trans st,h2.mono st.dsub st.bext,h3.mono st.dsub st.bext⟩
end
theorem qoq {ρ:Nat->Nat} {n:Nat} (h:∀ i,i<n->ρ i=i):∀ (k:Nat) {x:AV},okA n k x=true->reA ρ k x=x:=by
 intro k
 induction k with
 |zero=>intro x h;cases h
 |succ k ih =>
  intro x hx;cases x<;>simp only [okA,Nat.blt_eq,List.all_eq_true,Bool.false_eq_true] at hx<;>simp only [reA]
  .rw [h _ hx]
  .rw [h _ hx]
  .rw [h _ hx]
  .rw [h _ hx]
  .congr 1
   rename_i cs
   conv=>rhs;rw [<- List.map_id cs]
   exact List.map_congr_left fun y hy=>ih (hx y hy)
  .rw [h _ hx]
theorem qwU {ρ:Nat->Nat} {n:Nat} (h:∀ i,i<n->ρ i=i) {ob:Ob} (ho:okO n ob=true):reO ρ ob=ob:=by
 have cells:∀ cs:List AV,cs.all (okA n 8)=true->cs.map (reA ρ 8)=cs:=fun cs hc=>by
  simp only [List.all_eq_true] at hc
  conv=>rhs;rw [<- List.map_id cs]
  exact List.map_congr_left fun y hy=>qoq h 8 (hc y hy)
 cases ob<;>simp only [okO,Bool.false_eq_true] at ho<;>simp only [reO]
 .rw [cells _ ho]
 .rw [cells _ ho]
 .rw [cells _ ho]
def okR (n:Nat):AV->Bool
 |.pan _=>true
 |.tup cs=>cs.all (okA n 7)
 |r=>okA n 8 r
theorem qwE {ρ:Nat->Nat} {n:Nat} (h:∀ i,i<n->ρ i=i) {r:AV} (hr:okR n r=true):reR ρ r=r:=by
 cases r with
 |pan=>rfl
 |tup cs =>
  simp only [okR,List.all_eq_true] at hr;simp only [reR,reA]
  congr 1
  conv=>rhs;rw [<- List.map_id cs]
  exact List.map_congr_left fun y hy=>qoq h 7 (hr y hy)
 |_=>exact qoq h 8 hr
theorem ACall.frame {P:Program} {f:FuncId} {args:List AV} {A A':List Ob} {r:AV} (h:ACall P f args A r A') (X:List Ob) (hl:A'.length=A.length) (hok:A.all (okO A.length)=true) (hok':A'.all (okO A.length)=true)
  (hargs:args.all (okA A.length 8)=true) (hr:okR A.length r=true):ACall P f args (A++X) r (A'++X):=by
 have hlow:∀ k,k<A.length->qfP (List.range A.length) (A++X).length k=k:=fun k hk=>by simp [qfP,hk]
 have hob:∀ ob,okO A.length ob=true->reO (qfP (List.range A.length) (A++X).length) ob=ob:=fun ob ho=>qwU hlow ho;simp only [List.all_eq_true] at hok hok' hargs;have:=h.embedR (Big:=A++X) (Big':=A'++X) (pos:=List.range A.length) (by simp) List.nodup_range (fun k ob hk=>?_) (by simpa using hok) (by simpa using hargs) (by simp [hl]) (fun p hp hn=>?_) (fun k ob hk=>?_)
 .rw [qwE hlow hr] at this
  have e:args.map (reA (qfP (List.range A.length) (A++X).length) 8)=args:=by
   conv=>rhs;rw [<- List.map_id args]
   exact List.map_congr_left fun y hy=>qoq hlow 8 (hargs y hy)
  rw [e] at this;exact this
 .have hkl:=(List.getElem?_eq_some_iff.1 hk).1
  refine⟨k,by simp [hkl],?_⟩;rw [List.getElem?_append_left hkl,hk,hob _ (hok ob (List.mem_of_getElem? hk))]
 .have:A.length<=p:=by simpa using hn
  rw [List.getElem?_append_right (by omega),List.getElem?_append_right this,hl]
 .have hkl:=(List.getElem?_eq_some_iff.1 hk).1
  rw [hlow k (by omega),List.getElem?_append_left hkl,hk,hob _ (hok' ob (List.mem_of_getElem? hk))]
def WkCs:List AV->List AV->Prop
 |[],[]=>True
 |c :: cs,d :: ds=>(d=.d .any\/d=c)/\WkCs cs ds
 |_,_=>False
inductive WkOb:Ob->Ob->Prop
 |gone {a:Ob}:WkOb a .gone
 |box {cs ds:List AV} (h:WkCs cs ds):WkOb (.box cs) (.box ds)
 |refl {a:Ob}:WkOb a a
def WkObs:List Ob->List Ob->Prop
 |_,[]=>True
 |a :: l,b :: m=>WkOb a b/\WkObs l m
 |[],_ :: _=>False
theorem WkCs.get:∀ {cs ds:List AV},WkCs cs ds->cs.length=ds.length/\∀ (j:Nat) c d,cs[j]?=some c->ds[j]?=some d->d=.d .any\/d=c
 |[],[],_=>⟨rfl,fun j c d h=>by simp at h⟩
 |c :: cs,d :: ds,⟨h1,h2⟩=>⟨by simp [h2.get.1],fun j c' d' hc hd=>match j with
  |0=>by simp at hc hd;subst hc hd;exact h1
  |j+1=>h2.get.2 j c' d' (by simpa using hc) (by simpa using hd)⟩
 |[],_ :: _,h=>h.elim
 |_ :: _,[],h=>h.elim
theorem WkObs.get:∀ {l m:List Ob},WkObs l m->∀ (j:Nat) b,m[j]?=some b->∃ a,l[j]?=some a/\WkOb a b
 |_,[],_,j,b,h=>by simp at h
 |a :: l,b :: m,⟨h1,h2⟩,j,b',h=>match j,h with
  |0,h=>by simp at h;subst h;exact⟨a,rfl,h1⟩
  |j+1,h=>by
   obtain⟨a',h3,h4⟩:=h2.get j b' (by simpa using h);exact⟨a',by simpa using h3,h4⟩
 |[],_ :: _,h,_,_,_=>h.elim
theorem WkOb.own {bi:Bi} {a b:Ob} (h:WkOb a b) {n:Nat} (ho:qar bi b=some n):qar bi a=some n:=by
 cases h with
 |gone=>cases ho
 |box _=>exact ho
 |refl=>exact ho
theorem WkOb.holds {D:qay} {β:List Bi} {w:World} {bi:Bi} {a b:Ob} (h:WkOb a b) (hh:HoldsOb D β w bi a):HoldsOb D β w bi b:=by
 cases h with
 |gone=>trivial
 |refl=>exact hh
 |box hc =>
  obtain⟨vs,T,h1,h2,h3,h4,h5⟩:=hh;obtain⟨g1,g2⟩:=hc.get;refine⟨vs,T,h1,by omega,fun j d v hd hv=>?_,h4,h5⟩;rename_i cs ds;have hj:j<cs.length:=by have:=(List.getElem?_eq_some_iff.1 hd).1;omega
  rcases g2 j cs[j] d (by simp [hj]) hd with rfl|rfl
  .exact .d .any
  .exact h3 j _ v (by simp [hj]) hv
theorem Step.weak {D0 D:qay} {β0 β:List Bi} {o0 objs objs':List Ob} {w0 w:World} (h:Step D0 β0 o0 w0 D β objs w) (hw:WkObs objs objs') (hn:β0.length<=objs'.length) (hr:objs'.all (qbB objs'.length)=true):Step D0 β0 o0 w0 D (β.take objs'.length) objs' w:=by
 have get:∀ {α:Type} {l:List α} {i n:Nat} {x:α},(l.take n)[i]?=some x->l[i]?=some x/\i<n:=fun h=>getElem?_take_of h;have hle:objs'.length<=objs.length:=by
  rcases Nat.lt_or_ge objs.length objs'.length with hlt|hge
  .obtain⟨a,ha,_⟩:=hw.get objs.length objs'[objs.length] (by simp [hlt])
   have:=(List.getElem?_eq_some_iff.1 ha).1;omega
  .exact hge
 simp only [List.all_eq_true] at hr;refine { h with bext:=fun i x hx=>?_,heap:=⟨h.heap.dh,by simp [h.heap.len,hle],fun i bi ob h1 h2=>?_,fun i j bi bj oi oj b h1 h2 h3 h4 h5 h6=>?_⟩,ownn:=fun b hb=>?_ }
 .obtain⟨y,hy,he⟩:=h.bext i x hx
  have:=(List.getElem?_eq_some_iff.1 hx).1;exact⟨y,qdo hy (by rw [Nat.blt_eq];omega),he⟩
 .obtain⟨a,ha,hab⟩:=hw.get i ob h2
  exact qhA (hab.holds (h.heap.hold i bi a (get h1).1 ha)) (hr ob (List.mem_of_getElem? h2))
 .obtain⟨a,ha,hab⟩:=hw.get i oi h3
  obtain⟨c,hc,hcd⟩:=hw.get j oj h4;exact h.heap.disj i j bi bj a c b (get h1).1 (get h2).1 ha hc (hab.own h5) (hcd.own h6)
 .obtain⟨i,bi,ob,h1,h2,h3⟩:=hb
  obtain⟨a,ha,hab⟩:=hw.get i ob h2;exact h.ownn b ⟨i,bi,a,(get h1).1,ha,hab.own h3⟩
theorem qaj {P:Program} {f:FuncId} {i:FnI} (hF:qmt P f i) {args:List AV} {objs objs':List Ob} {x:DV} (hlen:args.length=i.np) (hle:Nat.ble i.np i.nt=true) (hol:objs'.length=objs.length) (hor:objs'.all (qbB objs'.length)=true)
  (h:Run P i.nt objs.length none i.body ⟨qb7 0 args .nil,objs,[]⟩ (fun e s=>e=.pan x/\s.dl=[]/\WkObs s.objs objs')):ACall P f args objs (.pan x) objs':=by
 obtain⟨fn,h1,h2,h3,h4,h5⟩:=qii hF hle;have hle:=Nat.le_of_ble_eq_true hle;refine⟨qep h1 h5 h2,fun D β w vs hp hr=>?_⟩;refine callsIn_of_wp_marks (F:=FW none) h1 h2 trivial ?_;have hsz:(vs++Array.replicate (fn.ntmps-vs.size) undef).size=i.nt:=by simp [h3,hr.1];omega
 have sim0:Sim D β objs w i.nt ⟨qb7 0 args .nil,objs,[]⟩ { tmps:=vs++Array.replicate (fn.ntmps-vs.size) undef,defers:=[] } w:=by
  refine⟨D,β,Step.refl hp,qd8 args vs.toList 0 .nil _ (by simp [hr.1]) (fun j c v hc hv=>hr.2 j c v hc (by simpa using hv)) (by omega) (fun j v hv=>?_) ⟨hsz,fun t=>.d .any⟩,trivial⟩;have hv:vs[j]?=some v:=by simpa using hv
  rw [Nat.zero_add,Array.getElem?_append_left (Array.getElem?_eq_some_iff.1 hv).1];exact hv
 refine h D β objs w (by rw [hp.len];exact Nat.le_refl _) none _ _ _ rfl (fun e s hk=>?_) sim0;obtain⟨rfl,hdl,hge⟩:=hk;refine⟨fun a w' hp _=>(by cases hp),fun y hy a w' v D1 β1 k1 k2 k3 k4=>?_⟩;cases hy;have k3:DlOK D1 β1 [] a.defers:=by rw [<- hdl];exact k3
 refine qez (nt:=i.nt) (tm:=s.tm) (m':=some x) (objs':=s.objs) qiR (D0:=D) (β0:=β) (o0:=objs) (w0:=w) (fun hm=>by cases hm) (fun y hy D2 β2 w2 v2 st2 hv2=>?_) [] a.defers (some x) _ s.objs w' D1 β1 rfl k3 ⟨v,rfl,k4⟩ k1 k2;cases hy;exact .inr ⟨x,v2,D2,β2.take objs'.length,rfl,rfl,st2.weak hge (by rw [hp.len,hol];exact Nat.le_refl _) hor,hv2⟩
inductive AvR:AV->AV->Prop
 |refl {x:AV}:AvR x x
 |sr {i sz:Nat} {es:List DV}:AvR (.sr i sz es) (.d (.sl sz es))
 |d {x y:DV} (h:DvN x y):AvR (.d x) (.d y)
theorem qad {P:Program} {E:PT Ty} (hE:qbp P E) {f:FuncId} {i:FnI} (hF:qmt P f i) {args:List AV} {objs objs':List Ob} {r:AV} (hlen:args.length=i.np) (hle:Nat.ble i.np i.nt=true) (hol:objs'.length=objs.length) (hor:objs'.all (qbB objs'.length)=true) (hrr:qg6 8 objs'.length r=true)
  (h:Run P i.nt objs.length none i.body ⟨qb7 0 args .nil,objs,[]⟩ (fun e s=>(match e with|.normal=>True|.ret=>True|_=>False)/\∃ objs2 r0,qaX H0 s.dl none s.objs=some (none,objs2)/\qaD E ⟨s.tm,objs2,[]⟩ i.results=some r0/\AvR r0 r/\WkObs objs2 objs')) :
  ACall P f args objs r objs':=by
 obtain⟨g1,g2⟩:=qdX (G:=fun o x=>AvR x r/\WkObs o objs') hE hF hlen hle (h.mono fun e s hk=>by
  obtain⟨k1,o2,r0,k2,k3,k4,k5⟩:=hk;exact⟨k1,o2,r0,k2,k3,k4,k5⟩)
 refine⟨g1,fun D β w vs hp hr=>(g2 D β w vs hp hr).mono fun e w' he=>?_⟩;obtain⟨o,x,⟨hx,hw⟩,he⟩:=he;have hn:β.length<=objs'.length:=by rw [hp.len,hol];exact Nat.le_refl _
 rcases he with⟨v,D',β',rfl,hs,hrep⟩|⟨y,v,D',β',rfl,rfl,hs,hrep⟩
 .refine .inl ⟨v,D',β'.take objs'.length,rfl,hs.weak hw hn hor,?_⟩
  cases hx with
  |refl=>exact qcC 8 hrr hrep
  |sr=>exact qcC 8 rfl (qgW hrep)
  |@d x1 y1 hd=>cases hrep with
   |d k=>exact .d (hd.rep k)
 .cases hx with
  |refl=>exact .inr ⟨y,v,D',β'.take objs'.length,rfl,rfl,hs.weak hw hn hor,hrep⟩
section
variable {P:Program} {E:PT Ty} {frz:List Nat} {nt m:Nat} {ro':Option Nat} {K:Ex->S->Prop} {ops:Array Oper} {l:List Oper} {o:Oper} {tm tm':PT AV} {objs objs':List Ob} {dl:List Dl} {s0:S} {i:Nat} {acc:List Eff} {G:S->Prop} {g:FuncId} {args:List AV} {r:AV} {A A' X:List Ob} {x:DV}
theorem oF (hA:ACall P g args A r A') (k:RunOps P nt m ro' ops l ⟨tm',objs',dl⟩ K) (hg:qan ops (rd tm) o=some true:=by rfl) (hc:qbd (rd tm) o.op=some (g,args):=by rfl) (ho:objs=A++X:=by rfl) (ho':A'++X=objs':=by rfl)
  (hl:A'.length=A.length:=by rfl) (h1:A.all (okO A.length)=true:=by rfl) (h2:A'.all (okO A.length)=true:=by rfl) (h3:args.all (okA A.length 8)=true:=by rfl) (h4:okR A.length r=true:=by rfl)
  (hp:qba r=false:=by rfl) (ht:qa6 nt tm o.dst r=some tm':=by rfl):RunOps P nt m ro' ops (o :: l) ⟨tm,objs,dl⟩ K:=by
 subst ho ho';exact RunOps.call hg hc (hA.frame X hl h1 h2 h3 h4) hp ht k
theorem eF (hA:ACall P g args A r A') (k:EvD P E frz nt ops s0 (i+1) (acc++[qbS (rd tm) objs o (some objs')]) l ⟨tm',objs',dl⟩ G) (hg:qan ops (rd tm) o=some true:=by rfl) (hc:qbd (rd tm) o.op=some (g,args):=by rfl) (ho:objs=A++X:=by rfl) (ho':A'++X=objs':=by rfl)
  (hl:A'.length=A.length:=by rfl) (h1:A.all (okO A.length)=true:=by rfl) (h2:A'.all (okO A.length)=true:=by rfl) (h3:args.all (okA A.length 8)=true:=by rfl) (h4:okR A.length r=true:=by rfl)
  (hh:qfM o.dst frz=false:=by rfl) (hp:qba r=false:=by rfl) (ht:qa6 nt tm o.dst r=some tm':=by rfl):EvD P E frz nt ops s0 i acc (o :: l) ⟨tm,objs,dl⟩ G:=by
 subst ho ho';exact EvD.any (qeA (objs:=A++X) (ob:=some (A'++X)) (fun o' h=>by cases h;exact hA.frame X hl h1 h2 h3 h4) (fun h=>by cases h)) hg (qc7 hc hh) hp ht k
theorem oFP (hA:ACall P g args A (.pan x) A') (k:K (.pan x) ⟨tm,A'++X,dl⟩) (hg:qan ops (rd tm) o=some true:=by rfl) (hc:qbd (rd tm) o.op=some (g,args):=by rfl) (ho:objs=A++X:=by rfl)
  (hl:A'.length=A.length:=by rfl) (h1:A.all (okO A.length)=true:=by rfl) (h2:A'.all (okO A.length)=true:=by rfl) (h3:args.all (okA A.length 8)=true:=by rfl):RunOps P nt m ro' ops (o :: l) ⟨tm,objs,dl⟩ K:=by
 subst ho;exact RunOps.panics hg (qjv hc (hA.frame X hl h1 h2 h3 rfl)) k
theorem qAo {y:Operand} {t:TypeId} (k:K (.pan (.iface t x)) ⟨tm,objs,dl⟩) (hg:qan ops (rd tm) o=some true:=by rfl) (ho:o.op=.panic y:=by rfl) (hx:rd tm y=.d (.iface t x):=by rfl):RunOps P nt m ro' ops (o :: l) ⟨tm,objs,dl⟩ K :=
 RunOps.panics hg (qko ho hx) k
end
def EvC (P:Program) (E:PT Ty) (frz:List Nat) (nt:Nat) (ops:Array Oper) (dead pk:Nat->Bool) (PN:DV->List Ob->Prop) (i:Nat) (acc:List Eff) (sts:List S) (l:List Oper) (s:S) (G:List Eff->List S->S->Prop):Prop :=
 ∃ (H:Nat->Hd) (es:List Eff) (ss:List S) (s':S),(∀ j,HOK P (H j))/\qaW E H frz nt ops dead pk i l s=some (es,s')/\ss.length=l.length /\
  (∀ k,k<l.length->∃ es' sk,ss[k]?=some sk/\qaW E H frz nt ops dead pk i (l.take k) s=some (es',sk)) /\
  (∀ k o sk x ob,l[k]?=some o->ss[k]?=some sk->pk (i+k)=true->qax E (H (i+k)) frz (rd sk.tm) sk.objs o=some (.pan x,ob,true)->PN x (ob.getD sk.objs))/\G (acc++es) (sts++ss) s'
section
variable {P:Program} {E:PT Ty} {frz:List Nat} {nt:Nat} {ops:Array Oper} {dead pk:Nat->Bool} {PN:DV->List Ob->Prop} {i:Nat} {acc:List Eff} {sts:List S} {l:List Oper} {o:Oper} {s:S} {G:List Eff->List S->S->Prop}
theorem qhK {H H':Nat->Hd}:∀ {l:List Oper} {i:Nat} {s:S},(∀ j,i<=j->H j=H' j)->qaW E H frz nt ops dead pk i l s=qaW E H' frz nt ops dead pk i l s
 |[],_,_,_=>rfl
 |o :: l,i,s,h=>by
  have ih:∀ s,qaW E H frz nt ops dead pk (i+1) l s=qaW E H' frz nt ops dead pk (i+1) l s:=fun s=>qhK fun j hj=>h j (by omega);unfold qaW;simp only [ih,h i (Nat.le_refl _)]
theorem EvC.nil (k:G acc sts s):EvC P E frz nt ops dead pk PN i acc sts [] s G :=
 ⟨fun _=>H0,[],[],s,fun _=>qiR,rfl,rfl,fun k hk=>absurd hk (Nat.not_lt_zero _),fun k o sk x ob h=>by simp at h,by simpa using k⟩
theorem EvC.step {H1:Hd} (h1:HOK P H1) {e:Eff} {s1:S} (hstep:∀ H:Nat->Hd,H i=H1->∀ l',qaW E H frz nt ops dead pk i (o :: l') s=(qaW E H frz nt ops dead pk (i+1) l' s1).map fun p=>(e :: p.1,p.2))
  (hpn:∀ x ob,pk i=true->qax E H1 frz (rd s.tm) s.objs o=some (.pan x,ob,true)->PN x (ob.getD s.objs)) (k:EvC P E frz nt ops dead pk PN (i+1) (acc++[e]) (sts++[s]) l s1 G):EvC P E frz nt ops dead pk PN i acc sts (o :: l) s G:=by
 obtain⟨H,es,ss,s',k1,k2,k3,k4,k5,k6⟩:=k;obtain⟨H',hH'⟩:∃ H':Nat->Hd,H'=fun j=>if j=i then H1 else H j:=⟨_,rfl⟩
 have hi:H' i=H1:=by rw [hH'];simp
 have hj:∀ j,j≠i->H' j=H j:=fun j hj=>by rw [hH'];simp [hj]
 have hc:∀ l s,qaW E H' frz nt ops dead pk (i+1) l s=qaW E H frz nt ops dead pk (i+1) l s:=fun l s=>qhK fun j h=>hj j (by omega);refine⟨H',e :: es,s :: ss,s',fun j=>?_,?_,by simp [k3],fun k hk=>?_,fun k o' sk x ob ho hs hp hv=>?_,?_⟩
 .by_cases h:j=i
  .subst h;rw [hi];exact h1
  .rw [hj j h];exact k1 j
 .rw [hstep H' hi,hc,k2];rfl
 .cases k with
  |zero=>exact⟨[],s,rfl,rfl⟩
  |succ k =>
   obtain⟨es',sk,g1,g2⟩:=k4 k (by simpa using hk);exact⟨e :: es',sk,by simpa using g1,by rw [List.take_succ_cons,hstep H' hi,hc,g2];rfl⟩
 .cases k with
  |zero =>
   simp at ho hs;subst ho hs;rw [Nat.add_zero,hi] at hv;exact hpn x ob (by simpa using hp) hv
  |succ k =>
   rw [show i+(k+1)=i+1+k by omega] at hp hv;rw [hj _ (by omega)] at hv;exact k5 k o' sk x ob (by simpa using ho) (by simpa using hs) hp hv
 .simpa [List.append_assoc] using k6
theorem EvC.any {H1:Hd} (h1:HOK P H1) {v:AV} {ob:Option (List Ob)} {tm:PT AV} (hd:dead i=false) (hpk:pk i=false) (hg:qan ops (rd s.tm) o=some true) (hv:qax E H1 frz (rd s.tm) s.objs o=some (v,ob,true))
  (hp:qba v=false) (ht:qa6 nt s.tm o.dst v=some tm) (k:EvC P E frz nt ops dead pk PN (i+1) (acc++[qbS (rd s.tm) s.objs o ob]) (sts++[s]) l ⟨tm,ob.getD s.objs,s.dl⟩ G):EvC P E frz nt ops dead pk PN i acc sts (o :: l) s G:=by
 refine EvC.step h1 (fun H hi l'=>?_) (fun x ob' hp'=>by rw [hpk] at hp';cases hp') k;rw [qaW];simp only [hd,hpk,hg,hi,hv,hp,ht];cases qaW E H frz nt ops dead pk (i+1) l' ⟨tm,ob.getD s.objs,s.dl⟩<;>rfl
theorem EvC.unreached {tm:PT AV} (hd:dead i=true) (hpk:pk i=false) (ht:qa6 nt s.tm o.dst (.d .any)=some tm) (k:EvC P E frz nt ops dead pk PN (i+1) (acc++[.a none]) (sts++[s]) l ⟨tm,s.objs,s.dl⟩ G):EvC P E frz nt ops dead pk PN i acc sts (o :: l) s G:=by
 refine EvC.step qiR (fun H hi l'=>?_) (fun x ob' hp'=>by rw [hpk] at hp';cases hp') k;rw [qaW];simp only [hd,ht];cases qaW E H frz nt ops dead pk (i+1) l' ⟨tm,s.objs,s.dl⟩<;>rfl
theorem EvC.pan {H1:Hd} (h1:HOK P H1) {x:DV} {ob:Option (List Ob)} {tm:PT AV} (hd:dead i=false) (hpk:pk i=true) (hg:qan ops (rd s.tm) o=some true) (hv:qax E H1 frz (rd s.tm) s.objs o=some (.pan x,ob,true)) (hpn:PN x (ob.getD s.objs))
  (ht:qa6 nt s.tm o.dst (.d .any)=some tm) (k:EvC P E frz nt ops dead pk PN (i+1) (acc++[.b none]) (sts++[s]) l ⟨tm,ob.getD s.objs,s.dl⟩ G):EvC P E frz nt ops dead pk PN i acc sts (o :: l) s G:=by
 refine EvC.step h1 (fun H hi l'=>?_) (fun x' ob' _ hv'=>?_) k
 .rw [qaW]
  simp only [hd,hpk,hg,hi,hv,ht];cases qaW E H frz nt ops dead pk (i+1) l' ⟨tm,ob.getD s.objs,s.dl⟩<;>rfl
 .rw [hv] at hv'
  simp only [Option.some.injEq,Prod.mk.injEq,AV.pan.injEq] at hv';obtain⟨rfl,rfl,_⟩:=hv';exact hpn
def qx4 (E:PT Ty) (ops:Array Oper) (ss:List S) (p:Nat × Nat):Prop :=
 ∃ o si sj sk v u1 u2,ops[p.1]?=some o/\ss[p.1]?=some si/\ss[p.2]?=some sj/\ss[p.2+1]?=some sk/\qca E (rd si.tm) sj.objs o.op=some (v,u1,true)/\qca E (rd si.tm) sk.objs o.op=some (v,u2,true)
def ql0 (E:PT Ty) (ops:Array Oper) (ss:List S):List (Nat × Nat)->Prop
 |[]=>True
 |p :: l=>qx4 E ops ss p/\ql0 E ops ss l
def qwg:List (Nat × Nat)->Nat->Nat->Bool
 |[],_,_=>false
 |p :: l,i,j=>(Nat.beq p.1 i && Nat.beq p.2 j) || qwg l i j
theorem qke {ss:List S}:∀ {l:List (Nat × Nat)},ql0 E ops ss l->∀ {i j:Nat},qwg l i j=true->qx4 E ops ss (i,j)
 |[],_,_,_,h=>by cases h
 |p :: l,⟨h1,h2⟩,i,j,h=>by
  simp only [qwg,Bool.or_eq_true,Bool.and_eq_true] at h;rcases h with⟨a,b⟩|h
  .have e1:=Nat.eq_of_beq_eq_true a
   have e2:=Nat.eq_of_beq_eq_true b;obtain⟨p1,p2⟩:=p;simp only at e1 e2;subst e1 e2;exact h1
  .exact qke h2 h
theorem qj5 {D0:qay} {β0:List Bi} {o0:List Ob} {w0:World} {A:Nat} {es:List Eff} {s':S} {H:Nat->Hd} {st:Nat->S} {vs:Nat->AV} (C:DrawC E H frz nt ops dead pk A s es s' st vs) {a:Act} {w:World} (hs:Sim D0 β0 o0 w0 nt s a w) :
  Inv ops s es st vs nt D0 β0 o0 w0 (Array.replicate ops.size false) a w.drew:=by
 have rep0:∀ i,(Array.replicate ops.size false).getD i false=false:=fun i=>by
  simp only [Array.getD_eq_getD_getElem?,Array.getElem?_replicate];split<;>rfl
 obtain⟨D,β,h1,h2,h3⟩:=hs;refine⟨by simp,fun i o ho h=>(by rw [rep0] at h;cases h),0,Nat.zero_le _,fun i q hi=>⟨fun h=>(by rw [rep0] at h;cases h),fun h=>(by omega)⟩,D,β,?_,h2.1,fun t=>?_,h3⟩
 .rw [C.tr.first];exact h1.trans (Step.drew h1.heap)
 .rw [qbM fun i hi=>by rw [qmI,rep0] at hi;exact absurd hi.1 (by simp)]
  exact h2.2 t
theorem qoU {H:Nat->Hd} {es:List Eff} {ss:List S} {s':S} {exc:List (Nat × Nat)} (k2:qaW E H frz nt ops dead pk 0 ops.toList s=some (es,s')) (k3:ss.length=ops.toList.length)
  (k4:∀ k,k<ops.toList.length->∃ es' sk,ss[k]?=some sk/\qaW E H frz nt ops dead pk 0 (ops.toList.take k) s=some (es',sk)) (hd:qsc E ops es (qwg exc)=true) (hx:ql0 E ops ss exc) :
  ∃ A st vs,DrawC E H frz nt ops dead pk A s es s' st vs:=by
 refine qlK k2 hd (fun i j h st pre li lj=>?_);obtain⟨o,si,sj,sk,v,u1,u2,e0,e1,e2,e3,e4,e5⟩:=qke hx h;have at':∀ k x,ss[k]?=some x->st k=x:=fun k x hk=>by
  have hkl:k<ops.toList.length:=by rw [<- k3];exact(List.getElem?_eq_some_iff.1 hk).1
  obtain⟨es',y,g1,g2⟩:=k4 k hkl;obtain⟨es2,g3⟩:=pre k (by simp at hkl;omega);rw [g2] at g3;simp only [Option.some.injEq,Prod.mk.injEq] at g3;rw [hk] at g1;cases g1;exact g3.2.symm
 simp only at e0 e1 e2 e3;rw [at' _ _ e1,at' _ _ e2,at' _ _ e3];exact⟨o,v,u1,u2,e0,e4,e5⟩
variable {m:Nat} {ro':Option Nat} {K:Ex->S->Prop}
theorem Run.drawC (hE:qbp P E) (hm:P.follows .mixedOrders=true) {id:Nat} (exc:List (Nat × Nat)) (h:EvC P E frz nt ops qcg qcg (fun _ _=>True) 0 [] [] ops.toList s (fun es ss s'=>qsc E ops es (qwg exc)=true/\ql0 E ops ss exc/\K .normal s')) :
  Run P nt m ro' (.region id ops true) s K:=fun D0 β0 o0 w0 _ ro Q a w _ hK hs=>by
 obtain⟨H,es,ss,s',k1,k2,k3,k4,_,k6,k7,k8⟩:=h;simp only [List.nil_append] at k6 k7;obtain⟨A,st,vs,C⟩:=qoU k2 k3 k4 k6 k7;have rep0:∀ i,(Array.replicate ops.size false).getD i false=false:=fun i=>by
  simp only [Array.getD_eq_getD_getElem?,Array.getElem?_replicate];split<;>rfl
 have hleft:left ops.size (Array.replicate ops.size false)<=ops.size:=by
  unfold left;exact Nat.le_trans (List.length_filter_le _ _) (by simp)
 exact wpIn_region_any hm ((qfp hE k1 C (fun i h=>by cases h) (fun _ a w hs=>(hK _ _ k8).1 a w rfl hs) (fun i o x ob _ h=>by cases h) ops.size).1 _ a _ hleft (qj5 C hs) (fun p h=>by cases h))
theorem Run.drawP (hE:qbp P E) (hm:P.follows .mixedOrders=true) {id:Nat} (exc:List (Nat × Nat)) (p:Nat) (L:List Nat) {x:DV} {obP:List Ob} (hp:Nat.blt p ops.size=true) (hL:(L.all fun i=>qne ((qpC ops.toList []).getD i 0) p)=true)
  (h:EvC P E frz nt ops (fun j=>qp6 j L) (fun j=>Nat.beq j p) (fun y ob=>y=x/\ob=obP) 0 [] [] ops.toList s (fun es ss _=>qsc E ops es (qwg exc)=true/\ql0 E ops ss exc)) (hk:K (.pan x) ⟨.nil,obP,s.dl⟩) :
  Run P nt m ro' (.region id ops true) s K:=fun D0 β0 o0 w0 _ ro Q a w _ hK hs=>by
 rw [Nat.blt_eq] at hp;obtain⟨H,es,ss,s',k1,k2,k3,k4,k5,k6,k7⟩:=h;simp only [List.nil_append] at k6 k7;obtain⟨A,st,vs,C⟩:=qoU k2 k3 k4 k6 k7;have rep0:∀ i,(Array.replicate ops.size false).getD i false=false:=fun i=>by
  simp only [Array.getD_eq_getD_getElem?,Array.getElem?_replicate];split<;>rfl
 have hleft:left ops.size (Array.replicate ops.size false)<=ops.size:=by
  unfold left;exact Nat.le_trans (List.length_filter_le _ _) (by simp)
 refine wpIn_region_any hm ((qfp hE k1 C (fun i h=>⟨p,by simp,qe1 ?_⟩) (fun hn=>?_) (fun i o y ob ho hpi hv a w D β v q1 q2 q3 q4 _=>?_) ops.size).1 _ a _ hleft (qj5 C hs) (fun p _=>rep0 p))
 .simp only [List.all_eq_true] at hL
  exact hL i (qib.1 h)
 .have:=hn p hp;simp at this
 .have hip:i<ops.toList.length:=by simpa using qbO ho
  obtain⟨es',sk,g1,g2⟩:=k4 i hip;obtain⟨es2,g3⟩:=C.tr.pre i (by omega);rw [g2] at g3;simp only [Option.some.injEq,Prod.mk.injEq] at g3;have hst:=g3.2;rw [<- hst] at hv q1;obtain⟨rfl,hob⟩:=k5 i o sk y ob (by simpa using ho) g1 (by simpa using hpi) (by simpa using hv);rw [hob] at q1;exact(hK _ _ hk).2 y rfl a w v D β q1 ⟨q2,fun t=>.d .any⟩ q3 q4
end
section
variable {P:Program} {E:PT Ty} {frz:List Nat} {nt:Nat} {ops:Array Oper} {dead pk:Nat->Bool} {PN:DV->List Ob->Prop} {i:Nat} {acc:List Eff} {sts:List S} {l:List Oper} {o:Oper} {G:List Eff->List S->S->Prop} {tm tm':PT AV} {objs objs' A A' X:List Ob} {dl:List Dl} {g:FuncId} {args:List AV} {r:AV} {x:DV}
theorem cX {v v':AV} {ob:Option (List Ob)} {fl:Bool} (k:EvC P E frz nt ops dead pk PN (i+1) (acc++[qbS (rd tm) objs o ob]) (sts++[⟨tm,objs,dl⟩]) l ⟨tm',objs',dl⟩ G) (hd:dead i=false:=by rfl) (hpk:pk i=false:=by rfl) (hg:qan ops (rd tm) o=some true:=by rfl)
  (hv:qax E H0 frz (rd tm) objs o=some (v',ob,fl):=by rfl) (hf:fl=true:=by rfl) (he:v'=v:=by first|(conv=>lhs;dsimp only)|rfl) (ho:ob.getD objs=objs':=by first|(conv=>lhs;dsimp only [Option.getD])|rfl) (hp:qba v=false:=by rfl) (ht:qa6 nt tm o.dst v=some tm':=by rfl) :
  EvC P E frz nt ops dead pk PN i acc sts (o :: l) ⟨tm,objs,dl⟩ G:=by
 subst he ho hf;exact EvC.any qiR hd hpk hg hv hp ht k
theorem qtF (hA:ACall P g args A r A') (k:EvC P E frz nt ops dead pk PN (i+1) (acc++[qbS (rd tm) objs o (some objs')]) (sts++[⟨tm,objs,dl⟩]) l ⟨tm',objs',dl⟩ G) (hd:dead i=false:=by rfl) (hpk:pk i=false:=by rfl) (hg:qan ops (rd tm) o=some true:=by rfl)
  (hc:qbd (rd tm) o.op=some (g,args):=by rfl) (ho:objs=A++X:=by rfl) (ho':A'++X=objs':=by rfl)
  (hl:A'.length=A.length:=by rfl) (h1:A.all (okO A.length)=true:=by rfl) (h2:A'.all (okO A.length)=true:=by rfl) (h3:args.all (okA A.length 8)=true:=by rfl) (h4:okR A.length r=true:=by rfl)
  (hh:qfM o.dst frz=false:=by rfl) (hp:qba r=false:=by rfl) (ht:qa6 nt tm o.dst r=some tm':=by rfl):EvC P E frz nt ops dead pk PN i acc sts (o :: l) ⟨tm,objs,dl⟩ G:=by
 subst ho ho';exact EvC.any (qeA (objs:=A++X) (ob:=some (A'++X)) (fun o' h=>by cases h;exact hA.frame X hl h1 h2 h3 h4) (fun h=>by cases h)) hd hpk hg (qc7 hc hh) hp ht k
theorem cD (k:EvC P E frz nt ops dead pk PN (i+1) (acc++[.a none]) (sts++[⟨tm,objs,dl⟩]) l ⟨tm',objs,dl⟩ G) (hd:dead i=true:=by rfl) (hpk:pk i=false:=by rfl) (ht:qa6 nt tm o.dst (.d .any)=some tm':=by rfl) :
  EvC P E frz nt ops dead pk PN i acc sts (o :: l) ⟨tm,objs,dl⟩ G:=EvC.unreached hd hpk ht k
theorem cP (hA:ACall P g args A (.pan x) A') (k:EvC P E frz nt ops dead pk PN (i+1) (acc++[.b none]) (sts++[⟨tm,objs,dl⟩]) l ⟨tm',objs',dl⟩ G) (hpn:PN x objs':=by exact⟨rfl,rfl⟩) (hd:dead i=false:=by rfl) (hpk:pk i=true:=by rfl)
  (hg:qan ops (rd tm) o=some true:=by rfl) (hc:qbd (rd tm) o.op=some (g,args):=by rfl) (ho:objs=A++X:=by rfl) (ho':A'++X=objs':=by rfl)
  (hl:A'.length=A.length:=by rfl) (h1:A.all (okO A.length)=true:=by rfl) (h2:A'.all (okO A.length)=true:=by rfl) (h3:args.all (okA A.length 8)=true:=by rfl)
  (hh:qfM o.dst frz=false:=by rfl) (ht:qa6 nt tm o.dst (.d .any)=some tm':=by rfl):EvC P E frz nt ops dead pk PN i acc sts (o :: l) ⟨tm,objs,dl⟩ G:=by
 subst ho ho';exact EvC.pan (qeA (objs:=A++X) (ob:=some (A'++X)) (fun o' h=>by cases h;exact hA.frame X hl h1 h2 h3 rfl) (fun h=>by cases h)) hd hpk hg (qc7 hc hh) hpn ht k
end
section
variable {P:Program} {nt m:Nat} {ro':Option Nat} {x y:Code} {s:S} {K:Ex->S->Prop}
theorem Run.mid (S1:S) (h1:Run P nt m ro' x s (fun e s1=>match e with|.normal=>qbU m s1 S1|e=>K e s1)) (h2:Run P nt m ro' y S1 K) :
  Run P nt m ro' x s (fun e s1=>match e with|.normal=>Run P nt m ro' y s1 K|e=>K e s1) :=
 h1.mono fun e s1 h=>by
  cases e with
  |normal=>exact Run.tidy h h2
  |_=>exact h
theorem Run.seqR {id:Nat} {ops:Array Oper} {draw:Bool} (h:Run P nt m ro' (.region id ops draw) s (fun e s1=>match e with|.normal=>Run P nt m ro' y s1 K|e=>K e s1)):Run P nt m ro' (.seq (.region id ops draw) y) s K:=Yq h
end
section
variable {P:Program} {nt m:Nat} {ro':Option Nat} {c:Code} {K:Ex->S->Prop} {tm:PT AV} {objs objs':List Ob} {dl:List Dl}
theorem Run.cellData (i j:Nat) {cs:List AV} {k sz:Nat} {es:List DV} (h:Run P nt m ro' c ⟨tm,objs',dl⟩ K) (hi:objs[i]?=some (.box cs):=by rfl) (hj:cs[j]?=some (.sr k sz es):=by rfl)
  (he:objs.set i (.box (cs.set j (.d (.sl sz es))))=objs':=by rfl):Run P nt m ro' c ⟨tm,objs,dl⟩ K:=by
 subst he;intro D0 β0 o0 w0 hb0 ro Q a w hro hK hs;obtain⟨D,β,h1,h2,h3⟩:=hs;have hil:=(List.getElem?_eq_some_iff.1 hi).1;obtain⟨bi,hb⟩:∃ bi,β[i]?=some bi:=⟨β[i]'(by rw [h1.heap.len];exact hil),by simp [h1.heap.len,hil]⟩
 obtain⟨vs,U,g1,g2,g3,g4,g5⟩:=h1.heap.hold i _ _ hb hi;have st:=Step.retell h1.heap (ob':=.box (cs.set j (.d (.sl sz es)))) hb hi (fun b hb=>hb) ⟨vs,U,g1,by simp [g2],fun n c v hc hv=>by
  by_cases hk:j=n
  .subst hk
   rw [List.getElem?_set_self (List.getElem?_eq_some_iff.1 hj).1] at hc;cases hc;exact qgW (g3 j _ v hj hv)
  .rw [List.getElem?_set_ne hk] at hc
   exact g3 n c v hc hv,g4,g5⟩
 exact h D0 β0 o0 w0 hb0 ro Q a w hro hK ⟨D,β,h1.trans st,h2.mono st.dsub st.bext,h3.mono st.dsub st.bext⟩
end
def qrn:List Ob->List Nat->List Ob->List Ob
 |B,p :: ps,o :: os=>qrn (B.set p o) ps os
 |B,_,_=>B
theorem qoo:∀ {B:List Ob} {ps:List Nat} {os:List Ob},(qrn B ps os).length=B.length
 |B,[],os=>by cases os<;>rfl
 |B,_ :: _,[]=>rfl
 |B,p :: ps,o :: os=>by rw [qrn,qoo,List.length_set]
theorem qlr:∀ {B:List Ob} {ps:List Nat} {os:List Ob} {q:Nat},q ∉ ps->(qrn B ps os)[q]?=B[q]?
 |B,[],os,_,_=>by cases os<;>rfl
 |B,_ :: _,[],_,_=>rfl
 |B,p :: ps,o :: os,q,h=>by
  rw [qrn,qlr (fun hq=>h (List.mem_cons_of_mem _ hq)),List.getElem?_set_ne (fun e=>h (by rw [e];exact List.mem_cons_self))]
theorem qq3:∀ {B:List Ob} {ps:List Nat} {os:List Ob} {k p:Nat} {o:Ob},ps.Nodup->(∀ p ∈ ps,p<B.length)->ps[k]?=some p->os[k]?=some o->(qrn B ps os)[p]?=some o
 |B,[],_,_,_,_,_,_,h,_=>by simp at h
 |B,_ :: _,[],_,_,_,_,_,_,h=>by simp at h
 |B,q :: ps,o' :: os,0,p,o,hn,hl,h1,h2=>by
  simp at h1 h2;subst h1 h2;rw [qrn,qlr (List.nodup_cons.1 hn).1,List.getElem?_set_self (hl _ List.mem_cons_self)]
 |B,q :: ps,o' :: os,k+1,p,o,hn,hl,h1,h2=>by
  rw [qrn];exact qq3 (List.nodup_cons.1 hn).2 (fun p hp=>by rw [List.length_set];exact hl p (List.mem_cons_of_mem _ hp)) (by simpa using h1) (by simpa using h2)
def qqy (ρ:Nat->Nat) (B:List Ob):List Nat->List Ob->Prop
 |[],[]=>True
 |p :: ps,o :: os=>B[p]?=some (reO ρ o)/\qqy ρ B ps os
 |_,_=>False
theorem qio {ρ:Nat->Nat} {B:List Ob}:∀ {ps:List Nat} {os:List Ob},qqy ρ B ps os->∀ (k:Nat) o,os[k]?=some o->∃ p,ps[k]?=some p/\B[p]?=some (reO ρ o)
 |[],[],_,k,o,h=>by simp at h
 |p :: ps,o' :: os,h,0,o,ho=>by simp at ho;subst ho;exact⟨p,rfl,h.1⟩
 |p :: ps,o' :: os,h,k+1,o,ho=>qio h.2 k o (by simpa using ho)
 |[],_ :: _,h,_,_,_=>h.elim
 |_ :: _,[],h,_,_,_=>h.elim
theorem ACall.at' {P:Program} {f:FuncId} {args:List AV} {A A':List Ob} {r:AV} (h:ACall P f args A r A') (pos:List Nat) {Big:List Ob} (hl:pos.length=A.length) (hl':A'.length=A.length) (hnd:pos.Nodup)
  (hB:qqy (qfP pos Big.length) Big pos A) (hok:A.all (okO A.length)=true) (hargs:args.all (okA A.length 8)=true) :
  ACall P f (args.map (reA (qfP pos Big.length) 8)) Big (reR (qfP pos Big.length) r) (qrn Big pos (A'.map (reO (qfP pos Big.length)))):=by
 have hlt:∀ p ∈ pos,p<Big.length:=fun p hp=>by
  obtain⟨k,hk,e⟩:=List.getElem_of_mem hp;have hkA:k<A.length:=by omega
  obtain⟨q,e1,e2⟩:=qio hB k A[k] (List.getElem?_eq_getElem hkA);rw [List.getElem?_eq_getElem hk,e] at e1;cases e1;exact(List.getElem?_eq_some_iff.1 e2).1
 refine h.embedR hl hnd (qio hB) hok hargs (by rw [qoo,hl']) (fun p _ hn=>qlr hn) (fun k ob hk=>?_);have hkl:k<pos.length:=by rw [hl,<- hl'];exact(List.getElem?_eq_some_iff.1 hk).1
 have e:qfP pos Big.length k=pos[k]:=by simp [qfP,hkl]
 exact qq3 (k:=k) hnd hlt (by rw [e];exact List.getElem?_eq_getElem hkl) (by rw [List.getElem?_map,hk];rfl)
section
variable {P:Program} {E:PT Ty} {frz:List Nat} {nt m:Nat} {ro':Option Nat} {K:Ex->S->Prop} {ops:Array Oper} {l:List Oper} {o:Oper} {tm tm':PT AV} {objs objs':List Ob} {dl:List Dl} {g:FuncId} {args args':List AV} {r r':AV} {A A':List Ob} {x:DV}
theorem oE (pos:List Nat) (hA:ACall P g args A r A') (k:RunOps P nt m ro' ops l ⟨tm',objs',dl⟩ K) (hg:qan ops (rd tm) o=some true:=by rfl) (hc:qbd (rd tm) o.op=some (g,args'):=by rfl) (ha:args.map (reA (qfP pos objs.length) 8)=args':=by rfl)
  (hr:reR (qfP pos objs.length) r=r':=by rfl) (ho':qrn objs pos (A'.map (reO (qfP pos objs.length)))=objs':=by rfl) (hl:pos.length=A.length:=by rfl) (hl':A'.length=A.length:=by rfl) (hnd:pos.Nodup:=by decide)
  (hB:qqy (qfP pos objs.length) objs pos A:=by repeat' (first|exact trivial|refine⟨rfl,?_⟩)) (h1:A.all (okO A.length)=true:=by rfl) (h3:args.all (okA A.length 8)=true:=by rfl)
  (hp:qba r'=false:=by rfl) (ht:qa6 nt tm o.dst r'=some tm':=by rfl):RunOps P nt m ro' ops (o :: l) ⟨tm,objs,dl⟩ K:=by
 subst ha hr ho';exact RunOps.call hg hc (hA.at' pos hl hl' hnd hB h1 h3) hp ht k
theorem oEP (pos:List Nat) (hA:ACall P g args A (.pan x) A') (k:K (.pan x) ⟨tm,objs',dl⟩) (hg:qan ops (rd tm) o=some true:=by rfl) (hc:qbd (rd tm) o.op=some (g,args'):=by rfl) (ha:args.map (reA (qfP pos objs.length) 8)=args':=by rfl)
  (ho':qrn objs pos (A'.map (reO (qfP pos objs.length)))=objs':=by rfl) (hl:pos.length=A.length:=by rfl) (hl':A'.length=A.length:=by rfl) (hnd:pos.Nodup:=by decide)
  (hB:qqy (qfP pos objs.length) objs pos A:=by repeat' (first|exact trivial|refine⟨rfl,?_⟩)) (h1:A.all (okO A.length)=true:=by rfl) (h3:args.all (okA A.length 8)=true:=by rfl):RunOps P nt m ro' ops (o :: l) ⟨tm,objs,dl⟩ K:=by
 subst ha ho';exact RunOps.panics hg (qjv hc (hA.at' pos hl hl' hnd hB h1 h3)) k
end
theorem RunOps.deferOp {P:Program} {nt m:Nat} {K:Ex->S->Prop} {ops:Array Oper} {l:List Oper} {o:Oper} {tm:PT AV} {objs:List Ob} {dl:List Dl} {g:FuncId} {args:List AV} (h:qi4 (rd tm) o.op=some (g,args)) (hd:o.dst=none) (hg:qan ops (rd tm) o=some true)
  (k:RunOps P nt m none ops l ⟨tm,objs,.call g args :: dl⟩ K):RunOps P nt m none ops (o :: l) ⟨tm,objs,dl⟩ K:=by
 intro D0 β0 o0 w0 hb0 ro Q a w i hro hl hK hs;have hi:ops[i]?=some o:=by have:=hl 0 (by simp);simpa using this
 have hl':∀ k:Nat,k<l.length->ops[i+1+k]?=l[k]?:=fun k hk=>by
  have:=hl (k+1) (by simp;omega);rw [show i+1+k=i+(k+1) by omega];simpa using this
 have hr:ro=none:=hro;subst hr;obtain⟨D,β,h1,h2,h3⟩:=hs;simp only [List.length_cons,List.range'_succ,wpOpsIn,hi];rw [qdg (fun x=>h2.rd x) hg];simp only [if_true];refine qoB h hd (fun x=>h2.rd x) (fun d hd=>?_);exact k D0 β0 o0 w0 hb0 none Q _ w (i+1) hro hl' hK ⟨D,β,h1,h2,hd,h3⟩
open Classical in
def qzE (g:FuncId) (args:List AV) (m:Option DV) (objs:List Ob) (m':Option DV) (objs':List Ob):Hd :=
 ⟨fun _ _ _=>none,fun _ _ _=>none,fun _ _ _=>none,fun g1 a1 m1 o1=>if g1=g/\a1=args/\m1=m/\o1=objs then some (m',objs') else none⟩
theorem qwf {P:Program} {g:FuncId} {args:List AV} {m:Option DV} {objs:List Ob} {m':Option DV} {objs':List Ob} (h:qki P g args m objs m' objs'):HOK P (qzE g args m objs m' objs'):=by
 refine⟨fun _ _ _ _ _ h=>(nomatch h),fun _ _ _ _ h=>(nomatch h),fun _ _ _ _ _ h=>(nomatch h),fun _ _ _ _ _ h=>(nomatch h),fun f a m1 o1 m2 o2 h1=>?_⟩;simp only [qzE] at h1;split at h1
 .rename_i hc
  obtain⟨rfl,rfl,rfl,rfl⟩:=hc;simp only [Option.some.injEq,Prod.mk.injEq] at h1;obtain⟨rfl,rfl⟩:=h1;exact h
 .cases h1
def exM:Ex->Option (Option DV)
 |.normal=>some none
 |.ret=>some none
 |.pan x=>some (some x)
 |_=>none
def LvD (P:Program) (m:Option DV) (s:S) (o2:List Ob):Prop:=(s.dl=[]/\m=none/\o2=s.objs)\/∃ g args,s.dl=[.call g args]/\qki P g args m s.objs none o2
theorem LvD.lv {P:Program} {m:Option DV} {s:S} {o2:List Ob} (h:LvD P m s o2):∃ H,HOK P H/\qaX H s.dl m s.objs=some (none,o2):=by
 rcases h with⟨h1,rfl,rfl⟩|⟨g,args,h1,h2⟩
 .exact⟨H0,qiR,by rw [h1];rfl⟩
 .exact⟨_,qwf h2,by rw [h1];simp [qaX,qzE]⟩
theorem qkV {P:Program} {E:PT Ty} (hE:qbp P E) {f:FuncId} {i:FnI} (hF:qmt P f i) {args:List AV} {objs:List Ob} {G:List Ob->AV->Prop} (hlen:args.length=i.np) (hle:Nat.ble i.np i.nt=true)
  (h:Run P i.nt objs.length none i.body ⟨qb7 0 args .nil,objs,[]⟩ (fun e s=>∃ m o2 r,exM e=some m/\LvD P m s o2/\qaD E ⟨s.tm,o2,[]⟩ i.results=some r/\G o2 r)) :
  qmB P f/\∀ D β w vs,Heap D β objs w->Reps D β args vs->CallsIn (FW none) 0 P f vs w (fun e w'=>∃ objs' r,G objs' r/\EndOK D β objs w r objs' e w'):=by
 obtain⟨fn,h1,h2,h3,h4,h5⟩:=qii hF hle;have hle:=Nat.le_of_ble_eq_true hle;refine⟨qep h1 h5 h2,fun D β w vs hp hr=>?_⟩;refine callsIn_of_wp_marks (F:=FW none) h1 h2 trivial ?_;have hsz:(vs++Array.replicate (fn.ntmps-vs.size) undef).size=i.nt:=by simp [h3,hr.1];omega
 have sim0:Sim D β objs w i.nt ⟨qb7 0 args .nil,objs,[]⟩ { tmps:=vs++Array.replicate (fn.ntmps-vs.size) undef,defers:=[] } w:=by
  refine⟨D,β,Step.refl hp,qd8 args vs.toList 0 .nil _ (by simp [hr.1]) (fun j c v hc hv=>hr.2 j c v hc (by simpa using hv)) (by omega) (fun j v hv=>?_) ⟨hsz,fun t=>.d .any⟩,trivial⟩;have hv:vs[j]?=some v:=by simpa using hv
  rw [Nat.zero_add,Array.getElem?_append_left (Array.getElem?_eq_some_iff.1 hv).1];exact hv
 refine h D β objs w (by rw [hp.len];exact Nat.le_refl _) none _ _ _ rfl (fun e s hk=>?_) sim0;obtain⟨m,o2,r,he,hlv,hres,hG⟩:=hk;obtain⟨H,hH,hlv⟩:=hlv.lv;have fin:∀ (a:Act) w' D1 β1 u,Step D β objs w D1 β1 s.objs w'->TmOK D1 β1 i.nt s.tm a.tmps->DlOK D1 β1 s.dl a.defers->qth D1 m u->LeavesInM (FW none) 0 P fn a.tmps (fun e w'=>∃ objs' r,G objs' r/\EndOK D β objs w r objs' e w') a.defers u w':=by
  intro a w' D1 β1 u q1 q2 q3 q4;refine qez hH (D0:=D) (β0:=β) (o0:=objs) (w0:=w) (fun _ D2 β2 w2 st2 tm2=>?_) (fun x hx=>by cases hx) s.dl a.defers m u s.objs w' D1 β1 hlv q3 q4 q1 q2;obtain⟨v,hv,hrep⟩:=qfy hE (s:=⟨s.tm,o2,[]⟩) (fn:=fn) st2.heap tm2 (by rw [h4];exact hres);exact⟨v,hv,o2,r,hG,.inl ⟨v,D2,β2,rfl,st2,hrep⟩⟩
 refine⟨fun a w' hp hs=>?_,fun x hx a w' v D1 β1 k1 k2 k3 k4=>?_⟩
 .obtain⟨D1,β1,q1,q2,q3⟩:=hs
  cases e with
  |normal=>simp only [exM,Option.some.injEq] at he;subst he;exact fin a w' D1 β1 .returning q1 q2 q3 rfl
  |ret=>simp only [exM,Option.some.injEq] at he;subst he;exact fin a w' D1 β1 .returning q1 q2 q3 rfl
  |exit id=>cases he
  |goto l=>cases he
  |pan x=>cases hp
 .subst hx
  simp only [exM,Option.some.injEq] at he;subst he;exact fin a w' D1 β1 _ k1 k2 k3 ⟨v,rfl,k4⟩
abbrev qw6 (P:Program) (E:PT Ty) (rv:Array ResultVar) (r:AV):Ex->S->Prop:=fun e s=>∃ m o2 r0,exM e=some m/\LvD P m s o2/\qaD E ⟨s.tm,o2,[]⟩ rv=some r0/\∃ r1,qbE o2 8 r0=some r1/\AvTo r1 r
theorem qvQ {P:Program} {E:PT Ty} {rv:Array ResultVar} {r r0 r1:AV} {e:Ex} {s:S} {m:Option DV} {o2:List Ob} (he:exM e=some m) (hl:LvD P m s o2) (h2:qaD E ⟨s.tm,o2,[]⟩ rv=some r0) (h3:qbE o2 8 r0=some r1) (h4:AvTo r1 r):qw6 P E rv r e s :=
 ⟨m,o2,r0,he,hl,h2,r1,h3,h4⟩
theorem qvg {P:Program} {E:PT Ty} (hE:qbp P E) {f:FuncId} {i:FnI} (hF:qmt P f i) {ds:List DV} {r:AV} (h:Run P i.nt 0 none i.body ⟨qb7 0 (ds.map .d) .nil,[],[]⟩ (qw6 P E i.results r)) (hlen:(ds.map AV.d).length=i.np:=by rfl) (hle:Nat.ble i.np i.nt=true:=by rfl) :
  qaa P f ds r:=by
 obtain⟨g1,g2⟩:=qkV (objs:=[]) (G:=fun o x=>∃ r1,qbE o 8 x=some r1/\AvTo r1 r) hE hF hlen hle h;intro o;refine⟨g1,fun D β w vs hp hv=>(g2 D [] w vs hp.bare ⟨hv.1,fun j c v hc hw=>?_⟩).mono fun e w' he=>?_⟩
 .have:=hv.2 j c v hc hw
  simp only [List.getElem?_map,Option.map_eq_some_iff] at hc;obtain⟨y,_,rfl⟩:=hc;cases this with
  |d h=>exact .d h
 .obtain⟨objs',r0,⟨r1,hr,hto⟩,⟨v,D',β',rfl,hs,hrep⟩|⟨x,v,D',β',rfl,rfl,hs,hrep⟩⟩:=he
  .exact .inl ⟨v,_,β,rfl,(hs.trans (qbQ hs.heap)).bare hp,hto.rep (qgK hs.heap hr hrep β)⟩
  .simp only [qbE,Option.some.injEq] at hr
   subst hr;exact .inr ⟨x,v,_,β,hto.pan,rfl,(hs.trans (qbQ hs.heap)).bare hp,(qbQ hs.heap).repD hrep⟩
end Go.Av
end
